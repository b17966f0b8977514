/- Items of a plan, plainly: which may be, which are kept. Plain laws, no program in sight. -/
import Derived.Test.YtkkhojealihghaaSnLaw
import Derived.Test.YtkkhojealihghaaKOk
namespace Go.Proofs.Ytkkhojealihghaa
open Go.RowKit

structure It where
  l : List UInt8
  q : Nat
  k : Int
  z : Int
def mayIt (last : Nat) : List It → Bool
  | [] => true
  | x :: r => mayB x.l.length && decide (last < x.q) && decide (x.q ≤ 1099511627776) && (x.k == 1 || x.k == 2) && decide (25 ≤ x.z) && decide (x.z ≤ 1113) && mayIt x.q r
def mayP (l : List It) : Bool := mayIt 0 l
def itAt (l : List It) (i : Nat) : It := (l[i]?).getD ⟨[], 0, 0, 0⟩
def keyAt (l : List It) (i : Nat) : List UInt8 := (itAt l i).l
theorem itAt_eq {l : List It} {i : Nat} {x : It} (h : l[i]? = some x) : itAt l i = x := by unfold itAt; rw [h]; rfl
/-- the places of a key, of the first j -/
def grpTo (l : List It) (j : Nat) (key : List UInt8) : List Nat := (List.range j).filter fun i => decide (keyAt l i = key)
theorem grpTo_succ (l : List It) (j : Nat) (key : List UInt8) : grpTo l (j + 1) key = if keyAt l j = key then grpTo l j key ++ [j] else grpTo l j key := by
  unfold grpTo
  rw [List.range_succ, List.filter_append]
  by_cases h : keyAt l j = key
  · simp [h]
  · simp [h]
theorem grpTo_le (l : List It) (j : Nat) (key : List UInt8) : (grpTo l j key).length ≤ j := by
  have := List.length_filter_le (fun i => decide (keyAt l i = key)) (List.range j)
  rw [List.length_range] at this
  exact this
def rank (l : List It) (i : Nat) : Nat := (grpTo l i (keyAt l i)).length
def verG (l : List It) (key : List UInt8) : List Sn.Ver := (grpTo l l.length key).map fun i => (((itAt l i).q : Int), (itAt l i).k)
theorem verG_len (l : List It) (key : List UInt8) : (verG l key).length = (grpTo l l.length key).length := by unfold verG; rw [List.length_map]
def keptI (l : List It) (at_ : List Int) (i : Nat) : Bool := Sn.keptAt (verG l (keyAt l i)) at_ (rank l i)
def keptP (l : List It) (at_ : List Int) : List Bool := (List.range l.length).map (keptI l at_)
theorem grp_get {l : List It} {n : Nat} {key : List UInt8} : ∀ {k i : Nat}, (grpTo l n key)[k]? = some i → i < n ∧ keyAt l i = key ∧ rank l i = k := by
  induction n with
  | zero => intro k i h; simp [grpTo] at h
  | succ n ih =>
    intro k i h
    rw [grpTo_succ] at h
    by_cases hk : keyAt l n = key
    · rw [if_pos hk] at h
      by_cases hlt : k < (grpTo l n key).length
      · rw [List.getElem?_append_left hlt] at h
        obtain ⟨h1, h2⟩ := ih h
        exact ⟨by omega, h2⟩
      · have hb := (List.getElem?_eq_some_iff.1 h).1
        rw [List.length_append, List.length_singleton] at hb
        have : k = (grpTo l n key).length := by omega
        subst this
        rw [List.getElem?_append_right (Nat.le_refl _)] at h
        simp at h
        subst h
        refine ⟨by omega, hk, ?_⟩
        unfold rank
        rw [hk]
    · rw [if_neg hk] at h
      obtain ⟨h1, h2⟩ := ih h
      exact ⟨by omega, h2⟩
theorem grp_mem {l : List It} {n i : Nat} (h : i < n) : i ∈ grpTo l n (keyAt l i) := by
  unfold grpTo
  exact List.mem_filter.2 ⟨List.mem_range.2 h, by simp⟩
theorem grp_rank {l : List It} {n i : Nat} (h : i < n) : (grpTo l n (keyAt l i))[rank l i]? = some i := by
  obtain ⟨k, hk, he⟩ := List.mem_iff_getElem.1 (grp_mem (l := l) h)
  have h1 : (grpTo l n (keyAt l i))[k]? = some i := by rw [List.getElem?_eq_getElem hk, he]
  rw [(grp_get h1).2.2]
  exact h1
theorem rank_lt {l : List It} {n i : Nat} (h : i < n) : rank l i < (grpTo l n (keyAt l i)).length := (List.getElem?_eq_some_iff.1 (grp_rank h)).1
theorem mayIt_at : ∀ (l : List It) (last : Nat), mayIt last l = true → ∀ (i : Nat) (x : It), l[i]? = some x → mayB x.l.length = true ∧ last < x.q ∧ x.q ≤ 1099511627776 ∧ (x.k = 1 ∨ x.k = 2) ∧ 25 ≤ x.z ∧ x.z ≤ 1113 ∧ ∀ (j : Nat) (y : It), l[j]? = some y → i < j → x.q < y.q
  | [], _, _, i, x, hx => by simp at hx
  | a :: r, last, h, i, x, hx => by
    unfold mayIt at h
    simp only [Bool.and_eq_true, decide_eq_true_eq, Bool.or_eq_true, beq_iff_eq] at h
    obtain ⟨⟨⟨⟨⟨⟨h1, h2⟩, h3⟩, h4⟩, h5⟩, h6⟩, h7⟩ := h
    cases i with
    | zero =>
      simp at hx
      subst hx
      refine ⟨h1, h2, h3, h4, h5, h6, fun j y hy hj => ?_⟩
      cases j with
      | zero => omega
      | succ j =>
        rw [List.getElem?_cons_succ] at hy
        exact (mayIt_at r a.q h7 j y hy).2.1
    | succ i =>
      rw [List.getElem?_cons_succ] at hx
      obtain ⟨g1, g2, g3, g4, g5, g6, g7⟩ := mayIt_at r a.q h7 i x hx
      refine ⟨g1, by omega, g3, g4, g5, g6, fun j y hy hj => ?_⟩
      cases j with
      | zero => omega
      | succ j =>
        rw [List.getElem?_cons_succ] at hy
        exact g7 j y hy (by omega)
theorem may_pair : ∀ (l : List Sn.Ver) (last : Int), (∀ v ∈ l, last < v.1 ∧ v.1 ≤ 1099511627776 ∧ (v.2 = 1 ∨ v.2 = 2)) → l.Pairwise (fun a b => a.1 < b.1) → Sn.mayFrom last l = true
  | [], _, _, _ => rfl
  | (x, y) :: r, last, h, hp => by
    rw [Sn.mayFrom_step]
    obtain ⟨h1, h2, h3⟩ := h (x, y) (List.mem_cons_self ..)
    rw [List.pairwise_cons] at hp
    have := may_pair r x (fun v hv => ⟨hp.1 v hv, (h v (List.mem_cons_of_mem _ hv)).2⟩) hp.2
    rw [this]
    dsimp only at h1 h2 h3
    rcases h3 with h3 | h3 <;> simp [h1, h2, h3]
theorem verG_may {l : List It} (h : mayP l = true) (key : List UInt8) : Sn.mayB (verG l key) = true := by
  unfold Sn.mayB
  have hat := mayIt_at l 0 h
  have hget : ∀ i, i < l.length → l[i]? = some (itAt l i) := fun i hi => by unfold itAt; rw [List.getElem?_eq_getElem hi]; rfl
  refine may_pair _ 0 (fun v hv => ?_) ?_
  · unfold verG at hv
    obtain ⟨i, hi, rfl⟩ := List.mem_map.1 hv
    have hi2 : i < l.length := List.mem_range.1 (List.mem_filter.1 hi).1
    obtain ⟨_, h2, h3, h4, _⟩ := hat i _ (hget i hi2)
    exact ⟨by show (0 : Int) < ((itAt l i).q : Int); omega, by show ((itAt l i).q : Int) ≤ _; omega, h4⟩
  · unfold verG
    rw [List.pairwise_map]
    have hr : (grpTo l l.length key).Pairwise fun a b => a < b := List.Pairwise.filter _ List.pairwise_lt_range
    refine List.Pairwise.imp_of_mem (fun {a b} ha hb hab => ?_) hr
    have ha2 : a < l.length := List.mem_range.1 (List.mem_filter.1 ha).1
    have hb2 : b < l.length := List.mem_range.1 (List.mem_filter.1 hb).1
    have := (hat a _ (hget a ha2)).2.2.2.2.2.2 b _ (hget b hb2) hab
    show ((itAt l a).q : Int) < ((itAt l b).q : Int)
    omega
/-- what is told while keys K are still to come, and of key c the first m places alone are told -/
def outP (l : List It) (at_ : List Int) (K : List (List UInt8)) : List Bool := (List.range l.length).map fun i => if keyAt l i ∈ K then false else keptI l at_ i
def outM (l : List It) (at_ : List Int) (K : List (List UInt8)) (c : List UInt8) (m : Nat) : List Bool := (List.range l.length).map fun i => if keyAt l i ∈ K then false else if keyAt l i = c then (if rank l i < m then keptI l at_ i else false) else keptI l at_ i
theorem outP_len (l : List It) (at_ : List Int) (K : List (List UInt8)) : (outP l at_ K).length = l.length := by unfold outP; simp
theorem outM_len (l : List It) (at_ : List Int) (K : List (List UInt8)) (c : List UInt8) (m : Nat) : (outM l at_ K c m).length = l.length := by unfold outM; simp
theorem outP_nil (l : List It) (at_ : List Int) : outP l at_ [] = keptP l at_ := by unfold outP keptP; simp
theorem outP_first {l : List It} (at_ : List Int) {K : List (List UInt8)} (h : ∀ i, i < l.length → keyAt l i ∈ K) : outP l at_ K = List.replicate l.length false := by
  unfold outP
  rw [List.eq_replicate_iff]
  refine ⟨by simp, fun b hb => ?_⟩
  obtain ⟨i, hi, rfl⟩ := List.mem_map.1 hb
  rw [if_pos (h i (List.mem_range.1 hi))]
theorem outM_0 (l : List It) (at_ : List Int) {K K' : List (List UInt8)} {c : List UInt8} (hK : ∀ x, x ∈ K ↔ x = c ∨ x ∈ K') : outM l at_ K' c 0 = outP l at_ K := by
  unfold outM outP
  refine List.map_congr_left fun i _ => ?_
  by_cases h1 : keyAt l i ∈ K'
  · rw [if_pos h1, if_pos ((hK _).2 (.inr h1))]
  · by_cases h2 : keyAt l i = c
    · rw [if_neg h1, if_pos h2, if_pos ((hK _).2 (.inl h2))]
      simp
    · rw [if_neg h1, if_neg h2, if_neg (fun h => ((hK _).1 h).elim h2 h1)]
theorem outM_all (l : List It) (at_ : List Int) (K : List (List UInt8)) (c : List UInt8) : outM l at_ K c (grpTo l l.length c).length = outP l at_ K := by
  unfold outM outP
  refine List.map_congr_left fun i hi => ?_
  rw [List.mem_range] at hi
  by_cases h1 : keyAt l i ∈ K
  · rw [if_pos h1, if_pos h1]
  · rw [if_neg h1, if_neg h1]
    by_cases h2 : keyAt l i = c
    · rw [if_pos h2, if_pos]
      have := rank_lt (l := l) hi
      rw [h2] at this
      exact this
    · rw [if_neg h2]
theorem outM_get (l : List It) (at_ : List Int) (K : List (List UInt8)) (c : List UInt8) (m : Nat) {j : Nat} (h : j < l.length) : (outM l at_ K c m)[j]? = some (if keyAt l j ∈ K then false else if keyAt l j = c then (if rank l j < m then keptI l at_ j else false) else keptI l at_ j) := by
  unfold outM
  rw [List.getElem?_map, List.getElem?_range h]
  rfl
theorem outM_set (l : List It) (at_ : List Int) {K : List (List UInt8)} {c : List UInt8} {m i : Nat} (hc : c ∉ K) (hi : (grpTo l l.length c)[m]? = some i) : outM l at_ K c (m + 1) = (outM l at_ K c m).set i (keptI l at_ i) := by
  obtain ⟨hlt, hk, hr⟩ := grp_get hi
  apply List.ext_getElem?
  intro j
  by_cases h1 : j < l.length
  · rw [outM_get _ _ _ _ _ h1, List.getElem?_set]
    by_cases hij : i = j
    · subst hij
      have hl : i < (outM l at_ K c m).length := by rw [outM_len]; exact h1
      rw [if_pos rfl, if_pos hl, hk, if_neg hc, if_pos rfl, if_pos (show rank l i < m + 1 by omega)]
    · rw [if_neg hij, outM_get _ _ _ _ _ h1]
      by_cases h3 : keyAt l j ∈ K
      · rw [if_pos h3, if_pos h3]
      · rw [if_neg h3, if_neg h3]
        by_cases h4 : keyAt l j = c
        · rw [if_pos h4, if_pos h4]
          have hjm : rank l j ≠ m := fun e => hij (by
            have := grp_rank (l := l) h1
            rw [h4, e, hi] at this
            injection this)
          by_cases h5 : rank l j < m
          · rw [if_pos h5, if_pos (by omega)]
          · rw [if_neg h5, if_neg (by omega)]
        · rw [if_neg h4, if_neg h4]
  · rw [List.getElem?_eq_none (by rw [outM_len]; omega), List.getElem?_eq_none (by rw [List.length_set, outM_len]; omega)]
end Go.Proofs.Ytkkhojealihghaa
