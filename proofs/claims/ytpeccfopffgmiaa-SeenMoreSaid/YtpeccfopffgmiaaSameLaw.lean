/- What versions say when some of them are left out: the law of what is kept. No program in sight, no condition. -/
import Derived.Test.YtpeccfopffgmiaaSeenLaw
namespace Go.Proofs.Ytpeccfopffgmiaa

/-! ### rising versions as a sorted list -/
def Rising (l : List Ver) : Prop := l.Pairwise (fun a b => a.1 < b.1) ∧ ∀ v ∈ l, 0 < v.1 ∧ v.1 ≤ 1099511627776 ∧ (v.2 = 1 ∨ v.2 = 2)
theorem mayFrom_iff : ∀ (l : List Ver) (last : Int), 0 ≤ last → (mayFrom last l = true ↔ Rising l ∧ ∀ v ∈ l, last < v.1)
  | [], last, _ => by simp [mayFrom, Rising]
  | v :: r, last, h0 => by
    obtain ⟨a, b⟩ := v
    rw [mayFrom_step]
    simp only [Bool.and_eq_true, decide_eq_true_eq, Bool.or_eq_true, beq_iff_eq]
    constructor
    · rintro ⟨⟨⟨h1, h2⟩, h3⟩, h4⟩
      have h := (mayFrom_iff r a (by omega)).1 h4
      refine ⟨⟨List.pairwise_cons.2 ⟨fun v hv => h.2 v hv, h.1.1⟩, ?_⟩, ?_⟩
      · intro v hv
        rcases List.mem_cons.1 hv with rfl | hv
        · exact ⟨by show 0 < a; omega, h2, h3⟩
        · exact h.1.2 v hv
      · intro v hv
        rcases List.mem_cons.1 hv with rfl | hv
        · exact h1
        · have := h.2 v hv; omega
    · rintro ⟨⟨h1, h2⟩, h3⟩
      have h1' := List.pairwise_cons.1 h1
      have h4 := h2 _ (List.mem_cons_self)
      exact ⟨⟨⟨h3 _ List.mem_cons_self, h4.2.1⟩, h4.2.2⟩, (mayFrom_iff r a (by have : (0 : Int) < a := h4.1; omega)).2 ⟨⟨h1'.2, fun v hv => h2 v (List.mem_cons_of_mem _ hv)⟩, fun v hv => h1'.1 v hv⟩⟩
theorem may_iff (l : List Ver) : mayB l = true ↔ Rising l := by
  unfold mayB
  rw [mayFrom_iff l 0 (by omega)]
  exact ⟨fun h => h.1, fun h => ⟨h, fun v hv => (h.2 v hv).1⟩⟩

/-! ### some of them -/
def subL (l : List Ver) (M : Nat → Bool) (k : Nat) : List Ver := ((List.range k).filter M).map fun i => l.getD i (0, 0)
theorem subL_all (l : List Ver) : subL l (fun _ => true) l.length = l := by
  unfold subL
  rw [List.filter_eq_self.2 (by simp)]
  apply List.ext_getElem
  · simp
  · intro i h1 h2
    simp [List.getD, h2]
theorem subL_rising {l : List Ver} (h : Rising l) (M : Nat → Bool) {k : Nat} (hk : k ≤ l.length) : Rising (subL l M k) := by
  have hs : (subL l M k).Sublist l := by
    have h1 : (subL l M k).Sublist ((List.range l.length).map fun i => l.getD i (0, 0)) := by
      unfold subL
      apply List.Sublist.map
      exact (List.filter_sublist).trans (List.range_sublist.2 hk)
    have h2 : ((List.range l.length).map fun i => l.getD i (0, 0)) = l := by
      have := subL_all l
      unfold subL at this
      rwa [List.filter_eq_self.2 (by simp)] at this
    rw [h2] at h1
    exact h1
  exact ⟨h.1.sublist hs, fun v hv => h.2 v (hs.subset hv)⟩

theorem takeWhile_all {α : Type} {p : α → Bool} : ∀ {l : List α}, (∀ v ∈ l, p v = true) → l.takeWhile p = l
  | [], _ => rfl
  | v :: r, h => by rw [List.takeWhile_cons, if_pos (h v List.mem_cons_self), takeWhile_all (fun u hu => h u (List.mem_cons_of_mem _ hu))]
theorem takeWhile_sub {l : List Ver} (h : mayB l = true) (s : Int) (M : Nat → Bool) : ∀ (k : Nat), k ≤ l.length → (subL l M k).takeWhile (fun v => decide (v.1 ≤ s)) = subL l M (min k (cnt l s))
  | 0, _ => by simp [subL]
  | k + 1, hk => by
    have ih := takeWhile_sub h s M k (by omega)
    have hc := may_cnt h s k (by omega)
    have hsp : subL l M (k + 1) = subL l M k ++ (if M k then [l.getD k (0, 0)] else []) := by
      unfold subL
      rw [List.range_succ, List.filter_append, List.map_append]
      cases hM : M k <;> simp [hM]
    by_cases hlt : k < cnt l s
    · have hall : ∀ j, j ≤ k + 1 → (subL l M j).takeWhile (fun v => decide (v.1 ≤ s)) = subL l M j := by
        intro j hj
        apply takeWhile_all
        intro v hv
        unfold subL at hv
        rw [List.mem_map] at hv
        obtain ⟨i, hi, rfl⟩ := hv
        rw [List.mem_filter, List.mem_range] at hi
        have := (may_cnt h s i (by omega)).2 (by omega)
        simpa [seqAt] using this
      rw [hall _ (Nat.le_refl _), show min (k + 1) (cnt l s) = k + 1 by omega]
    · rw [hsp, show min (k + 1) (cnt l s) = min k (cnt l s) by omega, ← ih, List.takeWhile_append]
      split
      · rename_i heq
        have he := (List.takeWhile_prefix (fun v : Ver => decide (v.1 ≤ s)) (l := subL l M k)).eq_of_length heq
        cases hM : M k with
        | false => simpa using he.symm
        | true =>
          have : ¬ seqAt l k ≤ s := fun h' => hlt (hc.1 h')
          have h2 : ¬ (l.getD k (0, 0)).1 ≤ s := this
          simp only [if_true, List.takeWhile_cons, h2, decide_false]
          simpa using he.symm
      · rfl
theorem cnt_sub {l : List Ver} (h : mayB l = true) (s : Int) (M : Nat → Bool) : cnt (subL l M l.length) s = ((List.range (cnt l s)).filter M).length := by
  have h1 := takeWhile_sub h s M l.length (Nat.le_refl _)
  rw [Nat.min_eq_right (cnt_le l s)] at h1
  unfold cnt at h1 ⊢
  rw [h1]
  simp [subL]

/-- the last of the marked places below the number's -/
def lastM (l : List Ver) (M : Nat → Bool) (s : Int) : Option Nat := ((List.range (cnt l s)).filter M).getLast?
theorem sub_new {l : List Ver} (h : mayB l = true) (s : Int) (M : Nat → Bool) : (newIs (subL l M l.length) s = (lastM l M s).isSome) ∧
    ∀ i, lastM l M s = some i → seqAt (subL l M l.length) (newK (subL l M l.length) s) = seqAt l i ∧ kindAt (subL l M l.length) (newK (subL l M l.length) s) = kindAt l i := by
  have hm : mayB (subL l M l.length) = true := (may_iff _).2 (subL_rising ((may_iff _).1 h) M (Nat.le_refl _))
  have hc := cnt_sub h s M
  constructor
  · unfold newIs lastM
    rw [hm, hc]
    cases hl : (List.range (cnt l s)).filter M with
    | nil => simp
    | cons a r => simp [List.getLast?_cons]
  · intro i hi
    have hnil : (List.range (cnt l s)).filter M ≠ [] := by
      intro e
      unfold lastM at hi
      rw [e] at hi
      simp at hi
    have hpos : 0 < ((List.range (cnt l s)).filter M).length := List.length_pos_iff.2 hnil
    have hk : newK (subL l M l.length) s = ((List.range (cnt l s)).filter M).length - 1 := by
      unfold newK
      rw [if_pos hm, hc]
    have hsplit : (List.range l.length).filter M = (List.range (cnt l s)).filter M ++ ((List.range l.length).drop (cnt l s)).filter M := by
      rw [← List.filter_append]
      congr 1
      have : (List.range l.length).take (cnt l s) = List.range (cnt l s) := by
        rw [List.take_range, Nat.min_eq_left (cnt_le l s)]
      rw [← this, List.take_append_drop]
    have hget : (subL l M l.length).getD (newK (subL l M l.length) s) (0, 0) = l.getD i (0, 0) := by
      rw [hk]
      unfold subL
      rw [hsplit, List.map_append, List.getD_eq_getElem?_getD, List.getElem?_append_left (by rw [List.length_map]; omega), List.getElem?_map]
      unfold lastM at hi
      rw [List.getLast?_eq_getElem?] at hi
      rw [hi]
      rfl
    unfold seqAt kindAt
    rw [hget]
    exact ⟨rfl, rfl⟩
def saysOf (l : List Ver) : Option Nat → Int
  | none => 0
  | some i => if kindAt l i == 1 then seqAt l i else 0
def thereOf (l : List Ver) : Option Nat → Bool
  | none => false
  | some i => kindAt l i == 1
theorem there_sub {l : List Ver} (h : mayB l = true) (s : Int) (M : Nat → Bool) : thereB (subL l M l.length) s = thereOf l (lastM l M s) := by
  obtain ⟨h1, h2⟩ := sub_new h s M
  unfold thereB
  rw [h1]
  cases hl : lastM l M s with
  | none => rfl
  | some i => rw [(h2 i hl).2]; rfl
theorem says_sub {l : List Ver} (h : mayB l = true) (s : Int) (M : Nat → Bool) : (if thereB (subL l M l.length) s then seqAt (subL l M l.length) (newK (subL l M l.length) s) else 0) = saysOf l (lastM l M s) := by
  rw [there_sub h]
  obtain ⟨h1, h2⟩ := sub_new h s M
  cases hl : lastM l M s with
  | none => rfl
  | some i => rw [(h2 i hl).1]; rfl

/-! ### what is kept says what all say -/
theorem seenAt_of {l : List Ver} {at_ : List Int} {s : Int} (h : mayB l = true) (hs : s ∈ at_) {i : Nat} (hi : cnt l s = i + 1) : seenAt l at_ i = true := by
  unfold seenAt
  exact List.any_eq_true.2 ⟨s, hs, by simp [newIs, newK, h, hi]⟩
theorem seenAt_inv {l : List Ver} {at_ : List Int} {i : Nat} (h : seenAt l at_ i = true) : ∃ s ∈ at_, cnt l s = i + 1 := by
  unfold seenAt at h
  obtain ⟨s, hs, he⟩ := List.any_eq_true.1 h
  simp only [Bool.and_eq_true, beq_iff_eq] at he
  obtain ⟨h1, h2⟩ := he
  unfold newIs at h1
  simp only [Bool.and_eq_true, decide_eq_true_eq] at h1
  unfold newK at h2
  rw [if_pos h1.1] at h2
  exact ⟨s, hs, by omega⟩
theorem olderAt_mono {l : List Ver} {at_ : List Int} {i j : Nat} (hij : i ≤ j) (h : olderAt l at_ i = true) : olderAt l at_ j = true := by
  unfold olderAt at h ⊢
  obtain ⟨k, hk, he⟩ := List.any_eq_true.1 h
  exact List.any_eq_true.2 ⟨k, by simp at hk ⊢; omega, he⟩
theorem older_of_kept {l : List Ver} {at_ : List Int} {i : Nat} (h : keptAt l at_ i = true) : seenAt l at_ i = true ∧ olderAt l at_ i = true := by
  unfold keptAt at h
  simpa using h
theorem lastM_true (l : List Ver) (s : Int) : lastM l (fun _ => true) s = if cnt l s = 0 then none else some (cnt l s - 1) := by
  unfold lastM
  rw [List.filter_eq_self.2 (by simp)]
  cases hc : cnt l s with
  | zero => simp
  | succ k => rw [List.range_succ]; simp
theorem lastM_kept {l : List Ver} {at_ : List Int} (h : mayB l = true) {s : Int} (hs : s ∈ at_) : saysOf l (lastM l (keptAt l at_) s) = saysOf l (lastM l (fun _ => true) s) ∧ thereOf l (lastM l (keptAt l at_) s) = thereOf l (lastM l (fun _ => true) s) := by
  rw [lastM_true]
  cases hc : cnt l s with
  | zero => simp [lastM, hc]
  | succ i =>
    have hsn := seenAt_of h hs hc
    rw [if_neg (by omega)]
    simp only [Nat.add_sub_cancel]
    unfold lastM
    rw [hc, List.range_succ, List.filter_append]
    cases hk : keptAt l at_ i with
    | true => simp [hk]
    | false =>
      have ho : olderAt l at_ i = false := by
        cases ho : olderAt l at_ i with
        | false => rfl
        | true => unfold keptAt at hk; rw [hsn, ho] at hk; cases hk
      have hki : (kindAt l i == 1) = false := by
        cases hki : (kindAt l i == 1) with
        | false => rfl
        | true =>
          have : olderAt l at_ i = true := by
            unfold olderAt
            exact List.any_eq_true.2 ⟨i, by simp, by rw [hsn, hki]; rfl⟩
          rw [ho] at this; cases this
      have hnone : (List.range i).filter (keptAt l at_) = [] := by
        apply List.filter_eq_nil_iff.2
        intro j hj hjk
        have := olderAt_mono (show j ≤ i by simp at hj; omega) (older_of_kept hjk).2
        rw [ho] at this; cases this
      rw [hnone]
      simp [hk, saysOf, thereOf, hki]

/-- each one that is kept is hit by a number: so there are no more of them -/
theorem nodup_le {α : Type} [DecidableEq α] : ∀ (a b : List α), a.Nodup → (∀ x ∈ a, x ∈ b) → a.length ≤ b.length
  | [], b, _, _ => by simp
  | x :: a, b, hn, hs => by
    have hx := hs x List.mem_cons_self
    have h1 := nodup_le a (b.erase x) (List.nodup_cons.1 hn).2 (fun y hy => by
      have hne : y ≠ x := fun e => (List.nodup_cons.1 hn).1 (e ▸ hy)
      exact (List.mem_erase_of_ne hne).2 (hs y (List.mem_cons_of_mem _ hy)))
    rw [List.length_erase_of_mem hx] at h1
    have := List.length_pos_of_mem hx
    simp only [List.length_cons]
    omega
theorem kept_few {l : List Ver} {at_ : List Int} (k : Nat) : (subL l (keptAt l at_) k).length ≤ at_.length := by
  unfold subL
  rw [List.length_map]
  have := nodup_le ((List.range k).filter (keptAt l at_)) (at_.map fun s => cnt l s - 1) (List.Nodup.sublist List.filter_sublist List.nodup_range) (fun i hi => by
    obtain ⟨s, hs, hc⟩ := seenAt_inv (older_of_kept (List.mem_filter.1 hi).2).1
    exact List.mem_map.2 ⟨s, hs, by rw [hc]; rfl⟩)
  simpa using this

/-- the kind of the kept one ahead of a place; 0: there is none -/
def lastKind (l : List Ver) (at_ : List Int) (k : Nat) : Int := match ((List.range k).filter (keptAt l at_)).getLast? with | none => 0 | some i => kindAt l i
theorem lastKind_yes {l : List Ver} {at_ : List Int} {k : Nat} (h : keptAt l at_ k = true) : lastKind l at_ (k + 1) = kindAt l k := by
  unfold lastKind
  rw [List.range_succ, List.filter_append]
  simp [h]
theorem lastKind_no {l : List Ver} {at_ : List Int} {k : Nat} (h : keptAt l at_ k = false) : lastKind l at_ (k + 1) = lastKind l at_ k := by
  unfold lastKind
  rw [List.range_succ, List.filter_append]
  simp [h]
theorem lastM_less {l : List Ver} {at_ : List Int} {s : Int} {i : Nat} (hc : cnt l s = i + 1) : lastM l (fun j => keptAt l at_ j && decide (j ≠ i)) s = ((List.range i).filter (keptAt l at_)).getLast? := by
  unfold lastM
  rw [hc, List.range_succ, List.filter_append]
  have h1 : (List.range i).filter (fun j => keptAt l at_ j && decide (j ≠ i)) = (List.range i).filter (keptAt l at_) := by
    apply List.filter_congr
    intro j hj
    simp at hj
    simp [show j ≠ i by omega]
  rw [h1]
  simp
/-- none can be left out, but a Delete behind a kept Delete -/
theorem kept_needed {l : List Ver} {at_ : List Int} (h : mayB l = true) {i : Nat} (hi : i < l.length) (hk : keptAt l at_ i = true) :
    (at_.any fun s => saysOf l (lastM l (fun j => keptAt l at_ j && decide (j ≠ i)) s) != saysOf l (lastM l (fun _ => true) s)) = true ∨ (kindAt l i = 2 ∧ lastKind l at_ i = 2) := by
  obtain ⟨hsn, hol⟩ := older_of_kept hk
  obtain ⟨s, hs, hc⟩ := seenAt_inv hsn
  have hr := (may_iff l).1 h
  have hrise := may_rises l 0 h i hi
  have hkind : kindAt l i = 1 ∨ kindAt l i = 2 := by rw [kindAt_eq hi]; exact hrise.2.2.1
  have hpos : 0 < seqAt l i := by rw [seqAt_eq hi]; exact hrise.1
  have key : saysOf l (lastM l (fun j => keptAt l at_ j && decide (j ≠ i)) s) ≠ saysOf l (lastM l (fun _ => true) s) ∨ (kindAt l i = 2 ∧ lastKind l at_ i = 2) := by
    rw [lastM_less hc, lastM_true, hc, if_neg (by omega)]
    simp only [Nat.add_sub_cancel]
    have hmem : ∀ p, ((List.range i).filter (keptAt l at_)).getLast? = some p → p < i ∧ p < l.length := by
      intro p hp
      have := List.mem_of_getLast? hp
      rw [List.mem_filter, List.mem_range] at this
      omega
    rcases hkind with h1 | h2
    · left
      have e1 : saysOf l (some i) = seqAt l i := by simp [saysOf, h1]
      rw [e1]
      cases hl : ((List.range i).filter (keptAt l at_)).getLast? with
      | none => show (0 : Int) ≠ _; omega
      | some p =>
        obtain ⟨hpi, hpl⟩ := hmem p hl
        have hlt := (may_rises l 0 h p hpl).2.2.2 i hi hpi
        rw [← seqAt_eq hpl, ← seqAt_eq hi] at hlt
        unfold saysOf
        simp only
        split <;> omega
    · have e1 : saysOf l (some i) = 0 := by simp [saysOf, h2]
      rw [e1]
      cases hl : ((List.range i).filter (keptAt l at_)).getLast? with
      | none =>
        exfalso
        unfold olderAt at hol
        obtain ⟨j, hj, he⟩ := List.any_eq_true.1 hol
        simp only [List.mem_range, Bool.and_eq_true, beq_iff_eq] at hj he
        have hji : j < i := by
          rcases Nat.lt_or_ge j i with h' | h'
          · exact h'
          · have : j = i := by omega
            subst this
            omega
        have hjk : keptAt l at_ j = true := by
          unfold keptAt olderAt
          rw [he.1, Bool.true_and]
          exact List.any_eq_true.2 ⟨j, by simp, by simp [he.1, he.2]⟩
        have : (List.range i).filter (keptAt l at_) = [] := List.getLast?_eq_none_iff.1 hl
        have hin : j ∈ (List.range i).filter (keptAt l at_) := List.mem_filter.2 ⟨by simpa using hji, hjk⟩
        rw [this] at hin
        cases hin
      | some p =>
        obtain ⟨hpi, hpl⟩ := hmem p hl
        have hpr := may_rises l 0 h p hpl
        have hpk : kindAt l p = 1 ∨ kindAt l p = 2 := by rw [kindAt_eq hpl]; exact hpr.2.2.1
        rcases hpk with g1 | g2
        · left
          have : saysOf l (some p) = seqAt l p := by simp [saysOf, g1]
          rw [this, seqAt_eq hpl]
          have := hpr.1
          omega
        · right
          exact ⟨h2, by unfold lastKind; rw [hl]; exact g2⟩
  rcases key with k1 | k2
  · left
    exact List.any_eq_true.2 ⟨s, hs, by simpa using k1⟩
  · exact .inr k2
end Go.Proofs.Ytpeccfopffgmiaa
