/- Several texts in one: ScLaw, ScAllLaw, Sc1, Sc2, Sc3, Sc4, Range, Sc5, Sc6, Sc7, Sc8. No condition of its own. -/
import Derived.Test.YtfapipamohlniaaDoorRecLaw
import Derived.Test.YtfapipamohlniaaDoorHeadLaw
import Derived.Test.YtfapipamohlniaaDoorTyped
import Derived.Test.YtfapipamohlniaaDoorLowHigh
import Derived.Test.YtfapipamohlniaaDoorHeadC
import Derived.Test.YtfapipamohlniaaDoorRes
import Derived.RangeFuncNested
import Derived.RangeFuncBound
import Derived.RangeFuncCalls
import Derived.RangeFuncLeaves
import Derived.RangeFuncBox
import Derived.Shelf.Abstract
import Derived.OwnWalkIn
import Derived.TacticsInMore
import Derived.LoopNIn
import Derived.LoopIn
import Derived.Laws.EntriesVeiled
namespace Go.Proofs.YtfapipamohlniaaDoor

theorem getS_cases (l : List UInt8) : (getS l = (0, 22)) ∨ (getS l = (0, 23)) ∨ ((getS l).1 = sizeG l ∧ mayG l = true ∧ 21 ≤ l.length ∧ sizeG l ≤ l.length ∧ ((getS l).2 = 23 ∨ (getS l).2 = 0)) := by
  unfold getS
  by_cases h1 : l.length < 21
  · rw [if_pos h1]; exact .inl rfl
  · rw [if_neg h1]
    by_cases h2 : rightL (l.take 21) = false
    · rw [if_pos h2]; exact .inr (.inl rfl)
    · rw [if_neg h2]
      by_cases h3 : mayG l = false
      · rw [if_pos h3]; exact .inr (.inl rfl)
      · rw [if_neg h3]
        by_cases h4 : l.length < sizeG l
        · rw [if_pos h4]; exact .inl rfl
        · rw [if_neg h4]
          have h3' : mayG l = true := by simpa using h3
          by_cases h5 : rightL (l.take (sizeG l)) = false
          · rw [if_pos h5]; exact .inr (.inr ⟨rfl, h3', by omega, by omega, .inl rfl⟩)
          · rw [if_neg h5]; exact .inr (.inr ⟨rfl, h3', by omega, by omega, .inr rfl⟩)
theorem mayG_seq {l : List UInt8} (h : mayG l = true) : 1 ≤ numH l 3 ∧ numH l 3 ≤ 1099511627776 := by
  have := mayR_bounds h
  omega
theorem mayG_len {l : List UInt8} (h : mayG l = true) : 1 ≤ numH l 1 ∧ numH l 1 ≤ 64 ∧ numH l 2 ≤ 1024 := by
  have := mayR_bounds h
  omega

/-- a scan: where the records stand that are found, where those that are passed over, where it stops, and why -/
structure Sc where
  fd : List Nat
  ps : List Nat
  en : Nat
  wy : Nat
def lastQ (b : List UInt8) (fd : List Nat) : Nat := match fd.getLast? with
  | none => 0
  | some o => numH (b.drop o) 3
def nextS (b : List UInt8) (s : Sc) : Bool × Sc :=
  if s.en = b.length then (false, s)
  else if 16777216 < s.en then (false, { s with wy := 23 })
  else if (getS (b.drop s.en)).2 = 0 ∧ lastQ b s.fd < numH (b.drop s.en) 3 then (true, ⟨s.fd ++ [s.en], s.ps, s.en + (getS (b.drop s.en)).1, s.wy⟩)
  else if (getS (b.drop s.en)).2 = 23 ∧ 0 < (getS (b.drop s.en)).1 then (true, ⟨s.fd, s.ps ++ [s.en], s.en + (getS (b.drop s.en)).1, s.wy⟩)
  else if (getS (b.drop s.en)).2 = 22 then (false, { s with wy := 22 })
  else (false, { s with wy := 23 })
def runS (b : List UInt8) : Nat → Sc → Sc
  | 0, s => s
  | f + 1, s => if (nextS b s).1 then runS b f (nextS b s).2 else (nextS b s).2
def ofS (id : Nat) (b : List UInt8) : Sc := if chkH b 1 id = 0 then runS b b.length ⟨[], [], 16, 0⟩ else ⟨[], [], 0, chkH b 1 id⟩

theorem lastQ_nil (b : List UInt8) : lastQ b [] = 0 := rfl
theorem lastQ_snoc (b : List UInt8) (l : List Nat) (o : Nat) : lastQ b (l ++ [o]) = numH (b.drop o) 3 := by unfold lastQ; simp

theorem nextS_end {b : List UInt8} {s : Sc} (h : s.en = b.length) : nextS b s = (false, s) := by unfold nextS; rw [if_pos h]
theorem nextS_long {b : List UInt8} {s : Sc} (h : s.en ≠ b.length) (h2 : 16777216 < s.en) : nextS b s = (false, { s with wy := 23 }) := by unfold nextS; rw [if_neg h, if_pos h2]
theorem nextS_found {b : List UInt8} {s : Sc} (h : s.en ≠ b.length) (h2 : s.en ≤ 16777216) (h3 : (getS (b.drop s.en)).2 = 0) (h4 : lastQ b s.fd < numH (b.drop s.en) 3) :
    nextS b s = (true, ⟨s.fd ++ [s.en], s.ps, s.en + (getS (b.drop s.en)).1, s.wy⟩) := by unfold nextS; rw [if_neg h, if_neg (by omega), if_pos ⟨h3, h4⟩]
theorem nextS_passed {b : List UInt8} {s : Sc} (h : s.en ≠ b.length) (h2 : s.en ≤ 16777216) (h3 : (getS (b.drop s.en)).2 = 23) (h4 : 0 < (getS (b.drop s.en)).1) :
    nextS b s = (true, ⟨s.fd, s.ps ++ [s.en], s.en + (getS (b.drop s.en)).1, s.wy⟩) := by unfold nextS; rw [if_neg h, if_neg (by omega), if_neg (by omega), if_pos ⟨h3, h4⟩]
theorem nextS_torn {b : List UInt8} {s : Sc} (h : s.en ≠ b.length) (h2 : s.en ≤ 16777216) (h3 : (getS (b.drop s.en)).2 = 22) : nextS b s = (false, { s with wy := 22 }) := by
  unfold nextS; rw [if_neg h, if_neg (by omega), if_neg (by omega), if_neg (by omega), if_pos h3]
theorem nextS_bad {b : List UInt8} {s : Sc} (h : s.en ≠ b.length) (h2 : s.en ≤ 16777216) (h3 : getS (b.drop s.en) = (0, 23) ∨ ((getS (b.drop s.en)).2 = 0 ∧ numH (b.drop s.en) 3 ≤ lastQ b s.fd)) : nextS b s = (false, { s with wy := 23 }) := by
  unfold nextS
  rcases h3 with h3 | ⟨h3, h4⟩
  · rw [if_neg h, if_neg (by omega), h3, if_neg (by simp), if_neg (by simp), if_neg (by simp)]
  · rw [if_neg h, if_neg (by omega), if_neg (by omega), if_neg (by omega), if_neg (by omega)]
/-- what comes up: which of the six ways -/
inductive NextW (b : List UInt8) (s : Sc) : Prop where
  | fin (h : s.en = b.length)
  | long (h : s.en ≠ b.length) (h2 : 16777216 < s.en)
  | found (h : s.en ≠ b.length) (h2 : s.en ≤ 16777216) (h3 : (getS (b.drop s.en)).2 = 0) (h4 : lastQ b s.fd < numH (b.drop s.en) 3)
  | passed (h : s.en ≠ b.length) (h2 : s.en ≤ 16777216) (h3 : (getS (b.drop s.en)).2 = 23) (h4 : 0 < (getS (b.drop s.en)).1)
  | torn (h : s.en ≠ b.length) (h2 : s.en ≤ 16777216) (h3 : getS (b.drop s.en) = (0, 22))
  | bad (h : s.en ≠ b.length) (h2 : s.en ≤ 16777216) (h3 : getS (b.drop s.en) = (0, 23) ∨ ((getS (b.drop s.en)).2 = 0 ∧ numH (b.drop s.en) 3 ≤ lastQ b s.fd))
theorem next_ways (b : List UInt8) (s : Sc) : NextW b s := by
  by_cases h : s.en = b.length
  · exact .fin h
  by_cases h2 : s.en ≤ 16777216
  · rcases getS_cases (b.drop s.en) with g | g | ⟨g1, g2, _, _, g3 | g3⟩
    · exact .torn h h2 g
    · exact .bad h h2 (.inl g)
    · exact .passed h h2 g3 (by rw [g1]; unfold sizeG; omega)
    · by_cases h4 : lastQ b s.fd < numH (b.drop s.en) 3
      · exact .found h h2 g3 h4
      · exact .bad h h2 (.inr ⟨g3, by omega⟩)
  · exact .long h (by omega)

/-- what every scan keeps -/
structure ScInv (b : List UInt8) (s : Sc) : Prop where
  en : s.en ≤ b.length
  fd : ∀ o ∈ s.fd, o < s.en ∧ o ≤ 16777216 ∧ (getS (b.drop o)).2 = 0 ∧ (getS (b.drop o)).1 = sizeG (b.drop o) ∧ mayG (b.drop o) = true ∧ sizeG (b.drop o) ≤ b.length - o
  ps : ∀ o ∈ s.ps, o < s.en
  up : s.ps.Pairwise (· < ·)
  fup : s.fd.Pairwise (· < ·)
  qup : (s.fd.map fun o => numH (b.drop o) 3).Pairwise (· < ·)
  many : 25 * (s.fd.length + s.ps.length) ≤ s.en
theorem getS_size {l : List UInt8} (h : 0 < (getS l).1 ∨ (getS l).2 = 0) : (getS l).1 = sizeG l ∧ mayG l = true ∧ sizeG l ≤ l.length := by
  rcases getS_cases l with g | g | ⟨g1, g2, _, g4, _⟩
  · rw [g] at h; simp at h
  · rw [g] at h; simp at h
  · exact ⟨g1, g2, g4⟩
theorem sizeG_pos (l : List UInt8) : 25 ≤ sizeG l := by unfold sizeG; omega
theorem pair_snoc {α : Type} {R : α → α → Prop} {l : List α} {x : α} (h : l.Pairwise R) (hx : ∀ y ∈ l, R y x) : (l ++ [x]).Pairwise R := by
  rw [List.pairwise_append]
  exact ⟨h, List.pairwise_singleton _ _, fun y hy z hz => by rw [List.mem_singleton] at hz; subst hz; exact hx y hy⟩
theorem lastQ_max {b : List UInt8} {fd : List Nat} (h : (fd.map fun o => numH (b.drop o) 3).Pairwise (· < ·)) : ∀ o ∈ fd, numH (b.drop o) 3 ≤ lastQ b fd := by
  rcases List.eq_nil_or_concat fd with rfl | ⟨l, x, rfl⟩
  · intro o ho; cases ho
  · intro o ho
    rw [List.concat_eq_append] at h ho ⊢
    rw [lastQ_snoc]
    rw [List.map_append, List.pairwise_append] at h
    rcases List.mem_append.1 ho with h1 | h1
    · exact Nat.le_of_lt (h.2.2 _ (List.mem_map.2 ⟨o, h1, rfl⟩) _ (by simp))
    · rw [List.mem_singleton] at h1; subst h1; exact Nat.le_refl _
theorem ScInv.next {b : List UInt8} {s : Sc} (h : ScInv b s) : ScInv b (nextS b s).2 := by
  rcases next_ways b s with k | ⟨k, k2⟩ | ⟨k, k2, k3, k4⟩ | ⟨k, k2, k3, k4⟩ | ⟨k, k2, k3⟩ | ⟨k, k2, k3⟩
  · rw [nextS_end k]; exact h
  · rw [nextS_long k k2]; exact ⟨h.en, h.fd, h.ps, h.up, h.fup, h.qup, h.many⟩
  · rw [nextS_found k k2 k3 k4]
    obtain ⟨g1, g2, g3⟩ := getS_size (l := b.drop s.en) (.inr k3)
    have hp := sizeG_pos (b.drop s.en)
    have he := h.en
    rw [List.length_drop] at g3
    refine ⟨by show s.en + _ ≤ _; omega, fun o ho => ?_, fun o ho => ?_, h.up, pair_snoc h.fup fun y hy => (h.fd y hy).1, ?_, ?_⟩
    · show o < s.en + _ ∧ _
      rcases List.mem_append.1 ho with h1 | h1
      · have := h.fd o h1
        exact ⟨by omega, this.2⟩
      · rw [List.mem_singleton] at h1; subst h1
        exact ⟨by omega, k2, k3, g1, g2, g3⟩
    · have := h.ps o ho
      show o < s.en + _
      omega
    · show ((s.fd ++ [s.en]).map _).Pairwise _
      rw [List.map_append]
      refine pair_snoc h.qup fun y hy => ?_
      obtain ⟨o, ho, rfl⟩ := List.mem_map.1 hy
      exact Nat.lt_of_le_of_lt (lastQ_max h.qup o ho) k4
    · show 25 * ((s.fd ++ [s.en]).length + s.ps.length) ≤ s.en + (getS (b.drop s.en)).1
      have := h.many
      rw [List.length_append, List.length_singleton]
      omega
  · rw [nextS_passed k k2 k3 k4]
    obtain ⟨g1, g2, g3⟩ := getS_size (l := b.drop s.en) (.inl k4)
    have hp := sizeG_pos (b.drop s.en)
    have he := h.en
    rw [List.length_drop] at g3
    refine ⟨by show s.en + _ ≤ _; omega, fun o ho => ?_, fun o ho => ?_, pair_snoc h.up h.ps, h.fup, h.qup, ?_⟩
    · have := h.fd o ho
      exact ⟨by show o < s.en + _; omega, this.2⟩
    · show o < s.en + _
      rcases List.mem_append.1 ho with h1 | h1
      · have := h.ps o h1
        omega
      · rw [List.mem_singleton] at h1; subst h1; omega
    · show 25 * (s.fd.length + (s.ps ++ [s.en]).length) ≤ s.en + (getS (b.drop s.en)).1
      have := h.many
      rw [List.length_append, List.length_singleton]
      omega
  · rw [nextS_torn k k2 (by rw [k3])]; exact ⟨h.en, h.fd, h.ps, h.up, h.fup, h.qup, h.many⟩
  · rw [nextS_bad k k2 k3]; exact ⟨h.en, h.fd, h.ps, h.up, h.fup, h.qup, h.many⟩
/-- how far it is still to go -/
theorem nextS_less {b : List UInt8} {s : Sc} (hi : ScInv b s) (h : (nextS b s).1 = true) : s.en + 25 ≤ (nextS b s).2.en ∧ (nextS b s).2.en ≤ b.length := by
  have hn := hi.next.en
  refine ⟨?_, hn⟩
  rcases next_ways b s with k | ⟨k, k2⟩ | ⟨k, k2, k3, k4⟩ | ⟨k, k2, k3, k4⟩ | ⟨k, k2, k3⟩ | ⟨k, k2, k3⟩
  · rw [nextS_end k] at h; cases h
  · rw [nextS_long k k2] at h; cases h
  · rw [nextS_found k k2 k3 k4]
    have := getS_size (l := b.drop s.en) (.inr k3)
    have hp := sizeG_pos (b.drop s.en)
    refine Nat.add_le_add_left ?_ _
    rw [this.1]
    exact hp
  · rw [nextS_passed k k2 k3 k4]
    have := getS_size (l := b.drop s.en) (.inl k4)
    have hp := sizeG_pos (b.drop s.en)
    refine Nat.add_le_add_left ?_ _
    rw [this.1]
    exact hp
  · rw [nextS_torn k k2 (by rw [k3])] at h; cases h
  · rw [nextS_bad k k2 k3] at h; cases h
theorem runS_inv {b : List UInt8} : ∀ (f : Nat) (s : Sc), ScInv b s → ScInv b (runS b f s)
  | 0, _, h => h
  | f + 1, s, h => by
    unfold runS
    split
    · exact runS_inv f _ h.next
    · exact h.next
/-- more fuel tells nothing more -/
theorem runS_fuel {b : List UInt8} : ∀ (f : Nat) (s : Sc), ScInv b s → b.length < s.en + 25 * f → ∀ g, f ≤ g → runS b g s = runS b f s
  | 0, s, h, hf, g, _ => absurd h.en (by omega)
  | f + 1, s, h, hf, 0, hg => absurd hg (by omega)
  | f + 1, s, h, hf, g + 1, hg => by
    unfold runS
    split
    · rename_i hn
      have := nextS_less h hn
      exact runS_fuel f _ h.next (by omega) g (by omega)
    · rfl
theorem inv0 {b : List UInt8} (h : 16 ≤ b.length) : ScInv b ⟨[], [], 16, 0⟩ :=
  ⟨h, fun _ h => (by cases h), fun _ h => (by cases h), List.Pairwise.nil, List.Pairwise.nil, List.Pairwise.nil, by simp⟩
theorem chkH_short {b : List UInt8} {k : Int} {id : Nat} (h : chkH b k id = 0) : 16 ≤ b.length := by
  rcases Nat.lt_or_ge b.length 16 with h1 | h1
  · exfalso
    unfold chkH at h
    rw [headGet_short h1] at h
    simp at h
  · exact h1
theorem ofS_inv (id : Nat) (b : List UInt8) : ScInv b (ofS id b) := by
  unfold ofS
  split
  · rename_i h
    exact runS_inv _ _ (inv0 (chkH_short h))
  · exact ⟨Nat.zero_le _, fun _ h => (by cases h), fun _ h => (by cases h), List.Pairwise.nil, List.Pairwise.nil, List.Pairwise.nil, by simp⟩

/-! ### seals, and what may be lost -/
structure Sl where
  id : Nat
  size : Nat
  many : Nat
  first : Nat
  last : Nat
def sealS (b : List UInt8) (id : Nat) (s : Sc) : Sl := ⟨id, s.en, s.fd.length + s.ps.length, match s.fd with | [] => 0 | o :: _ => numH (b.drop o) 3, lastQ b s.fd⟩
/-- is one passed over from a place on, below another -/
def hasP (ps : List Nat) (a o : Nat) : Bool := ps.any fun p => decide (a ≤ p) && decide (p < o)
/-- the rest of a scan's periods, from a number on; at_: where the record ahead stands -/
def lostGo (b : List UInt8) (ps : List Nat) (en : Nat) (ends : Bool) (last : Nat) : Nat → Nat → List Nat → List (Nat × Nat)
  | fr, at_, [] => if (ends || hasP ps at_ en) && decide (fr ≤ last) then [(fr, last)] else []
  | fr, at_, o :: r => (if hasP ps at_ o && decide (fr + 1 ≤ numH (b.drop o) 3) then [(fr, numH (b.drop o) 3 - 1)] else []) ++ lostGo b ps en ends last (numH (b.drop o) 3 + 1) o r
def strangeS (b : List UInt8) (id : Nat) (s : Sc) (x : Sl) : Bool := decide (id ≠ x.id) || (decide (s.fd ≠ []) && (decide ((sealS b id s).first < x.first) || decide (x.last < (sealS b id s).last)))
def endsS (b : List UInt8) (id : Nat) (s : Sc) (x : Sl) : Bool := decide (s.wy ≠ 0) || (decide ((sealS b id s).size ≠ x.size) || decide ((sealS b id s).many ≠ x.many))
def lostS (b : List UInt8) (id : Nat) (s : Sc) (x : Sl) : List (Nat × Nat) :=
  if x.many = 0 then [] else if strangeS b id s x then (if x.first ≤ x.last then [(x.first, x.last)] else [])
  else lostGo b s.ps s.en (endsS b id s x) x.last x.first 0 s.fd
/-- how many stand below a place: a row that rises -/
def cntP (ps : List Nat) (o : Nat) : Nat := (ps.takeWhile fun p => decide (p < o)).length
theorem cntP_le (ps : List Nat) (o : Nat) : cntP ps o ≤ ps.length := (List.takeWhile_sublist _).length_le
theorem cntP_step {ps : List Nat} {o : Nat} {k : Nat} (h : k < ps.length) (hk : k ≤ cntP ps o) : (k < cntP ps o ↔ ps[k] < o) := by
  induction ps generalizing k with
  | nil => simp at h
  | cons p r ih =>
    unfold cntP at hk ⊢
    by_cases hp : p < o
    · rw [List.takeWhile_cons_of_pos (by simpa using hp)] at hk ⊢
      cases k with
      | zero => simp [hp]
      | succ k =>
        simp only [List.length_cons, List.getElem_cons_succ] at h hk ⊢
        have := ih (k := k) (by omega) (by unfold cntP; omega)
        unfold cntP at this
        rw [← this]
        omega
    · rw [List.takeWhile_cons_of_neg (by simpa using hp)] at hk ⊢
      have : k = 0 := by simpa using hk
      subst this
      simp [hp]
theorem cntP_mono (ps : List Nat) {a o : Nat} (h : a ≤ o) : cntP ps a ≤ cntP ps o := by
  induction ps with
  | nil => simp [cntP]
  | cons p r ih =>
    unfold cntP at ih ⊢
    by_cases hp : p < a
    · rw [List.takeWhile_cons_of_pos (by simpa using hp), List.takeWhile_cons_of_pos (by simp; omega)]
      simpa using ih
    · rw [List.takeWhile_cons_of_neg (by simpa using hp)]
      simp
theorem cntP_has {ps : List Nat} (hs : ps.Pairwise (· < ·)) {a o : Nat} (h : a ≤ o) : decide (cntP ps a < cntP ps o) = hasP ps a o := by
  induction ps with
  | nil => simp [cntP, hasP]
  | cons p r ih =>
    have ih := ih (List.pairwise_cons.1 hs).2
    have hr := (List.pairwise_cons.1 hs).1
    unfold cntP hasP at ih ⊢
    by_cases hp : p < a
    · rw [List.takeWhile_cons_of_pos (by simpa using hp), List.takeWhile_cons_of_pos (by simp; omega), List.any_cons]
      have : decide (a ≤ p) = false := by simp; omega
      rw [this, Bool.false_and, Bool.false_or, ← ih]
      simp
    · rw [List.takeWhile_cons_of_neg (by simpa using hp), List.any_cons]
      have e1 : decide (a ≤ p) = true := by simp; omega
      rw [e1, Bool.true_and]
      by_cases hq : p < o
      · rw [List.takeWhile_cons_of_pos (by simpa using hq)]
        simp [hq]
      · rw [List.takeWhile_cons_of_neg (by simpa using hq)]
        have : (r.any fun p => decide (a ≤ p) && decide (p < o)) = false := by
          rw [List.any_eq_false]
          intro x hx
          have := hr x hx
          simp
          omega
        rw [this]
        simp [hq]
theorem hasP_zero (ps : List Nat) (o : Nat) : hasP ps 0 o = ps.any fun p => decide (p < o) := by unfold hasP; simp
theorem strange_no {b : List UInt8} {id : Nat} {s : Sc} {x : Sl} (h : strangeS b id s x = false) : x.id = id ∧ (∀ o r, s.fd = o :: r → x.first ≤ numH (b.drop o) 3) ∧ lastQ b s.fd ≤ max x.last 0 ∨ s.fd = [] := by
  rcases List.eq_nil_or_concat s.fd with h1 | ⟨l, y, h1⟩
  · exact .inr h1
  · left
    unfold strangeS at h
    simp only [Bool.or_eq_false_iff, Bool.and_eq_false_iff, decide_eq_false_iff_not] at h
    obtain ⟨h2, h3 | h3⟩ := h
    · exfalso
      exact h3 (by rw [h1]; simp)
    · refine ⟨by omega, fun o r ho => ?_, ?_⟩
      · have := h3.1
        unfold sealS at this
        simp only [ho] at this
        omega
      · have := h3.2
        unfold sealS at this
        simp only at this
        omega
end Go.Proofs.YtfapipamohlniaaDoor

namespace Go.Proofs.YtfapipamohlniaaDoor

/-- a record of a segment that is laid -/
structure PR where
  q : Nat
  a : List UInt8
  b : List UInt8
def PR.run (x : PR) : List UInt8 := runR x.q 1 x.a x.b 0 0
def PR.len (x : PR) : Nat := 25 + x.a.length + x.b.length
def PR.may (x : PR) : Prop := mayR x.q ((1 : Nat) : Int) x.a.length x.b.length 0 0 = true
theorem PR.run_len (x : PR) : x.run.length = x.len := by unfold PR.run PR.len; rw [runR_len]
theorem PR.len_le {x : PR} (h : x.may) : 26 ≤ x.len ∧ x.len ≤ 1113 := by
  have := mayR_bounds h
  unfold PR.len
  omega
def runsP (l : List PR) : List UInt8 := l.flatMap PR.run
def segP (id : Nat) (l : List PR) : List UInt8 := headB 1 id ++ runsP l
/-- where record i begins -/
def offP (l : List PR) (i : Nat) : Nat := 16 + (runsP (l.take i)).length
theorem runsP_succ {l : List PR} {i : Nat} (hi : i < l.length) : runsP (l.take (i + 1)) = runsP (l.take i) ++ (l[i]).run := by
  unfold runsP
  rw [List.take_succ_eq_append_getElem hi, List.flatMap_append]
  simp
theorem runsP_split {l : List PR} {i : Nat} (hi : i < l.length) : runsP l = runsP (l.take i) ++ ((l[i]).run ++ runsP (l.drop (i + 1))) := by
  have h : l = l.take i ++ (l[i] :: l.drop (i + 1)) := by rw [List.getElem_cons_drop hi, List.take_append_drop]
  conv => lhs; rw [h]
  unfold runsP
  rw [List.flatMap_append, List.flatMap_cons]
theorem offP_zero (l : List PR) : offP l 0 = 16 := rfl
theorem offP_succ {l : List PR} {i : Nat} (hi : i < l.length) : offP l (i + 1) = offP l i + (l[i]).len := by
  unfold offP
  rw [runsP_succ hi, List.length_append, PR.run_len, Nat.add_assoc]
theorem segP_len (id : Nat) (l : List PR) : (segP id l).length = offP l l.length := by
  unfold segP offP
  rw [List.length_append, headB_len, List.take_length]
theorem offP_mono {l : List PR} : ∀ {i j : Nat}, i ≤ j → offP l i ≤ offP l j := by
  intro i j h
  unfold offP runsP
  have : l.take i = (l.take j).take i := by rw [List.take_take, Nat.min_eq_left h]
  rw [this]
  conv => rhs; rw [← List.take_append_drop i (l.take j), List.flatMap_append, List.length_append]
  omega
theorem offP_le {l : List PR} (h : ∀ x ∈ l, x.may) : ∀ i, offP l i ≤ 16 + 1113 * i
  | 0 => Nat.le_refl _
  | i + 1 => by
    have ih := offP_le h i
    rcases Nat.lt_or_ge i l.length with hi | hi
    · rw [offP_succ hi]
      have := (PR.len_le (h _ (List.getElem_mem hi))).2
      omega
    · have : offP l (i + 1) = offP l i := by unfold offP; rw [List.take_of_length_le hi, List.take_of_length_le (by omega)]
      omega
/-- the bytes of a whole segment from record i on -/
theorem seg_drop (id : Nat) {l : List PR} {i : Nat} (hi : i < l.length) (r : List UInt8) : (segP id l ++ r).drop (offP l i) = (l[i]).run ++ (runsP (l.drop (i + 1)) ++ r) := by
  unfold segP offP
  rw [runsP_split hi, List.append_assoc, List.append_assoc, ← headB_len 1 id, ← List.drop_drop, List.drop_left, List.drop_left, List.append_assoc]
theorem seg_head (id : Nat) (l : List PR) : (segP id l).take 16 = headB 1 id := by
  unfold segP
  rw [← headB_len 1 id, List.take_left]

/-- the state ahead of record i, where record t is passed over -/
def stT (l : List PR) (t i : Nat) : Sc := ⟨((List.range i).filter fun j => decide (j ≠ t)).map (offP l), if t < i then [offP l t] else [], offP l i, 0⟩
theorem stT_zero (l : List PR) (t : Nat) : stT l t 0 = ⟨[], [], 16, 0⟩ := by unfold stT; simp [offP_zero]
/-- what is asked of the bytes: all but the one record stand as they were laid -/
structure Laid (b : List UInt8) (l : List PR) (t m : Nat) : Prop where
  le : m ≤ l.length
  may : ∀ x ∈ l, x.may
  up : (l.map PR.q).Pairwise (· < ·)
  at_ : ∀ i, (hi : i < m) → i ≠ t → ∃ r, b.drop (offP l i) = (l[i]).run ++ r
  bad : ∀ ht : t < m, getS (b.drop (offP l t)) = ((l[t]).len, 23)
  small : m ≤ 15000
  len : offP l m ≤ b.length
section
variable {b : List UInt8} {l : List PR} {t m : Nat}
theorem Laid.seq (h : Laid b l t m) {i : Nat} (hi : i < m) (hne : i ≠ t) : numH (b.drop (offP l i)) 3 = (l[i]'(Nat.lt_of_lt_of_le hi h.le)).q ∧ getS (b.drop (offP l i)) = ((l[i]'(Nat.lt_of_lt_of_le hi h.le)).len, 0) := by
  obtain ⟨r, hr⟩ := h.at_ i hi hne
  have hm := h.may _ (List.getElem_mem (Nat.lt_of_lt_of_le hi h.le))
  rw [hr]
  unfold PR.run PR.len
  exact ⟨(told_run hm r).2.2.2.2.2.1, getS_run hm r⟩
theorem Laid.last (h : Laid b l t m) : ∀ {i : Nat}, (hi : i < m) → lastQ b (stT l t i).fd < (l[i]'(Nat.lt_of_lt_of_le hi h.le)).q := by
  intro i hi
  have h0 : 1 ≤ (l[i]'(Nat.lt_of_lt_of_le hi h.le)).q := by
    have := mayR_bounds (h.may _ (List.getElem_mem (Nat.lt_of_lt_of_le hi h.le)))
    omega
  rcases List.eq_nil_or_concat ((List.range i).filter fun j => decide (j ≠ t)) with hn | ⟨L, y, hn⟩
  · unfold stT
    simp only [hn, List.map_nil, lastQ_nil]
    exact h0
  · have hy : y ∈ (List.range i).filter fun j => decide (j ≠ t) := by rw [hn]; simp
    rw [List.mem_filter, List.mem_range] at hy
    obtain ⟨hy1, hy2⟩ := hy
    have hy2 : y ≠ t := by simpa using hy2
    unfold stT
    simp only [hn, List.concat_eq_append, List.map_append, List.map_cons, List.map_nil, lastQ_snoc]
    rw [(h.seq (Nat.lt_trans hy1 hi) hy2).1]
    have := List.pairwise_iff_getElem.1 h.up y i (by rw [List.length_map]; exact Nat.lt_of_lt_of_le (Nat.lt_trans hy1 hi) h.le) (by rw [List.length_map]; exact Nat.lt_of_lt_of_le hi h.le) hy1
    simpa using this
theorem Laid.next (h : Laid b l t m) {i : Nat} (hi : i < m) : nextS b (stT l t i) = (true, stT l t (i + 1)) := by
  have hil := Nat.lt_of_lt_of_le hi h.le
  have hoff := offP_le h.may i
  have hsm := h.small
  have hlen := (PR.len_le (h.may _ (List.getElem_mem hil))).1
  have hos := offP_succ hil
  have hmm := offP_mono (l := l) (show i + 1 ≤ m from hi)
  have hlb := h.len
  have hne : (stT l t i).en ≠ b.length := by show offP l i ≠ _; omega
  have hle : (stT l t i).en ≤ 16777216 := by show offP l i ≤ _; omega
  by_cases hit : i = t
  · subst hit
    have hb := h.bad hi
    rw [nextS_passed hne hle (by show (getS (b.drop (offP l i))).2 = _; rw [hb]) (by show 0 < (getS (b.drop (offP l i))).1; rw [hb]; show 0 < _; omega)]
    have e : (getS (b.drop (stT l i i).en)).1 = (l[i]).len := by show (getS (b.drop (offP l i))).1 = _; rw [hb]
    rw [e]
    unfold stT
    simp only [Nat.lt_irrefl, if_false, Nat.lt_succ_self, if_true, List.nil_append, hos]
    rw [List.range_succ, List.filter_append]
    simp
  · obtain ⟨hq, hg⟩ := h.seq hi hit
    have hl := h.last hi
    rw [nextS_found hne hle (by show (getS (b.drop (offP l i))).2 = _; rw [hg]) (by show _ < numH (b.drop (offP l i)) 3; rw [hq]; exact hl)]
    have e : (getS (b.drop (stT l t i).en)).1 = (l[i]).len := by show (getS (b.drop (offP l i))).1 = _; rw [hg]
    rw [e]
    unfold stT
    have e2 : (if t < i + 1 then [offP l t] else []) = (if t < i then [offP l t] else []) := by
      by_cases h1 : t < i
      · rw [if_pos h1, if_pos (by omega)]
      · rw [if_neg h1, if_neg (by omega)]
    simp only [hos, e2]
    rw [List.range_succ, List.filter_append]
    simp [hit]
theorem Laid.run (h : Laid b l t m) (f : Nat) : ∀ (d i : Nat), i + d = m → runS b (f + d) (stT l t i) = runS b f (stT l t m)
  | 0, i, hi => by subst hi; rfl
  | d + 1, i, hi => by
    show runS b ((f + d) + 1) _ = _
    rw [runS, h.next (by omega)]
    exact h.run f d (i + 1) (by omega)
/-- the scan of such bytes is what comes behind the records -/
theorem Laid.of (h : Laid b l t m) {id : Nat} (hc : chkH b 1 id = 0) (hs : (nextS b (stT l t m)).1 = false) : ofS id b = (nextS b (stT l t m)).2 := by
  have hlb := h.len
  have hmb : m < b.length := by
    have : ∀ i, i ≤ m → 16 + i ≤ offP l i := by
      intro i hi
      induction i with
      | zero => exact Nat.le_refl _
      | succ i ih =>
        rw [offP_succ (Nat.lt_of_lt_of_le hi h.le)]
        have := (PR.len_le (h.may _ (List.getElem_mem (Nat.lt_of_lt_of_le hi h.le)))).1
        have := ih (by omega)
        omega
    have := this m (Nat.le_refl _)
    omega
  unfold ofS
  rw [if_pos hc, ← stT_zero l t]
  have := h.run (b.length - m) m 0 (by omega)
  rw [show b.length - m + m = b.length by omega] at this
  rw [this]
  obtain ⟨g, hg⟩ : ∃ g, b.length - m = g + 1 := ⟨b.length - m - 1, by omega⟩
  rw [hg, runS, hs]
  simp
end
theorem chkH_head {id k : Nat} {b : List UInt8} (hm : mayH (k : Int) id = true) (h : b.take 16 = headB (k : Int) id) : chkH b (k : Int) id = 0 := by
  have e : b = headB (k : Int) id ++ b.drop 16 := by rw [← h, List.take_append_drop]
  unfold chkH
  rw [e, headGet_put hm]
  simp
theorem chkH_other {id k id' : Nat} {b : List UInt8} (hm : mayH (k : Int) id = true) (h : b.take 16 = headB (k : Int) id) (hne : id ≠ id') : chkH b (k : Int) id' = 23 := by
  have e : b = headB (k : Int) id ++ b.drop 16 := by rw [← h, List.take_append_drop]
  unfold chkH
  rw [e, headGet_put hm]
  simp [hne]
theorem chkH_cut {id : Nat} {k : Int} {b : List UInt8} (h : b.length < 16) : chkH b k id = 22 := by
  unfold chkH
  rw [headGet_short h]
  simp
end Go.Proofs.YtfapipamohlniaaDoor

namespace Go.Proofs.YtfapipamohlniaaDoor
open Go.RowKit

/-- a record that was found: where it stands, and the blocks of its rows -/
structure FX where
  off : Nat
  gK : Nat
  gV : Nat
def FX.cells (id : Nat) (b : List UInt8) (x : FX) : List Value :=
  [.int .u32 (id : Int), .int .u32 (x.off : Int), .int .i64 ((getS (b.drop x.off)).1 : Int), .int .u64 (numH (b.drop x.off) 3 : Int), .int .i64 (numH (b.drop x.off) 0 : Int),
    .slice (some ⟨x.gK, 0, none⟩) (numH (b.drop x.off) 1) (numH (b.drop x.off) 1), .slice (some ⟨x.gV, 0, none⟩) (numH (b.drop x.off) 2) (numH (b.drop x.off) 2), .int .u32 (numH (b.drop x.off) 4 : Int), .int .u32 (numH (b.drop x.off) 5 : Int)]
theorem FX.cells_len (id : Nat) (b : List UInt8) (x : FX) : (x.cells id b).length = 9 := rfl
def FX.ok (w : World) (lo : Nat) (b : List UInt8) (x : FX) : Prop := Blk w x.gK 5 (bcells (keyG (b.drop x.off))).toArray ∧ Blk w x.gV 5 (bcells (valG (b.drop x.off))).toArray ∧ x.gK ≠ x.gV ∧ lo ≤ x.gK ∧ lo ≤ x.gV
theorem FX.ok.after {w w' : World} {lo : Nat} {b : List UInt8} {x : FX} (h : x.ok w lo b) (hb : Below w.heap.size w w') : x.ok w' lo b := ⟨h.1.after hb, h.2.1.after hb, h.2.2⟩
def ScRow (lo : Nat) (b : List UInt8) (id : Nat) (s : Sc) (vF vP : Value) (X : List FX) (w : World) : Prop :=
  X.map FX.off = s.fd ∧ Ow w lo 46 9 vF X.length (X.flatMap (FX.cells id b)) ∧ Ow w lo 3 1 vP s.ps.length (s.ps.map fun o : Nat => .int .i64 (o : Int)) ∧ ∀ x ∈ X, x.ok w lo b
def scCells (id : Nat) (s : Sc) (vF vP : Value) : Array Value := #[.int .u32 (id : Int), vF, vP, .int .i64 (s.en : Int), .int .i64 (s.wy : Int)]
/-- a scan that lies in a block -/
def ScW (lo : Nat) (b : List UInt8) (id g : Nat) (s : Sc) (w : World) : Prop := ∃ vF vP X, Blk w g 33 (scCells id s vF vP) ∧ ScRow lo b id s vF vP X w
theorem ScRow.after {lo : Nat} {b : List UInt8} {id : Nat} {s : Sc} {vF vP : Value} {X : List FX} {w w' : World} (h : ScRow lo b id s vF vP X w) (hb : Below w.heap.size w w') : ScRow lo b id s vF vP X w' :=
  ⟨h.1, Ow.after h.2.1 hb, Ow.after h.2.2.1 hb, fun x hx => (h.2.2.2 x hx).after hb⟩
theorem ScRow.wy {lo : Nat} {b : List UInt8} {id : Nat} {s : Sc} {vF vP : Value} {X : List FX} {w : World} (h : ScRow lo b id s vF vP X w) (y e : Nat) : ScRow lo b id { s with wy := y, en := e } vF vP X w := h
theorem FX.ok.set {w : World} {lo g : Nat} {t : TypeId} {cs : Array Value} {b : List UInt8} {x : FX} (h : x.ok w lo b) (hb : Blk w g t cs) (ht : t ≠ 5) (i : Nat) (u : Value) : x.ok (w.setCell ⟨g, i, none⟩ u) lo b :=
  ⟨h.1.far (h.1.ne_ hb (Ne.symm ht)) u, h.2.1.far (h.2.1.ne_ hb (Ne.symm ht)) u, h.2.2⟩
theorem ScRow.set {lo : Nat} {b : List UInt8} {id g : Nat} {s : Sc} {vF vP : Value} {X : List FX} {w : World} {cs : Array Value} (h : ScRow lo b id s vF vP X w) (hb : Blk w g 33 cs) (i : Nat) (u : Value) : ScRow lo b id s vF vP X (w.setCell ⟨g, i, none⟩ u) :=
  ⟨h.1, Ow.setT h.2.1 hb (by decide) i u, Ow.setT h.2.2.1 hb (by decide) i u, fun x hx => (h.2.2.2 x hx).set hb (by decide) i u⟩
theorem scw_why {lo : Nat} {b : List UInt8} {id g : Nat} {s : Sc} {vF vP : Value} {X : List FX} {w : World} (hq : Blk w g 33 (scCells id s vF vP)) (hr : ScRow lo b id s vF vP X w) (y : Nat) :
    ScW lo b id g { s with wy := y } (w.setCell ⟨g, 4, none⟩ (.int .i64 (y : Int))) := ⟨vF, vP, X, hq.set_ 4 _, hr.set hq 4 _⟩
theorem ScRow.drewN {lo : Nat} {b : List UInt8} {id : Nat} {s : Sc} {vF vP : Value} {X : List FX} {w : World} (h : ScRow lo b id s vF vP X w) (q : Nat) : ScRow lo b id s vF vP X (w.drewN q) := h.after (below_drewN (Below.refl _ _) q)
theorem ScW.after {lo : Nat} {b : List UInt8} {id g : Nat} {s : Sc} {w w' : World} (h : ScW lo b id g s w) (hb : Below w.heap.size w w') : ScW lo b id g s w' := by
  obtain ⟨vF, vP, X, hq, hr⟩ := h
  exact ⟨vF, vP, X, hq.after hb, hr.after hb⟩
theorem ScW.alloc {lo : Nat} {b : List UInt8} {id g : Nat} {s : Sc} {w : World} (h : ScW lo b id g s w) (o : Obj) : ScW lo b id g s (w.alloc o) := h.after ((Below.refl _ _).alloc (Nat.le_refl _) o)
theorem fx_get (id : Nat) (b : List UInt8) (l : List FX) {i j : Nat} (hi : i < l.length) (hj : j < 9) : (l.flatMap (FX.cells id b))[i * 9 + j]? = ((l[i]).cells id b)[j]? := by
  rw [flatMap_get (FX.cells id b) 9 (FX.cells_len id b) l i j hj]
  simp [hi]
theorem Below.drew_ (w : World) : Below w.heap.size w w.drew := ⟨rfl, rfl, rfl, Nat.le_refl _, fun _ _ => rfl⟩

set_option maxRecDepth 100000 in
set_option maxHeartbeats 1000000 in
theorem last_any (lo : Nat) (b : List UInt8) (id g : Nat) (s : Sc) (vF vP : Value) (X : List FX) (w : World) (hq : Blk w g 33 (scCells id s vF vP)) (hS : ScRow lo b id s vF vP X w) (hn : s.fd.length ≤ 1000000) :
    Calls Tryd.prog 26 #[.pointer (some ⟨g, 0, none⟩)] w fun e w' => e = .returned (.int .u64 (lastQ b s.fd : Int)) ∧ Below w.heap.size w w' := by
  obtain ⟨hX, hF, _, _⟩ := hS
  have hXl : X.length = s.fd.length := by rw [← hX, List.length_map]
  obtain ⟨AF, cF, rfl⟩ := own_slice hF
  have c1 := hq.cell 1
  rcases Nat.eq_zero_or_pos X.length with h0 | h0
  · have e0 : s.fd = [] := List.eq_nil_of_length_eq_zero (by omega)
    rw [h0] at c1
    rw [e0, lastQ_nil]
    simp only [scCells] at c1
    clear hq hF hX hXl hn e0 h0
    go_enter Tryd.func26, Tryd.ntmps26
    go_wp2
    go_ret
    exact ⟨rfl, Below.refl _ _⟩
  · obtain ⟨n, hn'⟩ : ∃ n, X.length = n + 1 := ⟨X.length - 1, by omega⟩
    have hl : lastQ b s.fd = numH (b.drop (X[n]'(by omega)).off) 3 := by
      have : X = X.take n ++ [X[n]'(by omega)] := by rw [← List.take_succ_eq_append_getElem, ← hn', List.take_length]
      rw [← hX]
      conv => lhs; rw [this]
      rw [List.map_append, List.map_cons, List.map_nil, lastQ_snoc]
    obtain ⟨gF, cF', hA, _⟩ := own_ptr hF (by omega)
    injection hA with hA _ _
    subst hA
    have cS := hF.cell rfl (by omega) ((fx_get id b X (i := n) (j := 3) (by omega) (by omega)).trans rfl)
    rw [Nat.zero_add] at cS
    rw [hl]
    rw [hn'] at c1
    have i1 : ((((n + 1 : Nat) : Int)) == 0) = false := by simp; omega
    have i2 : (((n + 1 : Nat) : Int)) - 1 = (n : Int) := by omega
    have i3 : n ≤ 1000000 := by omega
    have I2 := Lib.hid i2
    simp only [scCells] at c1
    generalize numH (b.drop (X[n]'(by omega)).off) 3 = q at *
    clear hq hF hX hXl hn hl i2
    obtain ⟨N, hN⟩ : ∃ N, N = n + 1 := ⟨_, rfl⟩
    rw [← hN] at c1 i1 I2
    have hnN : n < N := by omega
    have HN := Lib.hid hN
    clear hN h0 hn'
    have hcell : w.cell? ⟨gF, n * 9 + 3, none⟩ = some (.int .u64 (q : Int)) := cS
    go_enter Tryd.func26, Tryd.ntmps26
    go_wp2_with fail
    have hsub : (N : Int) - 1 = (n : Int) := I2.out
    go_quiet (fail)
    go_wp2_with fail
    go_ret
    exact ⟨rfl, below_drewN (Below.refl _ _) _⟩

def RetNext (lo : Nat) (b : List UInt8) (id g : Nat) (s : Sc) (w : World) (e : Ending) (w' : World) : Prop := e = .returned (.bool (nextS b s).1) ∧ ScW lo b id g (nextS b s).2 w' ∧ Below lo w w' ∧ w.heap.size ≤ w'.heap.size
/-- record.Get, whatever it tells -/
def RetAny (w : World) (e : Ending) (w' : World) : Prop := ∃ (q : Nat) (k : Int) (A B : Option Addr) (n m s o z c : Nat), e = .returned (.tuple #[recV q k (.slice A n n) (.slice B m m) s o, .int .i64 (z : Int), .int .i64 (c : Int)]) ∧ Below w.heap.size w w'
theorem getR_all (l : List UInt8) (A : Option Addr) (n c : Nat) (w : World) (hT : TabR w) (hnc : n ≤ c) (h : Rd w w.heap.size 1 A n (bcells l)) : Calls Tryd.prog 35 #[.slice A n c] w (RetAny w) :=
  (getR_any l A n c w hT hnc h).mono fun e w' ⟨h, hb⟩ => by
    rcases h with ⟨_, rfl⟩ | ⟨_, gK, gV, rfl, _⟩
    · exact ⟨0, 0, none, none, 0, 0, 0, 0, _, _, rfl, hb⟩
    · exact ⟨_, _, _, _, _, _, _, _, _, 0, rfl, hb⟩

set_option maxRecDepth 100000 in
set_option maxHeartbeats 1000000 in
theorem next_fin (lo : Nat) (b : List UInt8) (A : Option Addr) (n c : Nat) (id g : Nat) (s : Sc) (w : World) (h : Rd w lo 1 A n (bcells b)) (hS : ScW lo b id g s w) (k : s.en = b.length) :
    Calls Tryd.prog 23 #[.pointer (some ⟨g, 0, none⟩), .slice A n c] w (RetNext lo b id g s w) := by
  have hln := h.1
  rw [bcells_len, Nat.mul_one] at hln
  obtain ⟨vF, vP, X, hq, hr⟩ := hS
  have c3 := hq.cell 3
  have HQ := Lib.hid hq
  have HR := Lib.hid hr
  have i1 : ((s.en : Int) == (n : Int)) = true := by simp; omega
  have HK := Lib.hid k
  simp only [scCells] at c3
  clear hq hr h hln k
  go_enter Tryd.func23, Tryd.ntmps23
  go_wp2_with fail
  go_ret
  unfold RetNext
  rw [nextS_end HK.out]
  exact ⟨rfl, ⟨vF, vP, X, HQ.out, HR.out⟩, Below.refl _ _, Nat.le_refl _⟩

set_option maxRecDepth 100000 in
set_option maxHeartbeats 1000000 in
theorem next_long (lo : Nat) (b : List UInt8) (A : Option Addr) (n c : Nat) (id g : Nat) (s : Sc) (w : World) (hT : TabR w) (hnc : n ≤ c) (h : Rd w lo 1 A n (bcells b)) (hlo : lo ≤ g) (hS : ScW lo b id g s w) (hen : s.en ≤ n)
    (k : s.en ≠ b.length) (k2 : 16777216 < s.en) :
    Calls Tryd.prog 23 #[.pointer (some ⟨g, 0, none⟩), .slice A n c] w (RetNext lo b id g s w) := by
  have hln := h.1
  rw [bcells_len, Nat.mul_one] at hln
  obtain ⟨vF, vP, X, hq, hr⟩ := hS
  have c3 := hq.cell 3
  obtain ⟨ba, off, rfl, _, _⟩ := h.2.2 (by omega)
  obtain ⟨A2, hsl, r0⟩ := low_rd (h.more (Nat.le_trans hlo (Nat.le_of_lt hq.lt))) hen hnc
  have HG := Lib.hid (getR_all (b.drop s.en) A2 (n - s.en) (c - s.en) w hT (by omega) r0)
  have HQ := Lib.hid hq
  have HR := Lib.hid hr
  have HH := Lib.hid h
  have i1 : ((s.en : Int) == (n : Int)) = false := by simp; omega
  have i2 : (16777216 : Int) < (s.en : Int) := by omega
  have HK := Lib.hid k
  have HK2 := Lib.hid k2
  simp only [scCells] at c3
  clear hq hr h hln k k2 r0
  go_enter Tryd.func23, Tryd.ntmps23
  go_wp2_with fail
  refine HG.out.mono ?_
  rintro e w1 ⟨q, k, A1, B1, n1, m1, s1, o1, z1, cd1, rfl, b1⟩
  unfold recV
  have hq1 := HQ.out.after b1
  have c3 := hq1.cell 3
  have c4 := hq1.frozen 4
  simp only [scCells] at c3
  have hgl := hq1.lt
  have c4c := hq1.cell 4
  simp only [scCells] at c4c
  have hrb := HR.out.after b1
  have hbl := b1.mono (Nat.le_trans hlo (Nat.le_of_lt HQ.out.lt))
  have hl1 := Nat.le_trans (Nat.le_trans hlo (Nat.le_of_lt HQ.out.lt)) b1.size
  have hgl := hq1.lt
  have HQ1 := Lib.hid hq1
  have hsz := b1.size
  clear hq1
  go_wp2_with fail
  go_ret
  unfold RetNext
  rw [nextS_long HK.out HK2.out]
  exact ⟨rfl, (scw_why HQ1.out hrb 23).alloc _, (hbl.setCell (p := ⟨g, 4, none⟩) hlo _).alloc (by simpa using hl1) _, by simp; omega⟩

def RetNo (z c : Nat) (w : World) (e : Ending) (w' : World) : Prop := e = .returned (.tuple #[recV 0 0 (.slice none 0 0) (.slice none 0 0) 0 0, .int .i64 (z : Int), .int .i64 (c : Int)]) ∧ Below w.heap.size w w'
theorem getR_no (l : List UInt8) (A : Option Addr) (n c : Nat) (w : World) (hT : TabR w) (hnc : n ≤ c) (h : Rd w w.heap.size 1 A n (bcells l)) (z cd : Nat) (hS : getS l = (z, cd)) (hc : cd ≠ 0) : Calls Tryd.prog 35 #[.slice A n c] w (RetNo z cd w) :=
  (getR_any l A n c w hT hnc h).mono fun e w' ⟨h, hb⟩ => by
    rw [hS] at h
    rcases h with ⟨_, rfl⟩ | ⟨h, _⟩
    · exact ⟨rfl, hb⟩
    · exact absurd h hc
def RetYes (l : List UInt8) (w : World) (e : Ending) (w' : World) : Prop := ∃ gK gV, e = .returned (.tuple #[recV (numH l 3) (numH l 0 : Int) (.slice (some ⟨gK, 0, none⟩) (numH l 1) (numH l 1)) (.slice (some ⟨gV, 0, none⟩) (numH l 2) (numH l 2)) (numH l 4) (numH l 5), .int .i64 ((getS l).1 : Int), .int .i64 0]) ∧
  Blk w' gK 5 (bcells (keyG l)).toArray ∧ Blk w' gV 5 (bcells (valG l)).toArray ∧ gK ≠ gV ∧ w.heap.size ≤ gK ∧ w.heap.size ≤ gV ∧ Below w.heap.size w w'
theorem getR_yes (l : List UInt8) (A : Option Addr) (n c : Nat) (w : World) (hT : TabR w) (hnc : n ≤ c) (h : Rd w w.heap.size 1 A n (bcells l)) (hc : (getS l).2 = 0) : Calls Tryd.prog 35 #[.slice A n c] w (RetYes l w) :=
  (getR_any l A n c w hT hnc h).mono fun e w' ⟨h, hb⟩ => by
    rcases h with ⟨h, _⟩ | ⟨_, gK, gV, rfl, h1, h2, h3, h4, h5⟩
    · exact absurd hc h
    · exact ⟨gK, gV, rfl, h1, h2, h3, h4, h5, hb⟩


set_option maxRecDepth 100000 in
set_option maxHeartbeats 4000000 in
theorem next_torn (lo : Nat) (b : List UInt8) (A : Option Addr) (n c : Nat) (id g : Nat) (s : Sc) (w : World) (hT : TabR w) (hnc : n ≤ c) (h : Rd w lo 1 A n (bcells b)) (hlo : lo ≤ g) (hS : ScW lo b id g s w) (hen : s.en ≤ n)
    (k : s.en ≠ b.length) (k2 : s.en ≤ 16777216) (k3 : getS (b.drop s.en) = (0, 22)) :
    Calls Tryd.prog 23 #[.pointer (some ⟨g, 0, none⟩), .slice A n c] w (RetNext lo b id g s w) := by
  have hln := h.1
  rw [bcells_len, Nat.mul_one] at hln
  obtain ⟨vF, vP, X, hq, hr⟩ := hS
  have c3 := hq.cell 3
  obtain ⟨ba, off, rfl, _, _⟩ := h.2.2 (by omega)
  obtain ⟨A2, hsl, r0⟩ := low_rd (h.more (Nat.le_trans hlo (Nat.le_of_lt hq.lt))) hen hnc
  have HG := Lib.hid (getR_no (b.drop s.en) A2 (n - s.en) (c - s.en) w hT (by omega) r0 0 22 k3 (by decide))
  have HQ := Lib.hid hq
  have HR := Lib.hid hr
  have i1 : ((s.en : Int) == (n : Int)) = false := by simp; omega
  have i2 : ¬ (16777216 : Int) < (s.en : Int) := by omega
  have HK := Lib.hid k
  have HK2 := Lib.hid k2
  have K3 := Lib.hid k3
  simp only [scCells] at c3
  clear hq hr h hln k k2 r0 k3
  go_enter Tryd.func23, Tryd.ntmps23
  go_wp2_with fail
  refine HG.out.mono ?_
  unfold RetNo recV
  rintro e w1 ⟨rfl, b1⟩
  have hq1 := HQ.out.after b1
  have hrb := HR.out.after b1
  have hbl := b1.mono (Nat.le_trans hlo (Nat.le_of_lt HQ.out.lt))
  have hl1 := Nat.le_trans (Nat.le_trans hlo (Nat.le_of_lt HQ.out.lt)) b1.size
  have hsz := b1.size
  have c3 := hq1.cell 3
  simp only [scCells] at c3
  have hgl := hq1.lt
  have HQ1 := Lib.hid hq1
  clear hq1
  go_upto_region 9 with (fail)
  obtain ⟨OB, hOB⟩ : ∃ o, o = Obj.cells #[.int .u64 0, .int .i64 0, .slice none 0 0, .slice none 0 0, .int .u32 0, .int .u32 0] 44 := ⟨_, rfl⟩
  have q5 := Blk.newAt w1 44 #[.int .u64 0, .int .i64 0, .slice none 0 0, .slice none 0 0, .int .u32 0, .int .u32 0] (g := w1.heap.size) rfl
  have hq2 := HQ1.out.alloc (.cells #[.int .u64 0, .int .i64 0, .slice none 0 0, .slice none 0 0, .int .u32 0, .int .u32 0] 44)
  have hrb := hrb.after ((Below.refl _ _).alloc (Nat.le_refl _) (.cells #[.int .u64 0, .int .i64 0, .slice none 0 0, .slice none 0 0, .int .u32 0, .int .u32 0] 44))
  have hbl := hbl.alloc hl1 (.cells #[.int .u64 0, .int .i64 0, .slice none 0 0, .slice none 0 0, .int .u32 0, .int .u32 0] 44)
  have hsz2 : w1.heap.size + 1 = (w1.alloc (.cells #[.int .u64 0, .int .i64 0, .slice none 0 0, .slice none 0 0, .int .u32 0, .int .u32 0] 44)).heap.size := by simp
  generalize w1.alloc (.cells #[.int .u64 0, .int .i64 0, .slice none 0 0, .slice none 0 0, .int .u32 0, .int .u32 0] 44) = w2 at *
  obtain ⟨g5, hg5⟩ : ∃ a, a = w1.heap.size := ⟨_, rfl⟩
  have hwz : w.heap.size ≤ w2.heap.size := by omega
  rw [← hg5] at q5 ⊢
  clear hOB OB hl1 hsz hg5 hsz2 c3
  have c4 := hq2.frozen 4
  have c4c := hq2.cell 4
  simp only [scCells] at c4c
  have HQ2 := Lib.hid hq2
  clear hq2
  go_quiet (fail)
  go_wp2_with fail
  go_ret
  unfold RetNext
  rw [nextS_torn HK.out HK2.out (by rw [K3.out])]
  exact ⟨rfl, scw_why (HQ2.out.drewN _) (hrb.drewN _) 22, (below_drewN hbl _).setCell (p := ⟨g, 4, none⟩) hlo _, by simpa using hwz⟩

set_option maxRecDepth 100000 in
set_option maxHeartbeats 4000000 in
theorem next_none (lo : Nat) (b : List UInt8) (A : Option Addr) (n c : Nat) (id g : Nat) (s : Sc) (w : World) (hT : TabR w) (hnc : n ≤ c) (h : Rd w lo 1 A n (bcells b)) (hlo : lo ≤ g) (hS : ScW lo b id g s w) (hen : s.en ≤ n)
    (k : s.en ≠ b.length) (k2 : s.en ≤ 16777216) (k3 : getS (b.drop s.en) = (0, 23)) :
    Calls Tryd.prog 23 #[.pointer (some ⟨g, 0, none⟩), .slice A n c] w (RetNext lo b id g s w) := by
  have hln := h.1
  rw [bcells_len, Nat.mul_one] at hln
  obtain ⟨vF, vP, X, hq, hr⟩ := hS
  have c3 := hq.cell 3
  obtain ⟨ba, off, rfl, _, _⟩ := h.2.2 (by omega)
  obtain ⟨A2, hsl, r0⟩ := low_rd (h.more (Nat.le_trans hlo (Nat.le_of_lt hq.lt))) hen hnc
  have HG := Lib.hid (getR_no (b.drop s.en) A2 (n - s.en) (c - s.en) w hT (by omega) r0 0 23 k3 (by decide))
  have HQ := Lib.hid hq
  have HR := Lib.hid hr
  have i1 : ((s.en : Int) == (n : Int)) = false := by simp; omega
  have i2 : ¬ (16777216 : Int) < (s.en : Int) := by omega
  have HK := Lib.hid k
  have HK2 := Lib.hid k2
  have K3 := Lib.hid k3
  simp only [scCells] at c3
  clear hq hr h hln k k2 r0 k3
  go_enter Tryd.func23, Tryd.ntmps23
  go_wp2_with fail
  refine HG.out.mono ?_
  unfold RetNo recV
  rintro e w1 ⟨rfl, b1⟩
  have hq1 := HQ.out.after b1
  have hrb := HR.out.after b1
  have hbl := b1.mono (Nat.le_trans hlo (Nat.le_of_lt HQ.out.lt))
  have hl1 := Nat.le_trans (Nat.le_trans hlo (Nat.le_of_lt HQ.out.lt)) b1.size
  have hsz := b1.size
  have c3 := hq1.cell 3
  simp only [scCells] at c3
  have hgl := hq1.lt
  have HQ1 := Lib.hid hq1
  clear hq1
  go_upto_region 9 with (fail)
  obtain ⟨OB, hOB⟩ : ∃ o, o = Obj.cells #[.int .u64 0, .int .i64 0, .slice none 0 0, .slice none 0 0, .int .u32 0, .int .u32 0] 44 := ⟨_, rfl⟩
  have q5 := Blk.newAt w1 44 #[.int .u64 0, .int .i64 0, .slice none 0 0, .slice none 0 0, .int .u32 0, .int .u32 0] (g := w1.heap.size) rfl
  have hq2 := HQ1.out.alloc (.cells #[.int .u64 0, .int .i64 0, .slice none 0 0, .slice none 0 0, .int .u32 0, .int .u32 0] 44)
  have hrb := hrb.after ((Below.refl _ _).alloc (Nat.le_refl _) (.cells #[.int .u64 0, .int .i64 0, .slice none 0 0, .slice none 0 0, .int .u32 0, .int .u32 0] 44))
  have hbl := hbl.alloc hl1 (.cells #[.int .u64 0, .int .i64 0, .slice none 0 0, .slice none 0 0, .int .u32 0, .int .u32 0] 44)
  have hsz2 : w1.heap.size + 1 = (w1.alloc (.cells #[.int .u64 0, .int .i64 0, .slice none 0 0, .slice none 0 0, .int .u32 0, .int .u32 0] 44)).heap.size := by simp
  generalize w1.alloc (.cells #[.int .u64 0, .int .i64 0, .slice none 0 0, .slice none 0 0, .int .u32 0, .int .u32 0] 44) = w2 at *
  obtain ⟨g5, hg5⟩ : ∃ a, a = w1.heap.size := ⟨_, rfl⟩
  have hwz : w.heap.size ≤ w2.heap.size := by omega
  rw [← hg5] at q5 ⊢
  clear hOB OB hl1 hsz hg5 hsz2 c3
  have c4 := hq2.frozen 4
  have c4c := hq2.cell 4
  simp only [scCells] at c4c
  have HQ2 := Lib.hid hq2
  clear hq2
  go_quiet (fail)
  go_wp2_with fail
  go_ret
  unfold RetNext
  rw [nextS_bad HK.out HK2.out (.inl K3.out)]
  exact ⟨rfl, scw_why (HQ2.out.drewN _) (hrb.drewN _) 23, (below_drewN hbl _).setCell (p := ⟨g, 4, none⟩) hlo _, by simpa using hwz⟩
end Go.Proofs.YtfapipamohlniaaDoor

namespace Go.Proofs.YtfapipamohlniaaDoor
open Go.RowKit

theorem Tryd.infoI64 : (Tryd.prog.info? 3).map (fun i => (i.zero, i.size, i.bytes)) = some (some (.int .i64 0), 1, 8) := by kernel_rfl
theorem eltI64 : Elt Tryd.prog 30 3 (.int .i64 0) 1 8 := ⟨Tryd.underlying30, Tryd.infoI64, rfl, by omega⟩
theorem Tryd.infoFound : (Tryd.prog.info? 46).map (fun i => (i.zero, i.size, i.bytes)) = some (some (.agg #[.int .u32 0, .int .u32 0, .int .i64 0, .int .u64 0, .int .i64 0, .slice none 0 0, .slice none 0 0, .int .u32 0, .int .u32 0]), 9, 88) := by kernel_rfl
theorem eltFound : Elt Tryd.prog 29 46 (.agg #[.int .u32 0, .int .u32 0, .int .i64 0, .int .u64 0, .int .i64 0, .slice none 0 0, .slice none 0 0, .int .u32 0, .int .u32 0]) 9 88 := ⟨Tryd.underlying29, Tryd.infoFound, rfl, by omega⟩
theorem blk_eq {w : World} {g : Nat} {t : TypeId} {cs cs' : Array Value} (h : Blk w g t cs) (e : cs = cs') : Blk w g t cs' := e ▸ h
theorem own_eq {w : World} {base n n' size : Nat} {e : TypeId} {v : Value} {xs xs' : List Value} (h : Ow w base e size v n xs) (hn : n = n') (hx : xs = xs') : Ow w base e size v n' xs' := by subst hn; subst hx; exact h
theorem FX.ok.grownT {w w' : World} {lo base size n : Nat} {e : TypeId} {v : Value} {xs : List Value} {b : List UInt8} {x : FX} (h : x.ok w lo b) (ho : Ow w base e size v n xs) (hne : 5 ≠ e) (hg : w.grownBy w' v.ownBlock) : x.ok w' lo b :=
  ⟨h.1.grownT ho hne hg, h.2.1.grownT ho hne hg, h.2.2⟩

set_option maxRecDepth 100000 in
set_option maxHeartbeats 4000000 in
theorem next_low (lo : Nat) (b : List UInt8) (A : Option Addr) (n c : Nat) (id g : Nat) (s : Sc) (w : World) (hT : TabR w) (hnc : n ≤ c) (h : Rd w lo 1 A n (bcells b)) (hlo : lo ≤ g) (hS : ScW lo b id g s w) (hen : s.en ≤ n) (hsm : s.fd.length ≤ 1000000 ∧ s.ps.length ≤ 1000000)
    (k : s.en ≠ b.length) (k2 : s.en ≤ 16777216) (k3 : (getS (b.drop s.en)).2 = 0) (k4 : numH (b.drop s.en) 3 ≤ lastQ b s.fd) :
    Calls Tryd.prog 23 #[.pointer (some ⟨g, 0, none⟩), .slice A n c] w (RetNext lo b id g s w) := by
  have hln := h.1
  rw [bcells_len, Nat.mul_one] at hln
  obtain ⟨vF, vP, X, hq, hr⟩ := hS
  have c3 := hq.cell 3
  obtain ⟨ba, off, rfl, _, _⟩ := h.2.2 (by omega)
  obtain ⟨A2, hsl, r0⟩ := low_rd (h.more (Nat.le_trans hlo (Nat.le_of_lt hq.lt))) hen hnc
  have HG := Lib.hid (getR_yes (b.drop s.en) A2 (n - s.en) (c - s.en) w hT (by omega) r0 k3)
  have HQ := Lib.hid hq
  have HR := Lib.hid hr
  have i1 : ((s.en : Int) == (n : Int)) = false := by simp; omega
  have i2 : ¬ (16777216 : Int) < (s.en : Int) := by omega
  have HK := Lib.hid k
  have HK2 := Lib.hid k2
  have K3 := Lib.hid k3
  have K4 := Lib.hid k4
  simp only [scCells] at c3
  clear hq hr h hln k k2 r0 k3 k4
  have i3 : ¬ (lastQ b s.fd : Int) < (numH (b.drop s.en) 3 : Int) := by have := K4.out; omega
  go_enter Tryd.func23, Tryd.ntmps23
  go_wp2_with fail
  refine HG.out.mono ?_
  unfold RetYes recV
  rintro e w1 ⟨gK, gV, rfl, qK, qV, hKV, hK1, hV1, b1⟩
  have hq1 := HQ.out.after b1
  have hrb := HR.out.after b1
  have hbl := b1.mono (Nat.le_trans hlo (Nat.le_of_lt HQ.out.lt))
  have hl1 := Nat.le_trans (Nat.le_trans hlo (Nat.le_of_lt HQ.out.lt)) b1.size
  have hsz := b1.size
  have c3 := hq1.cell 3
  simp only [scCells] at c3
  have hgl := hq1.lt
  have HQ1 := Lib.hid hq1
  clear hq1
  go_upto_region 9 with (fail)
  have q5 := Blk.newAt w1 44 #[.int .u64 (numH (b.drop s.en) 3 : Int), .int .i64 (numH (b.drop s.en) 0 : Int), (.slice (some ⟨gK, 0, none⟩) (numH (b.drop s.en) 1) (numH (b.drop s.en) 1)), (.slice (some ⟨gV, 0, none⟩) (numH (b.drop s.en) 2) (numH (b.drop s.en) 2)), .int .u32 (numH (b.drop s.en) 4 : Int), .int .u32 (numH (b.drop s.en) 5 : Int)] (g := w1.heap.size) rfl
  have hq2 := HQ1.out.alloc (.cells #[.int .u64 (numH (b.drop s.en) 3 : Int), .int .i64 (numH (b.drop s.en) 0 : Int), (.slice (some ⟨gK, 0, none⟩) (numH (b.drop s.en) 1) (numH (b.drop s.en) 1)), (.slice (some ⟨gV, 0, none⟩) (numH (b.drop s.en) 2) (numH (b.drop s.en) 2)), .int .u32 (numH (b.drop s.en) 4 : Int), .int .u32 (numH (b.drop s.en) 5 : Int)] 44)
  have hrb := hrb.after ((Below.refl _ _).alloc (Nat.le_refl _) (.cells #[.int .u64 (numH (b.drop s.en) 3 : Int), .int .i64 (numH (b.drop s.en) 0 : Int), (.slice (some ⟨gK, 0, none⟩) (numH (b.drop s.en) 1) (numH (b.drop s.en) 1)), (.slice (some ⟨gV, 0, none⟩) (numH (b.drop s.en) 2) (numH (b.drop s.en) 2)), .int .u32 (numH (b.drop s.en) 4 : Int), .int .u32 (numH (b.drop s.en) 5 : Int)] 44))
  have hbl := hbl.alloc hl1 (.cells #[.int .u64 (numH (b.drop s.en) 3 : Int), .int .i64 (numH (b.drop s.en) 0 : Int), (.slice (some ⟨gK, 0, none⟩) (numH (b.drop s.en) 1) (numH (b.drop s.en) 1)), (.slice (some ⟨gV, 0, none⟩) (numH (b.drop s.en) 2) (numH (b.drop s.en) 2)), .int .u32 (numH (b.drop s.en) 4 : Int), .int .u32 (numH (b.drop s.en) 5 : Int)] 44)
  have qK := qK.alloc (.cells #[.int .u64 (numH (b.drop s.en) 3 : Int), .int .i64 (numH (b.drop s.en) 0 : Int), (.slice (some ⟨gK, 0, none⟩) (numH (b.drop s.en) 1) (numH (b.drop s.en) 1)), (.slice (some ⟨gV, 0, none⟩) (numH (b.drop s.en) 2) (numH (b.drop s.en) 2)), .int .u32 (numH (b.drop s.en) 4 : Int), .int .u32 (numH (b.drop s.en) 5 : Int)] 44)
  have qV := qV.alloc (.cells #[.int .u64 (numH (b.drop s.en) 3 : Int), .int .i64 (numH (b.drop s.en) 0 : Int), (.slice (some ⟨gK, 0, none⟩) (numH (b.drop s.en) 1) (numH (b.drop s.en) 1)), (.slice (some ⟨gV, 0, none⟩) (numH (b.drop s.en) 2) (numH (b.drop s.en) 2)), .int .u32 (numH (b.drop s.en) 4 : Int), .int .u32 (numH (b.drop s.en) 5 : Int)] 44)
  have hsz2 : w1.heap.size + 1 = (w1.alloc (.cells #[.int .u64 (numH (b.drop s.en) 3 : Int), .int .i64 (numH (b.drop s.en) 0 : Int), (.slice (some ⟨gK, 0, none⟩) (numH (b.drop s.en) 1) (numH (b.drop s.en) 1)), (.slice (some ⟨gV, 0, none⟩) (numH (b.drop s.en) 2) (numH (b.drop s.en) 2)), .int .u32 (numH (b.drop s.en) 4 : Int), .int .u32 (numH (b.drop s.en) 5 : Int)] 44)).heap.size := by simp
  generalize w1.alloc (.cells #[.int .u64 (numH (b.drop s.en) 3 : Int), .int .i64 (numH (b.drop s.en) 0 : Int), (.slice (some ⟨gK, 0, none⟩) (numH (b.drop s.en) 1) (numH (b.drop s.en) 1)), (.slice (some ⟨gV, 0, none⟩) (numH (b.drop s.en) 2) (numH (b.drop s.en) 2)), .int .u32 (numH (b.drop s.en) 4 : Int), .int .u32 (numH (b.drop s.en) 5 : Int)] 44) = w2 at *
  obtain ⟨g5, hg5⟩ : ∃ a, a = w1.heap.size := ⟨_, rfl⟩
  have hwz : w.heap.size ≤ w2.heap.size := by omega
  have hlz : lo ≤ w2.heap.size := by omega
  rw [← hg5] at q5 ⊢
  clear hl1 hsz hg5 hsz2 c3
  have HQ2 := Lib.hid hq2
  have HR2 := Lib.hid hrb
  have HL := fun W (hW : Below w2.heap.size w2 W) => Lib.hid (last_any lo b id g s vF vP X W (hq2.after hW) (hrb.after hW) hsm.1)
  clear hq2 hrb
  refine wp_region_plan (fun W => Below w2.heap.size w2 W) [.calms [0, 1, 2, 3, 5], .read 4, .act 6, .calms [7, 8, 9]] (by kernel_rfl) (by rfl) (by kernel_rfl) (by kernel_rfl) (Below.drew_ w2) ?_
  have hcur := Below.drew_ w2
  generalize w2.drew = w3 at *
  refine plan_calms (by simp [calmRow, need, chk]; rfl) ?_
  go_wp2_with fail
  refine plan_read (by rfl) (.int .u64 (numH (b.drop s.en) 3 : Int)) (by rfl) (fun W hW => exec_load rfl rfl (by kernel_rfl) ((q5.after hW).cell 0)) ?_
  refine plan_act (by rfl) ?_
  go_wp2_with fail
  refine (HL w3 hcur).out.mono ?_
  rintro e w4 ⟨rfl, b4⟩
  have hcur := hcur.trans (b4.mono hcur.size)
  clear b4 HL
  go_wp2_with fail
  refine ⟨hcur, plan_calms (by simp [calmRow, need, chk]; rfl) ?_⟩
  go_wp2_with fail
  refine plan_end ?_
  have q5 := q5.after hcur
  have hq4 := HQ2.out.after hcur
  have hr4 := HR2.out.after hcur
  have hbl := hbl.trans (hcur.mono hlz)
  have hwz := Nat.le_trans hwz hcur.size
  have hlz := Nat.le_trans hlz hcur.size
  clear hcur q5 HQ2 HR2 qK qV
  have c4 := hq4.frozen 4
  have c4c := hq4.cell 4
  simp only [scCells] at c4c
  have HQ4 := Lib.hid hq4
  clear hq4
  go_wp2_with fail
  go_ret
  unfold RetNext
  rw [nextS_bad HK.out HK2.out (.inr ⟨K3.out, K4.out⟩)]
  exact ⟨rfl, scw_why HQ4.out hr4 23, hbl.setCell (p := ⟨g, 4, none⟩) hlo _, by simpa using hwz⟩

set_option maxRecDepth 100000 in
set_option maxHeartbeats 4000000 in
theorem next_passed (lo : Nat) (b : List UInt8) (A : Option Addr) (n c : Nat) (id g : Nat) (s : Sc) (w : World) (hT : TabR w) (hnc : n ≤ c) (h : Rd w lo 1 A n (bcells b)) (hlo : lo ≤ g) (hS : ScW lo b id g s w) (hen : s.en ≤ n) (hsm : s.fd.length ≤ 1000000 ∧ s.ps.length ≤ 1000000)
    (k : s.en ≠ b.length) (k2 : s.en ≤ 16777216) (z : Nat) (hz : s.en + z ≤ n) (k3 : getS (b.drop s.en) = (z, 23)) (k4 : 0 < z) :
    Calls Tryd.prog 23 #[.pointer (some ⟨g, 0, none⟩), .slice A n c] w (RetNext lo b id g s w) := by
  have hln := h.1
  rw [bcells_len, Nat.mul_one] at hln
  obtain ⟨vF, vP, X, hq, hr⟩ := hS
  have c3 := hq.cell 3
  obtain ⟨ba, off, rfl, _, _⟩ := h.2.2 (by omega)
  obtain ⟨A2, hsl, r0⟩ := low_rd (h.more (Nat.le_trans hlo (Nat.le_of_lt hq.lt))) hen hnc
  have HG := Lib.hid (getR_no (b.drop s.en) A2 (n - s.en) (c - s.en) w hT (by omega) r0 z 23 k3 (by decide))
  have HQ := Lib.hid hq
  have HR := Lib.hid hr
  have i1 : ((s.en : Int) == (n : Int)) = false := by simp; omega
  have i2 : ¬ (16777216 : Int) < (s.en : Int) := by omega
  have HK := Lib.hid k
  have HK2 := Lib.hid k2
  have K3 := Lib.hid k3
  simp only [scCells] at c3
  clear hq hr hln k k2 r0 k3
  have hmx := h.2.1
  unfold maxLen at hmx
  have i3 : (0 : Int) < (z : Int) := by omega
  have i4 : (s.en : Int) + (z : Int) ≤ 9223372036854775807 := by omega
  have hp1 : (s.ps.length + 1) * 8 ≤ 140737488355328 := by have := hsm.2; omega
  have hp2 : s.ps.length + 1 ≤ maxLen := by have := hsm.2; unfold maxLen; omega
  have HSM := Lib.hid hsm
  clear hsm hmx h
  go_enter Tryd.func23, Tryd.ntmps23
  go_wp2_with fail
  refine HG.out.mono ?_
  unfold RetNo recV
  rintro e w1 ⟨rfl, b1⟩
  have hq1 := HQ.out.after b1
  have hrb := HR.out.after b1
  have hbl := b1.mono (Nat.le_trans hlo (Nat.le_of_lt HQ.out.lt))
  have hl1 := Nat.le_trans (Nat.le_trans hlo (Nat.le_of_lt HQ.out.lt)) b1.size
  have hsz := b1.size
  have c3 := hq1.cell 3
  simp only [scCells] at c3
  have hgl := hq1.lt
  have HQ1 := Lib.hid hq1
  clear hq1
  go_upto_region 9 with (fail)
  have q5 := Blk.newAt w1 44 #[.int .u64 0, .int .i64 0, .slice none 0 0, .slice none 0 0, .int .u32 0, .int .u32 0] (g := w1.heap.size) rfl
  have hq2 := HQ1.out.alloc (.cells #[.int .u64 0, .int .i64 0, .slice none 0 0, .slice none 0 0, .int .u32 0, .int .u32 0] 44)
  have hrb := hrb.after ((Below.refl _ _).alloc (Nat.le_refl _) (.cells #[.int .u64 0, .int .i64 0, .slice none 0 0, .slice none 0 0, .int .u32 0, .int .u32 0] 44))
  have hbl := hbl.alloc hl1 (.cells #[.int .u64 0, .int .i64 0, .slice none 0 0, .slice none 0 0, .int .u32 0, .int .u32 0] 44)
  have hsz2 : w1.heap.size + 1 = (w1.alloc (.cells #[.int .u64 0, .int .i64 0, .slice none 0 0, .slice none 0 0, .int .u32 0, .int .u32 0] 44)).heap.size := by simp
  generalize w1.alloc (.cells #[.int .u64 0, .int .i64 0, .slice none 0 0, .slice none 0 0, .int .u32 0, .int .u32 0] 44) = w2 at *
  obtain ⟨g5, hg5⟩ : ∃ a, a = w1.heap.size := ⟨_, rfl⟩
  have hwz : w.heap.size ≤ w2.heap.size := by omega
  have hlz : lo ≤ w2.heap.size := by omega
  rw [← hg5] at q5 ⊢
  clear hl1 hsz hg5 hsz2 c3
  have HQ2 := Lib.hid hq2
  clear hq2 q5
  go_quiet (fail)
  go_upto_region 12 with (fail)
  have hq3 := HQ2.out.drewN nq
  have hr3 := hrb.drewN nq
  have hbl := below_drewN hbl nq
  have hwz : w.heap.size ≤ (w2.drewN nq).heap.size := hwz
  have hlz : lo ≤ (w2.drewN nq).heap.size := hlz
  clear hrb HQ2
  generalize w2.drewN nq = w3 at *
  have HQ3 := Lib.hid hq3
  have HR3 := Lib.hid hr3
  clear hq3 hr3
  refine wp_region_plan (fun W => Below w3.heap.size w3 W) [.calms [0, 1, 5], .read 2, .calms [3], .read 4, .read 6, .calms [7], .read 8, .act 9, .act 10, .act 11, .calms [12], .act 13] (by kernel_rfl) (by rfl) (by kernel_rfl) (by kernel_rfl) (Below.drew_ w3) ?_
  have hcur := Below.drew_ w3
  generalize w3.drew = w4 at *
  refine plan_calms (by simp [calmRow, need]; rfl) ?_
  go_wp2_with fail
  refine plan_read (by rfl) (.pointer (some ⟨g, 0, none⟩)) (by rfl) (fun W hW => exec_nil rfl rfl) ?_
  refine plan_calms (by simp [calmRow, need]; rfl) ?_
  go_wp2_with fail
  refine plan_read (by rfl) vP (by rfl) (fun W hW => exec_load rfl rfl (by kernel_rfl) ((HQ3.out.after hW).cell 2)) ?_
  refine plan_read (by rfl) (.pointer (some ⟨g, 0, none⟩)) (by rfl) (fun W hW => exec_nil rfl rfl) ?_
  refine plan_calms (by simp [calmRow, need]; rfl) ?_
  go_wp2_with fail
  refine plan_read (by rfl) (.int .i64 (s.en : Int)) (by rfl) (fun W hW => exec_load rfl rfl (by kernel_rfl) ((HQ3.out.after hW).cell 3)) ?_
  refine plan_act (by rfl) ?_
  go_wp2_with fail
  refine plan_next (hcur.alloc hcur.size _) ?_
  refine plan_last (by rfl) (by kernel_rfl) ?_
  have hP := Ow.after HR3.out.2.2.1 hcur
  refine wpList_push eltI64 rfl (.tmp 81) (.tmp 86) rfl (v := vP) rfl hP rfl rfl (by simp [Value.oneCell']) hp1 hp2 (hbl.trans (hcur.mono hlz)) (Nat.le_trans hlz hcur.size) ?_
  intro vP' w6 oP bP gP hgP
  obtain ⟨AP, cP, rfl⟩ := own_slice oP
  have hq6 := (HQ3.out.after hcur).grownT hP (by decide) gP
  have hr4 := HR3.out.after hcur
  have oF := Ow.grownT hr4.2.1 hP (by decide) gP
  have ok6 : ∀ x ∈ X, x.ok w6 lo b := fun x hx => (hr4.2.2.2 x hx).grownT hP (by decide) gP
  have hX := hr4.1
  have hw6 := Nat.le_trans hwz (Nat.le_trans hcur.size gP.size)
  clear hP gP hgP hr4 hcur HQ3 HR3 hwz hlz hbl hp1 hp2 HSM
  refine plan_done ?_
  have c2 := hq6.cell 2
  have c3 := hq6.cell 3
  have f2 := hq6.frozen 2
  have f3 := hq6.frozen 3
  simp only [scCells] at c2 c3
  have HQ6 := Lib.hid hq6
  have HX := Lib.hid hX
  have OF := Lib.hid oF
  have OP := Lib.hid oP
  clear hq6 hX oF oP
  refine plan_last (by rfl) (by kernel_rfl) ?_
  go_wp2_with fail
  refine plan_calms (by simp [calmRow, need]; rfl) ?_
  go_wp2_with fail
  refine plan_last (by rfl) (by kernel_rfl) ?_
  go_wp2_with fail
  refine plan_end ?_
  go_wp2_with fail
  go_ret
  unfold RetNext
  rw [nextS_passed HK.out HK2.out (by rw [K3.out]) (by rw [K3.out]; exact k4), K3.out]
  have hq7 := (HQ6.out.set_ 2 (.slice AP (s.ps.length + 1) cP)).set_ 3 (.int .i64 ((s.en : Int) + (z : Int)))
  exact ⟨rfl, ⟨vF, _, X, blk_eq hq7 (by simp [scCells]), HX.out, Ow.setT (Ow.setT OF.out HQ6.out (by decide) 2 _) (HQ6.out.set_ 2 (.slice AP (s.ps.length + 1) cP)) (by decide) 3 _,
    own_eq (Ow.setT (Ow.setT OP.out HQ6.out (by decide) 2 _) (HQ6.out.set_ 2 (.slice AP (s.ps.length + 1) cP)) (by decide) 3 _) (by simp) (by simp), fun x hx => ((ok6 x hx).set HQ6.out (by decide) 2 _).set (HQ6.out.set_ 2 (.slice AP (s.ps.length + 1) cP)) (by decide) 3 _⟩,
    (bP.setCell (p := ⟨g, 2, none⟩) hlo _).setCell (p := ⟨g, 3, none⟩) hlo _, by simpa using hw6⟩

set_option maxRecDepth 100000 in
set_option maxHeartbeats 4000000 in
theorem next_found (lo : Nat) (b : List UInt8) (A : Option Addr) (n c : Nat) (id g : Nat) (s : Sc) (w : World) (hT : TabR w) (hnc : n ≤ c) (h : Rd w lo 1 A n (bcells b)) (hlo : lo ≤ g) (hS : ScW lo b id g s w) (hen : s.en ≤ n) (hsm : s.fd.length ≤ 1000000 ∧ s.ps.length ≤ 1000000)
    (k : s.en ≠ b.length) (k2 : s.en ≤ 16777216) (z : Nat) (hz : s.en + z ≤ n) (k3 : getS (b.drop s.en) = (z, 0)) (k4 : lastQ b s.fd < numH (b.drop s.en) 3) :
    Calls Tryd.prog 23 #[.pointer (some ⟨g, 0, none⟩), .slice A n c] w (RetNext lo b id g s w) := by
  have hln := h.1
  rw [bcells_len, Nat.mul_one] at hln
  obtain ⟨vF, vP, X, hq, hr⟩ := hS
  have c3 := hq.cell 3
  obtain ⟨ba, off, rfl, _, _⟩ := h.2.2 (by omega)
  obtain ⟨A2, hsl, r0⟩ := low_rd (h.more (Nat.le_trans hlo (Nat.le_of_lt hq.lt))) hen hnc
  have HG := Lib.hid (getR_yes (b.drop s.en) A2 (n - s.en) (c - s.en) w hT (by omega) r0 (by rw [k3]))
  have HQ := Lib.hid hq
  have hl0 : lo ≤ w.heap.size := Nat.le_trans hlo (Nat.le_of_lt hq.lt)
  have HR := Lib.hid hr
  have i1 : ((s.en : Int) == (n : Int)) = false := by simp; omega
  have i2 : ¬ (16777216 : Int) < (s.en : Int) := by omega
  have HK := Lib.hid k
  have HK2 := Lib.hid k2
  have K3 := Lib.hid k3
  have K4 := Lib.hid k4
  simp only [scCells] at c3
  have k3z := Lib.hid (show (getS (b.drop s.en)).1 = z by rw [k3])
  unfold RetYes at HG
  clear hq hr hln k k2 r0 k3 k4
  have hmx := h.2.1
  unfold maxLen at hmx
  have i3 : (lastQ b s.fd : Int) < (numH (b.drop s.en) 3 : Int) := by have := K4.out; omega
  have i4 : (s.en : Int) + (z : Int) ≤ 9223372036854775807 := by omega
  have i5 : (s.en : Int) ≤ 16777216 := by omega
  have hp1 : (s.fd.length + 1) * 88 ≤ 140737488355328 := by have := hsm.1; omega
  have hp2 : s.fd.length + 1 ≤ maxLen := by have := hsm.1; unfold maxLen; omega
  rw [k3z.out] at HG
  clear hmx h
  go_enter Tryd.func23, Tryd.ntmps23
  go_wp2_with fail
  refine HG.out.mono ?_
  unfold recV
  rintro e w1 ⟨gK, gV, rfl, qK, qV, hKV, hK1, hV1, b1⟩
  have hq1 := HQ.out.after b1
  have hrb := HR.out.after b1
  have hbl := b1.mono (Nat.le_trans hlo (Nat.le_of_lt HQ.out.lt))
  have hl1 := Nat.le_trans (Nat.le_trans hlo (Nat.le_of_lt HQ.out.lt)) b1.size
  have hsz := b1.size
  have c3 := hq1.cell 3
  simp only [scCells] at c3
  have hgl := hq1.lt
  have HQ1 := Lib.hid hq1
  clear hq1
  go_upto_region 9 with (fail)
  have q5 := Blk.newAt w1 44 #[.int .u64 (numH (b.drop s.en) 3 : Int), .int .i64 (numH (b.drop s.en) 0 : Int), (.slice (some ⟨gK, 0, none⟩) (numH (b.drop s.en) 1) (numH (b.drop s.en) 1)), (.slice (some ⟨gV, 0, none⟩) (numH (b.drop s.en) 2) (numH (b.drop s.en) 2)), .int .u32 (numH (b.drop s.en) 4 : Int), .int .u32 (numH (b.drop s.en) 5 : Int)] (g := w1.heap.size) rfl
  have hq2 := HQ1.out.alloc (.cells #[.int .u64 (numH (b.drop s.en) 3 : Int), .int .i64 (numH (b.drop s.en) 0 : Int), (.slice (some ⟨gK, 0, none⟩) (numH (b.drop s.en) 1) (numH (b.drop s.en) 1)), (.slice (some ⟨gV, 0, none⟩) (numH (b.drop s.en) 2) (numH (b.drop s.en) 2)), .int .u32 (numH (b.drop s.en) 4 : Int), .int .u32 (numH (b.drop s.en) 5 : Int)] 44)
  have hrb := hrb.after ((Below.refl _ _).alloc (Nat.le_refl _) (.cells #[.int .u64 (numH (b.drop s.en) 3 : Int), .int .i64 (numH (b.drop s.en) 0 : Int), (.slice (some ⟨gK, 0, none⟩) (numH (b.drop s.en) 1) (numH (b.drop s.en) 1)), (.slice (some ⟨gV, 0, none⟩) (numH (b.drop s.en) 2) (numH (b.drop s.en) 2)), .int .u32 (numH (b.drop s.en) 4 : Int), .int .u32 (numH (b.drop s.en) 5 : Int)] 44))
  have hbl := hbl.alloc hl1 (.cells #[.int .u64 (numH (b.drop s.en) 3 : Int), .int .i64 (numH (b.drop s.en) 0 : Int), (.slice (some ⟨gK, 0, none⟩) (numH (b.drop s.en) 1) (numH (b.drop s.en) 1)), (.slice (some ⟨gV, 0, none⟩) (numH (b.drop s.en) 2) (numH (b.drop s.en) 2)), .int .u32 (numH (b.drop s.en) 4 : Int), .int .u32 (numH (b.drop s.en) 5 : Int)] 44)
  have qK := qK.alloc (.cells #[.int .u64 (numH (b.drop s.en) 3 : Int), .int .i64 (numH (b.drop s.en) 0 : Int), (.slice (some ⟨gK, 0, none⟩) (numH (b.drop s.en) 1) (numH (b.drop s.en) 1)), (.slice (some ⟨gV, 0, none⟩) (numH (b.drop s.en) 2) (numH (b.drop s.en) 2)), .int .u32 (numH (b.drop s.en) 4 : Int), .int .u32 (numH (b.drop s.en) 5 : Int)] 44)
  have qV := qV.alloc (.cells #[.int .u64 (numH (b.drop s.en) 3 : Int), .int .i64 (numH (b.drop s.en) 0 : Int), (.slice (some ⟨gK, 0, none⟩) (numH (b.drop s.en) 1) (numH (b.drop s.en) 1)), (.slice (some ⟨gV, 0, none⟩) (numH (b.drop s.en) 2) (numH (b.drop s.en) 2)), .int .u32 (numH (b.drop s.en) 4 : Int), .int .u32 (numH (b.drop s.en) 5 : Int)] 44)
  have hsz2 : w1.heap.size + 1 = (w1.alloc (.cells #[.int .u64 (numH (b.drop s.en) 3 : Int), .int .i64 (numH (b.drop s.en) 0 : Int), (.slice (some ⟨gK, 0, none⟩) (numH (b.drop s.en) 1) (numH (b.drop s.en) 1)), (.slice (some ⟨gV, 0, none⟩) (numH (b.drop s.en) 2) (numH (b.drop s.en) 2)), .int .u32 (numH (b.drop s.en) 4 : Int), .int .u32 (numH (b.drop s.en) 5 : Int)] 44)).heap.size := by simp
  generalize w1.alloc (.cells #[.int .u64 (numH (b.drop s.en) 3 : Int), .int .i64 (numH (b.drop s.en) 0 : Int), (.slice (some ⟨gK, 0, none⟩) (numH (b.drop s.en) 1) (numH (b.drop s.en) 1)), (.slice (some ⟨gV, 0, none⟩) (numH (b.drop s.en) 2) (numH (b.drop s.en) 2)), .int .u32 (numH (b.drop s.en) 4 : Int), .int .u32 (numH (b.drop s.en) 5 : Int)] 44) = w2 at *
  obtain ⟨g5, hg5⟩ : ∃ a, a = w1.heap.size := ⟨_, rfl⟩
  have hwz : w.heap.size ≤ w2.heap.size := by omega
  have hlz : lo ≤ w2.heap.size := by omega
  rw [← hg5] at q5 ⊢
  clear hl1 hsz hg5 hsz2 c3
  have HQ2 := Lib.hid hq2
  have HR2 := Lib.hid hrb
  have HL := fun W (hW : Below w2.heap.size w2 W) => Lib.hid (last_any lo b id g s vF vP X W (hq2.after hW) (hrb.after hW) hsm.1)
  clear hq2 hrb
  refine wp_region_plan (fun W => Below w2.heap.size w2 W) [.calms [0, 1, 2, 3, 5], .read 4, .act 6, .calms [7, 8, 9]] (by kernel_rfl) (by rfl) (by kernel_rfl) (by kernel_rfl) (Below.drew_ w2) ?_
  have hcur := Below.drew_ w2
  generalize w2.drew = w3 at *
  refine plan_calms (by simp [calmRow, need, chk]; rfl) ?_
  go_wp2_with fail
  refine plan_read (by rfl) (.int .u64 (numH (b.drop s.en) 3 : Int)) (by rfl) (fun W hW => exec_load rfl rfl (by kernel_rfl) ((q5.after hW).cell 0)) ?_
  refine plan_act (by rfl) ?_
  go_wp2_with fail
  refine (HL w3 hcur).out.mono ?_
  rintro e w4 ⟨rfl, b4⟩
  have hcur := hcur.trans (b4.mono hcur.size)
  clear b4 HL
  go_wp2_with fail
  refine ⟨hcur, plan_calms (by simp [calmRow, need, chk]; rfl) ?_⟩
  go_wp2_with fail
  refine plan_end ?_
  have q5 := q5.after hcur
  have hq4 := HQ2.out.after hcur
  have hr4 := HR2.out.after hcur
  have hbl := hbl.trans (hcur.mono hlz)
  have hwz := Nat.le_trans hwz hcur.size
  have hlz := Nat.le_trans hlz hcur.size
  have qK := qK.after hcur
  have qV := qV.after hcur
  have hlK : lo ≤ gK := Nat.le_trans hl0 hK1
  have hlV : lo ≤ gV := Nat.le_trans hl0 hV1
  clear hcur HQ2 HR2 hK1 hV1 hl0
  go_upto_region 10 with (fail)
  have HQ3 := Lib.hid hq4
  have HR3 := Lib.hid hr4
  clear hq4 hr4
  refine wp_region_plan (fun W => Below w4.heap.size w4 W) [.calms [0, 1, 5, 9, 15], .read 2, .calms [3], .read 4, .read 6, .calms [7], .read 8, .read 10, .calms [11], .read 12, .calms [13], .read 14, .read 16, .read 17, .act 18, .act 19, .act 20, .calms [21], .act 22] (by kernel_rfl) (by rfl) (by kernel_rfl) (by kernel_rfl) (Below.drew_ w4) ?_
  have hcur := Below.drew_ w4
  generalize w4.drew = w5 at *
  refine plan_calms (by simp [calmRow, need]; rfl) ?_
  go_wp2_with fail
  refine plan_read (by rfl) (.pointer (some ⟨g, 0, none⟩)) (by rfl) (fun W hW => exec_nil rfl rfl) ?_
  refine plan_calms (by simp [calmRow, need]; rfl) ?_
  go_wp2_with fail
  refine plan_read (by rfl) vF (by rfl) (fun W hW => exec_load rfl rfl (by kernel_rfl) ((HQ3.out.after hW).cell 1)) ?_
  refine plan_read (by rfl) (.pointer (some ⟨g, 0, none⟩)) (by rfl) (fun W hW => exec_nil rfl rfl) ?_
  refine plan_calms (by simp [calmRow, need]; rfl) ?_
  go_wp2_with fail
  refine plan_read (by rfl) (.int .u32 (id : Int)) (by rfl) (fun W hW => exec_load rfl rfl (by kernel_rfl) ((HQ3.out.after hW).cell 0)) ?_
  refine plan_read (by rfl) (.pointer (some ⟨g, 0, none⟩)) (by rfl) (fun W hW => exec_nil rfl rfl) ?_
  refine plan_calms (by simp [calmRow, need]; rfl) ?_
  go_wp2_with fail
  refine plan_read (by rfl) (.int .i64 (s.en : Int)) (by rfl) (fun W hW => exec_load rfl rfl (by kernel_rfl) ((HQ3.out.after hW).cell 3)) ?_
  refine plan_calms (by simp [calmRow, need, chk]; rfl) ?_
  go_wp2_with fail
  refine plan_read (by rfl) (.agg #[.int .u32 (id : Int), .int .u32 (s.en : Int)]) (by rfl) (fun W hW => exec_build rfl (by kernel_rfl)) ?_
  refine plan_read (by rfl) (.agg #[.int .u64 (numH (b.drop s.en) 3 : Int), .int .i64 (numH (b.drop s.en) 0 : Int), (.slice (some ⟨gK, 0, none⟩) (numH (b.drop s.en) 1) (numH (b.drop s.en) 1)), (.slice (some ⟨gV, 0, none⟩) (numH (b.drop s.en) 2) (numH (b.drop s.en) 2)), .int .u32 (numH (b.drop s.en) 4 : Int), .int .u32 (numH (b.drop s.en) 5 : Int)]) (by rfl) (fun W hW => exec_load_blk rfl rfl (q5.after hW) Tryd.underlying44 rfl (by kernel_rfl)) ?_
  refine plan_read (by rfl) (.agg #[.int .u32 (id : Int), .int .u32 (s.en : Int), .int .i64 (z : Int), .int .u64 (numH (b.drop s.en) 3 : Int), .int .i64 (numH (b.drop s.en) 0 : Int), .slice (some ⟨gK, 0, none⟩) (numH (b.drop s.en) 1) (numH (b.drop s.en) 1), .slice (some ⟨gV, 0, none⟩) (numH (b.drop s.en) 2) (numH (b.drop s.en) 2), .int .u32 (numH (b.drop s.en) 4 : Int), .int .u32 (numH (b.drop s.en) 5 : Int)]) (by rfl) (fun W hW => exec_build rfl (by kernel_rfl)) ?_
  refine plan_act (by rfl) ?_
  go_wp2_with fail
  refine plan_next (hcur.alloc hcur.size _) ?_
  refine plan_last (by rfl) (by kernel_rfl) ?_
  have hr5 := HR3.out.after hcur
  have hF := hr5.2.1
  have hXl : X.length = s.fd.length := by rw [← hr5.1, List.length_map]
  refine wpList_push eltFound rfl (.tmp 52) (.tmp 66) rfl (v := vF) rfl hF rfl rfl (by simp [Value.oneCell']) (by rw [hXl]; exact hp1) (by rw [hXl]; exact hp2) (hbl.trans (hcur.mono hlz)) (Nat.le_trans hlz hcur.size) ?_
  intro vF' w6 oF bF gF hgF
  obtain ⟨AF, cF, rfl⟩ := own_slice oF
  have hq6 := (HQ3.out.after hcur).grownT hF (by decide) gF
  have oP := Ow.grownT hr5.2.2.1 hF (by decide) gF
  have ok6 : ∀ x ∈ X, x.ok w6 lo b := fun x hx => (hr5.2.2.2 x hx).grownT hF (by decide) gF
  have okN : FX.ok w6 lo b ⟨s.en, gK, gV⟩ := ⟨(qK.after hcur).grownT hF (by decide) gF, (qV.after hcur).grownT hF (by decide) gF, hKV, hlK, hlV⟩
  have hX := hr5.1
  have hw6 := Nat.le_trans hwz (Nat.le_trans hcur.size gF.size)
  clear hF gF hgF hr5 hcur HQ3 HR3 hwz hlz hbl hp1 hp2 hsm qK qV q5 hKV hlK hlV
  refine plan_done ?_
  have c1 := hq6.cell 1
  have c3 := hq6.cell 3
  have f1 := hq6.frozen 1
  have f3 := hq6.frozen 3
  simp only [scCells] at c1 c3
  have HQ6 := Lib.hid hq6
  have HX := Lib.hid hX
  have HXL := Lib.hid hXl
  have OF := Lib.hid oF
  have OP := Lib.hid oP
  clear hq6 hX oF oP hXl
  refine plan_last (by rfl) (by kernel_rfl) ?_
  go_wp2_with fail
  refine plan_calms (by simp [calmRow, need]; rfl) ?_
  go_wp2_with fail
  refine plan_last (by rfl) (by kernel_rfl) ?_
  go_wp2_with fail
  refine plan_end ?_
  go_wp2_with fail
  go_ret
  unfold RetNext
  rw [nextS_found HK.out HK2.out (by rw [K3.out]) K4.out, K3.out]
  have hq7 := (HQ6.out.set_ 1 (.slice AF (X.length + 1) cF)).set_ 3 (.int .i64 ((s.en : Int) + (z : Int)))
  exact ⟨rfl, ⟨_, vP, X ++ [⟨s.en, gK, gV⟩], blk_eq hq7 (by simp [scCells]), by rw [List.map_append, HX.out]; rfl,
    own_eq (Ow.setT (Ow.setT OF.out HQ6.out (by decide) 1 _) (HQ6.out.set_ 1 (.slice AF (X.length + 1) cF)) (by decide) 3 _) (by simp) (by rw [List.flatMap_append]; simp [FX.cells, k3z.out]),
    Ow.setT (Ow.setT OP.out HQ6.out (by decide) 1 _) (HQ6.out.set_ 1 (.slice AF (X.length + 1) cF)) (by decide) 3 _,
    fun x hx => (FX.ok.set (by
      rcases List.mem_append.1 hx with h1 | h1
      · exact ok6 x h1
      · rw [List.mem_singleton] at h1; subst h1; exact okN) HQ6.out (by decide) 1 _).set (HQ6.out.set_ 1 (.slice AF (X.length + 1) cF)) (by decide) 3 _⟩,
    (bF.setCell (p := ⟨g, 1, none⟩) hlo _).setCell (p := ⟨g, 3, none⟩) hlo _, by simpa using hw6⟩
end Go.Proofs.YtfapipamohlniaaDoor

namespace Go.Proofs.YtfapipamohlniaaDoor
open Go.RowKit

theorem next_any (lo : Nat) (b : List UInt8) (A : Option Addr) (n c : Nat) (id g : Nat) (s : Sc) (w : World) (hT : TabR w) (hnc : n ≤ c) (h : Rd w lo 1 A n (bcells b)) (hlo : lo ≤ g) (hS : ScW lo b id g s w) (hi : ScInv b s) (hn : n ≤ 20000000) :
    Calls Tryd.prog 23 #[.pointer (some ⟨g, 0, none⟩), .slice A n c] w (RetNext lo b id g s w) := by
  have hln := h.1
  rw [bcells_len, Nat.mul_one] at hln
  have hen := hi.en
  rw [hln] at hen
  have hsm : s.fd.length ≤ 1000000 ∧ s.ps.length ≤ 1000000 := by
    have := hi.many
    omega
  rcases next_ways b s with k | ⟨k, k2⟩ | ⟨k, k2, k3, k4⟩ | ⟨k, k2, k3, k4⟩ | ⟨k, k2, k3⟩ | ⟨k, k2, k3⟩
  · exact next_fin lo b A n c id g s w h hS k
  · exact next_long lo b A n c id g s w hT hnc h hlo hS hen k k2
  · have hg := getS_size (l := b.drop s.en) (.inr k3)
    have hz : s.en + (getS (b.drop s.en)).1 ≤ n := by
      have := hg.2.2
      rw [List.length_drop] at this
      omega
    exact next_found lo b A n c id g s w hT hnc h hlo hS hen hsm k k2 _ hz (Prod.ext rfl k3) k4
  · have hg := getS_size (l := b.drop s.en) (.inl k4)
    have hz : s.en + (getS (b.drop s.en)).1 ≤ n := by
      have := hg.2.2
      rw [List.length_drop] at this
      omega
    exact next_passed lo b A n c id g s w hT hnc h hlo hS hen hsm k k2 _ hz (Prod.ext rfl k3) k4
  · exact next_torn lo b A n c id g s w hT hnc h hlo hS hen k k2 k3
  · rcases k3 with k3 | ⟨k3, k4⟩
    · exact next_none lo b A n c id g s w hT hnc h hlo hS hen k k2 k3
    · exact next_low lo b A n c id g s w hT hnc h hlo hS hen hsm k k2 k3 k4

def RetSc (id : Nat) (b : List UInt8) (w : World) (e : Ending) (w' : World) : Prop := ∃ vF vP X, e = .returned (.agg (scCells id (ofS id b) vF vP)) ∧ ScRow w.heap.size b id (ofS id b) vF vP X w' ∧ Below w.heap.size w w'
theorem ScRow.low {lo lo' : Nat} {b : List UInt8} {id : Nat} {s : Sc} {vF vP : Value} {X : List FX} {w : World} (h : ScRow lo b id s vF vP X w) (hl : lo' ≤ lo) : ScRow lo' b id s vF vP X w :=
  ⟨h.1, own_low h.2.1 hl, own_low h.2.2.1 hl, fun x hx => by
    obtain ⟨h1, h2, h3, h4, h5⟩ := h.2.2.2 x hx
    exact ⟨h1, h2, h3, Nat.le_trans hl h4, Nat.le_trans hl h5⟩⟩
theorem row_nil (lo : Nat) (b : List UInt8) (id e y : Nat) (w : World) : ScRow lo b id ⟨[], [], e, y⟩ (.slice none 0 0) (.slice none 0 0) [] w :=
  ⟨rfl, World.ownsRow_nil _ _ _ _, World.ownsRow_nil _ _ _ _, fun _ h => by cases h⟩

set_option maxRecDepth 100000 in
set_option maxHeartbeats 4000000 in
theorem of_any (id : Nat) (b : List UInt8) (A : Option Addr) (n c : Nat) (w : World) (hT : TabR w) (hnc : n ≤ c) (h : Rd w w.heap.size 1 A n (bcells b)) (hn : n ≤ 20000000) :
    Calls Tryd.prog 9 #[.int .u32 (id : Int), .slice A n c] w (RetSc id b w) := by
  have hln := h.1
  rw [bcells_len, Nat.mul_one] at hln
  have hb := ((Below.refl w.heap.size w).alloc (Nat.le_refl _) (.cells #[.int .u32 0, .slice none 0 0, .slice none 0 0, .int .i64 0, .int .i64 0] 33)).alloc (by simp) (.cells #[.int .u32 (id : Int), .slice none 0 0, .slice none 0 0, .int .i64 0, .int .i64 0] 33)
  have H := Lib.hid (checkH_any b A n c 1 id ((w.alloc (.cells #[.int .u32 0, .slice none 0 0, .slice none 0 0, .int .i64 0, .int .i64 0] 33)).alloc (.cells #[.int .u32 (id : Int), .slice none 0 0, .slice none 0 0, .int .i64 0, .int .i64 0] 33)) (hT.below hb hT.1.1 hT.2.1).1 hnc ((h.below hb (Nat.le_refl _)).more hb.size))
  have q1 := (Blk.new w 33 #[.int .u32 0, .slice none 0 0, .slice none 0 0, .int .i64 0, .int .i64 0]).alloc (.cells #[.int .u32 (id : Int), .slice none 0 0, .slice none 0 0, .int .i64 0, .int .i64 0] 33)
  have q2 := Blk.newAt (w.alloc (.cells #[.int .u32 0, .slice none 0 0, .slice none 0 0, .int .i64 0, .int .i64 0] 33)) 33 #[.int .u32 (id : Int), .slice none 0 0, .slice none 0 0, .int .i64 0, .int .i64 0] (g := w.heap.size + 1) (by simp)
  go_enter Tryd.func9, Tryd.ntmps9
  go_wp2_with fail
  refine H.out.mono ?_
  rintro e w1 ⟨rfl, b1⟩
  clear H
  have q1 := q1.after b1
  have q2 := q2.after b1
  have hb := hb.trans (b1.mono hb.size)
  clear b1
  have c4 := q2.cell 4
  have f4 := q2.frozen 4
  have d1 := q1.cell 0
  have d2 := q1.cell 1
  have d3 := q1.cell 2
  have d4 := q1.cell 3
  have d5 := q1.cell 4
  have e1 := q1.frozen 0
  have e2 := q1.frozen 1
  have e3 := q1.frozen 2
  have e4 := q1.frozen 3
  have e5 := q1.frozen 4
  by_cases hc : chkH b 1 id = 0
  · have e0 : ((chkH b 1 id : Nat) : Int) = 0 := by rw [hc]; rfl
    rw [e0]
    have c3 := q2.cell 3
    have f3 := q2.frozen 3
    have hin := inv0 (chkH_short hc)
    have hlen := chkH_short hc
    have hR : ofS id b = runS b b.length ⟨[], [], 16, 0⟩ := by unfold ofS; rw [if_pos hc]
    have Q1 := Lib.hid q1
    have Q2 := Lib.hid q2
    have HB := Lib.hid hb
    have HN := Lib.hid hln
    have HRS := Lib.hid hR
    have HIN := Lib.hid hin
    have hlen2 : b.length < 16 + 25 * b.length := by omega
    clear q1 q2 hb hln hR hin hc e0
    go_wp2_with fail
    have hq := (Q2.out.set_ 4 (.int .i64 0)).set_ 3 (.int .i64 16)
    have h1q := (Q1.out.far (p := ⟨w.heap.size + 1, 4, none⟩) (by simp) (.int .i64 0)).far (p := ⟨w.heap.size + 1, 3, none⟩) (by simp) (.int .i64 16)
    have hB := (HB.out.setCell (p := ⟨w.heap.size + 1, 4, none⟩) (Nat.le_succ _) (.int .i64 0)).setCell (p := ⟨w.heap.size + 1, 3, none⟩) (Nat.le_succ _) (.int .i64 16)
    generalize World.setCell (w1.setCell ⟨w.heap.size + 1, 4, none⟩ (.int .i64 0)) ⟨w.heap.size + 1, 3, none⟩ (.int .i64 16) = w2 at *
    have hS : ScW (w.heap.size + 1) b id (w.heap.size + 1) ⟨[], [], 16, 0⟩ w2 := ⟨_, _, [], blk_eq hq (by simp [scCells]), row_nil _ _ _ _ _ _⟩
    clear c4 f4 d1 d2 d3 d4 d5 e1 e2 e3 e4 e5 c3 f3 hq Q1 Q2 HB
    have HL := Lib.hid hlen2
    have HB := Lib.hid hB
    clear hlen2 hlen hb hB
    go_loopw [18] (fun _ wr => ∃ s f, ScW (w.heap.size + 1) b id (w.heap.size + 1) s wr ∧ ScInv b s ∧ runS b f s = ofS id b ∧ b.length < s.en + 25 * f ∧ Below w.heap.size w wr ∧ Below (w.heap.size + 1) w2 wr) (fun _ wr => n + 1 - (intOf ((wr.cell? ⟨w.heap.size + 1, 3, none⟩).getD (.int .i64 0))).toNat)
    case atStart => exact ⟨_, b.length, hS, HIN.out, HRS.out.symm, HL.out, HB.out, Below.refl _ _⟩
    case round =>
      obtain ⟨s, f, hsw, hi, hrun, hf, hb, hb2⟩ := hrel
      have hTr := hT.below hb hT.1.1 hT.2.1
      have hr := ((h.below hb (Nat.le_refl _)).more (Nat.le_succ _) : Rd wr (w.heap.size + 1) 1 A n (bcells b))
      have HN1 := Lib.hid (next_any (w.heap.size + 1) b A n c id (w.heap.size + 1) s wr hTr hnc hr (Nat.le_refl _) hsw hi hn)
      obtain ⟨f, rfl⟩ : ∃ f', f = f' + 1 := ⟨f - 1, by have := hi.en; omega⟩
      have hcm : (wr.cell? ⟨w.heap.size + 1, 3, none⟩).getD (.int .i64 0) = .int .i64 (s.en : Int) := by
        obtain ⟨vF, vP, X, hq, _⟩ := hsw
        rw [hq.cell 3]
        rfl
      have HCM := Lib.hid hcm
      clear hcm hTr hr
      unfold runS at hrun
      have hin := hi.next
      cases hx : (nextS b s).1 with
      | true =>
        rw [hx, if_pos rfl] at hrun
        have hls := nextS_less hi hx
        unfold RetNext at HN1
        rw [hx] at HN1
        have HI := Lib.hid hin
        have HRN := Lib.hid hrun
        clear hin hrun hsw
        have hel : s.en + 25 ≤ (nextS b s).2.en ∧ (nextS b s).2.en ≤ n := ⟨hls.1, by rw [← HN.out]; exact hls.2⟩
        clear hx hls hi
        generalize (nextS b s).2 = s' at *
        go_wp2_with fail
        refine HN1.out.mono ?_
        rintro e w3 ⟨rfl, hsw, b3, hsz⟩
        go_wp2_with fail
        go_roundw
        case rel => exact ⟨s', f, hsw, HI.out, HRN.out, by omega, hb.trans (b3.mono (Nat.le_succ _)), hb2.trans b3⟩
        case measure =>
          have hcm : (w3.cell? ⟨w.heap.size + 1, 3, none⟩).getD (.int .i64 0) = .int .i64 (s'.en : Int) := by
            obtain ⟨vF, vP, X, hq, _⟩ := hsw
            rw [hq.cell 3]
            rfl
          rw [hcm, HCM.out]
          simp only [intOf]
          omega
      | false =>
        rw [hx] at hrun
        rw [if_neg (by simp)] at hrun
        unfold RetNext at HN1
        rw [hx] at HN1
        have HRN := Lib.hid hrun
        clear hin hrun hsw hx hi
        generalize (nextS b s).2 = s at *
        go_wp2_with fail
        refine HN1.out.mono ?_
        rintro e w3 ⟨rfl, ⟨vF, vP, X, hq, hrow⟩, b3, hsz⟩
        obtain ⟨AF, cF, rfl⟩ := own_slice hrow.2.1
        obtain ⟨AP, cP, rfl⟩ := own_slice hrow.2.2.1
        have h1q := (h1q.below hb2 (Nat.lt_succ_self _)).below b3 (Nat.lt_succ_self _)
        have hb := hb.trans (b3.mono (Nat.le_succ _))
        clear hsz HN1 b3 hb2
        have p0 := hq.cell 0
        have p1 := hq.cell 1
        have p2 := hq.cell 2
        have p3 := hq.cell 3
        have p4 := hq.cell 4
        simp only [scCells] at p0 p1 p2 p3 p4
        have d1 := h1q.cell 0
        have d2 := h1q.cell 1
        have d3 := h1q.cell 2
        have d4 := h1q.cell 3
        have d5 := h1q.cell 4
        have e1 := h1q.frozen 0
        have e2 := h1q.frozen 1
        have e3 := h1q.frozen 2
        have e4 := h1q.frozen 3
        have e5 := h1q.frozen 4
        have H1Q := Lib.hid h1q
        clear h1q hq
        go_wp2_with fail
        refine bodyPost_ret (results_cell1 rfl rfl (res_load (e := 33) (cs := scCells id s (.slice AF X.length cF) (.slice AP s.ps.length cP)) (blk_eq (((((H1Q.out.set_ 0 (.int .u32 (id : Int))).set_ 1 (.slice AF X.length cF)).set_ 2 (.slice AP s.ps.length cP)).set_ 3 (.int .i64 (s.en : Int))).set_ 4 (.int .i64 (s.wy : Int))) (by simp [scCells])) Tryd.underlying33 rfl (by kernel_rfl))) rfl ?_
        unfold RetSc
        rw [← HRN.out]
        exact ⟨_, _, X, rfl, ScRow.low (((((hrow.set H1Q.out 0 (.int .u32 (id : Int))).set (H1Q.out.set_ 0 (.int .u32 (id : Int))) 1 (.slice AF X.length cF)).set ((H1Q.out.set_ 0 (.int .u32 (id : Int))).set_ 1 (.slice AF X.length cF)) 2 (.slice AP s.ps.length cP)).set (((H1Q.out.set_ 0 (.int .u32 (id : Int))).set_ 1 (.slice AF X.length cF)).set_ 2 (.slice AP s.ps.length cP)) 3 (.int .i64 (s.en : Int))).set ((((H1Q.out.set_ 0 (.int .u32 (id : Int))).set_ 1 (.slice AF X.length cF)).set_ 2 (.slice AP s.ps.length cP)).set_ 3 (.int .i64 (s.en : Int))) 4 (.int .i64 (s.wy : Int))) (Nat.le_succ _), (((((hb.setCell (p := ⟨w.heap.size, 0, none⟩) (Nat.le_refl _) _).setCell (p := ⟨w.heap.size, 1, none⟩) (Nat.le_refl _) _).setCell (p := ⟨w.heap.size, 2, none⟩) (Nat.le_refl _) _).setCell (p := ⟨w.heap.size, 3, none⟩) (Nat.le_refl _) _).setCell (p := ⟨w.heap.size, 4, none⟩) (Nat.le_refl _) _)⟩
  · have p0 := q2.cell 0
    have p1 := q2.cell 1
    have p2 := q2.cell 2
    have p3 := q2.cell 3
    have i1 : (((chkH b 1 id : Nat) : Int) == 0) = false := by simp; omega
    have i2 : (((chkH b 1 id : Nat) : Int) != 0) = true := by simp; omega
    have Q1 := Lib.hid (q1.far (p := ⟨w.heap.size + 1, 4, none⟩) (by simp) (.int .i64 (chkH b 1 id : Int)))
    have HB := Lib.hid (hb.setCell (p := ⟨w.heap.size + 1, 4, none⟩) (Nat.le_succ _) (.int .i64 (chkH b 1 id : Int)))
    have hR : ofS id b = ⟨[], [], 0, chkH b 1 id⟩ := by unfold ofS; rw [if_neg hc]
    have HRS := Lib.hid hR
    clear hR q1 q2 hc hb
    go_wp2_with fail
    refine bodyPost_ret (results_cell1 rfl rfl (res_load (e := 33) (cs := scCells id ⟨[], [], 0, chkH b 1 id⟩ (.slice none 0 0) (.slice none 0 0)) (blk_eq (((((Q1.out.set_ 0 (.int .u32 (id : Int))).set_ 1 (.slice none 0 0)).set_ 2 (.slice none 0 0)).set_ 3 (.int .i64 0)).set_ 4 (.int .i64 (chkH b 1 id : Int))) (by simp [scCells])) Tryd.underlying33 rfl (by kernel_rfl))) rfl ?_
    unfold RetSc
    rw [HRS.out]
    exact ⟨_, _, [], rfl, row_nil _ _ _ _ _ _, (((((HB.out.setCell (p := ⟨w.heap.size, 0, none⟩) (Nat.le_refl _) _).setCell (p := ⟨w.heap.size, 1, none⟩) (Nat.le_refl _) _).setCell (p := ⟨w.heap.size, 2, none⟩) (Nat.le_refl _) _).setCell (p := ⟨w.heap.size, 3, none⟩) (Nat.le_refl _) _).setCell (p := ⟨w.heap.size, 4, none⟩) (Nat.le_refl _) _)⟩
end Go.Proofs.YtfapipamohlniaaDoor

namespace Go.Proofs.YtfapipamohlniaaDoor
open Go.RowKit

def slCells (x : Sl) : Array Value := #[.int .u32 (x.id : Int), .int .u32 (x.size : Int), .int .u32 (x.many : Int), .int .u64 (x.first : Int), .int .u64 (x.last : Int)]
theorem sealS_nil {b : List UInt8} {id : Nat} {s : Sc} (h : s.fd = []) : sealS b id s = ⟨id, s.en, s.ps.length, 0, 0⟩ := by unfold sealS; rw [h]; simp [lastQ_nil]
theorem sealS_cons {b : List UInt8} {id : Nat} {s : Sc} {o : Nat} {r : List Nat} (h : s.fd = o :: r) : sealS b id s = ⟨id, s.en, s.fd.length + s.ps.length, numH (b.drop o) 3, lastQ b s.fd⟩ := by unfold sealS; rw [h]

set_option maxRecDepth 100000 in
set_option maxHeartbeats 4000000 in
theorem seal_any (lo : Nat) (b : List UInt8) (id : Nat) (s : Sc) (vF vP : Value) (X : List FX) (w : World) (hS : ScRow lo b id s vF vP X w) (hen : s.en ≤ 20000000) (hn : s.fd.length + s.ps.length ≤ 1000000) :
    Calls Tryd.prog 11 #[.agg (scCells id s vF vP)] w fun e w' => e = .returned (.agg (slCells (sealS b id s))) ∧ Below w.heap.size w w' := by
  obtain ⟨AF, cF, rfl⟩ := own_slice hS.2.1
  obtain ⟨AP, cP, rfl⟩ := own_slice hS.2.2.1
  have hXl : X.length = s.fd.length := by rw [← hS.1, List.length_map]
  have q0 := (Blk.new w 33 #[.int .u32 (id : Int), .slice AF X.length cF, .slice AP s.ps.length cP, .int .i64 (s.en : Int), .int .i64 (s.wy : Int)]).alloc (.cells #[.int .u32 0, .int .u32 0, .int .u32 0, .int .u64 0, .int .u64 0] 39)
  have q1 := Blk.newAt (w.alloc (.cells #[.int .u32 (id : Int), .slice AF X.length cF, .slice AP s.ps.length cP, .int .i64 (s.en : Int), .int .i64 (s.wy : Int)] 33)) 39 #[.int .u32 0, .int .u32 0, .int .u32 0, .int .u64 0, .int .u64 0] (g := w.heap.size + 1) (by simp)
  have hb := ((Below.refl w.heap.size w).alloc (Nat.le_refl _) (.cells #[.int .u32 (id : Int), .slice AF X.length cF, .slice AP s.ps.length cP, .int .i64 (s.en : Int), .int .i64 (s.wy : Int)] 33)).alloc (by simp) (.cells #[.int .u32 0, .int .u32 0, .int .u32 0, .int .u64 0, .int .u64 0] 39)
  have hS1 := (hS.after ((Below.refl w.heap.size w).alloc (Nat.le_refl _) (.cells #[.int .u32 (id : Int), .slice AF X.length cF, .slice AP s.ps.length cP, .int .i64 (s.en : Int), .int .i64 (s.wy : Int)] 33))).after ((Below.refl _ _).alloc (Nat.le_refl _) (.cells #[.int .u32 0, .int .u32 0, .int .u32 0, .int .u64 0, .int .u64 0] 39))
  have i1 : (s.en : Int) ≤ 20000000 := by omega
  have i2 : (X.length : Int) + (s.ps.length : Int) ≤ 1000000 := by omega
  have HXL := Lib.hid hXl
  have HS1 := Lib.hid hS.1
  have hn1 : s.fd.length ≤ 1000000 := by omega
  clear hXl hen hn hS
  unfold scCells
  go_enter Tryd.func11, Tryd.ntmps11
  go_wp2_with fail
  generalize (w.alloc (.cells #[.int .u32 (id : Int), .slice AF X.length cF, .slice AP s.ps.length cP, .int .i64 (s.en : Int), .int .i64 (s.wy : Int)] 33)).alloc (.cells #[.int .u32 0, .int .u32 0, .int .u32 0, .int .u64 0, .int .u64 0] 39) = w1 at *
  have hl1 : w.heap.size + 1 < w1.heap.size := q1.lt
  have Q0 := Lib.hid q0
  have Q1 := Lib.hid q1
  have HS := Lib.hid hS1
  have HB := Lib.hid hb
  have HL := fun W (hW : Below w1.heap.size w1 W) => Lib.hid (last_any lo b id w.heap.size s (.slice AF X.length cF) (.slice AP s.ps.length cP) X W (q0.after hW) (hS1.after hW) hn1)
  clear q0 q1 hS1 hb
  refine wp_region_tree (fun W => Below w1.heap.size w1 W) (row [.calms [0, 2, 5, 8], .read 1, .read 3, .calms [4], .read 6, .calms [7], .read 9, .calms [10, 11, 12]] (.fork 13 (row [.read 14, .act 15, .act 16] .done) 15 (row [.act 13, .read 14, .act 16] .done))) (by kernel_rfl) (by rfl) (by kernel_rfl) (by kernel_rfl) (Below.drew_ w1) ?_
  have hcur := Below.drew_ w1
  generalize w1.drew = w2 at *
  refine plan_calms (by simp [calmRow, need]; rfl) ?_
  go_wp2_with fail
  refine plan_read (by rfl) (.int .u32 (id : Int)) (by rfl) (fun W hW => exec_load rfl rfl (by kernel_rfl) ((Q0.out.after hW).cell 0)) ?_
  refine plan_read (by rfl) (.int .i64 (s.en : Int)) (by rfl) (fun W hW => exec_load rfl rfl (by kernel_rfl) ((Q0.out.after hW).cell 3)) ?_
  refine plan_calms (by simp [calmRow, need, chk]; rfl) ?_
  go_wp2_with fail
  refine plan_read (by rfl) (.slice AF X.length cF) (by rfl) (fun W hW => exec_load rfl rfl (by kernel_rfl) ((Q0.out.after hW).cell 1)) ?_
  refine plan_calms (by simp [calmRow, need]; rfl) ?_
  go_wp2_with fail
  refine plan_read (by rfl) (.slice AP s.ps.length cP) (by rfl) (fun W hW => exec_load rfl rfl (by kernel_rfl) ((Q0.out.after hW).cell 2)) ?_
  refine plan_calms (by simp [calmRow, need, chk]; rfl) ?_
  go_wp2_with fail
  refine plan_fork (by rfl) (by rfl) ?_ ?_
  · go_wp2_with fail
    refine (HL w2 hcur).out.mono ?_
    rintro e w3 ⟨rfl, b4⟩
    have hcur := hcur.trans (b4.mono hcur.size)
    clear b4 HL
    go_wp2_with fail
    refine ⟨hcur, plan_read (by rfl) (.agg #[.int .u32 (id : Int), .int .u32 (s.en : Int), .int .u32 ((X.length : Int) + (s.ps.length : Int)), .int .u64 0, .int .u64 (lastQ b s.fd : Int)]) (by rfl) (fun W hW => exec_build rfl (by kernel_rfl)) ?_⟩
    refine plan_act (by rfl) ?_
    go_wp2_with fail
    refine ⟨hcur.alloc hcur.size _, plan_last (by rfl) (by kernel_rfl) ?_⟩
    go_wp2_with fail
    refine plan_end ?_
    have hcz := hcur.size
    have q3 := Blk.newAt w3 39 #[.int .u32 (id : Int), .int .u32 (s.en : Int), .int .u32 ((X.length : Int) + (s.ps.length : Int)), .int .u64 0, .int .u64 (lastQ b s.fd : Int)] (g := w3.heap.size) rfl
    have hcur := hcur.alloc hcur.size (.cells #[.int .u32 (id : Int), .int .u32 (s.en : Int), .int .u32 ((X.length : Int) + (s.ps.length : Int)), .int .u64 0, .int .u64 (lastQ b s.fd : Int)] 39)
    have q0 := Q0.out.after hcur
    have q1 := Q1.out.after hcur
    have hS := HS.out.after hcur
    have hb := HB.out.trans (hcur.mono HB.out.size)
    clear hcur Q0 Q1 HS HB
    obtain ⟨g3, hg3⟩ : ∃ a, a = w3.heap.size := ⟨_, rfl⟩
    have hgne : w.heap.size + 1 ≠ g3 := by omega
    have hg3w : w.heap.size ≤ g3 := by omega
    rw [← hg3] at q3 ⊢
    clear hg3 hcz
    generalize w3.alloc (.cells #[.int .u32 (id : Int), .int .u32 (s.en : Int), .int .u32 ((X.length : Int) + (s.ps.length : Int)), .int .u64 0, .int .u64 (lastQ b s.fd : Int)] 39) = wz at *
    have HQ0 := Lib.hid q0
    have HQ1 := Lib.hid q1
    have HQ3 := Lib.hid q3
    have HB := Lib.hid hb
    have cF1 := q0.cell 1
    have t0 := q3.cell 0
    have t1 := q3.cell 1
    have t2 := q3.cell 2
    have t3 := q3.cell 3
    have t4 := q3.cell 4
    have u3 := q3.frozen 3
    have d0 := q1.cell 0
    have d1 := q1.cell 1
    have d2 := q1.cell 2
    have d3 := q1.cell 3
    have d4 := q1.cell 4
    have e0 := q1.frozen 0
    have e1 := q1.frozen 1
    have e2 := q1.frozen 2
    have e3 := q1.frozen 3
    have e4 := q1.frozen 4
    clear q0 q1 q3 hb
    rcases Nat.eq_zero_or_pos X.length with h0 | h0
    · have i3 : ¬ (0 : Int) < (X.length : Int) := by omega
      have hX0 : s.fd = [] := List.eq_nil_of_length_eq_zero (by rw [← HXL.out]; exact h0)
      have HSE := Lib.hid (sealS_nil (b := b) (id := id) hX0)
      have HE0 := Lib.hid hX0
      have HX0 := Lib.hid h0
      clear hX0 h0 hS
      go_wp2_with fail
      refine bodyPost_ret (results_cell1 rfl rfl (res_load (e := 39) (cs := slCells (sealS b id s)) (blk_eq (((((HQ1.out.set_ 0 (.int .u32 (id : Int))).set_ 1 (.int .u32 (s.en : Int))).set_ 2 (.int .u32 ((X.length : Int) + (s.ps.length : Int)))).set_ 3 (.int .u64 0)).set_ 4 (.int .u64 (lastQ b s.fd : Int))) (by rw [HSE.out, HX0.out, HE0.out]; simp [slCells, lastQ_nil])) Tryd.underlying39 rfl (by kernel_rfl))) rfl ?_
      exact ⟨rfl, (((((HB.out.setCell (p := ⟨w.heap.size + 1, 0, none⟩) (Nat.le_succ _) _).setCell (p := ⟨w.heap.size + 1, 1, none⟩) (Nat.le_succ _) _).setCell (p := ⟨w.heap.size + 1, 2, none⟩) (Nat.le_succ _) _).setCell (p := ⟨w.heap.size + 1, 3, none⟩) (Nat.le_succ _) _).setCell (p := ⟨w.heap.size + 1, 4, none⟩) (Nat.le_succ _) _)⟩
    · have i3 : (0 : Int) < (X.length : Int) := by omega
      obtain ⟨gF, cF', hA, _⟩ := own_ptr hS.2.1 h0
      injection hA with hA _ _
      subst hA
      obtain ⟨x, r, hX⟩ : ∃ x r, X = x :: r := by
        cases X with
        | nil => simp at h0
        | cons x r => exact ⟨x, r, rfl⟩
      have hfd : s.fd = x.off :: r.map FX.off := by rw [← HS1.out, hX]; rfl
      have HSE := Lib.hid (sealS_cons (b := b) (id := id) hfd)
      have cS := Ow.cell hS.2.1 rfl (by omega) ((fx_get id b X (i := 0) (j := 3) (by omega) (by omega)).trans rfl)
      simp only [hX, List.getElem_cons_zero] at cS
      rw [Nat.zero_mul, Nat.zero_add, Nat.zero_add] at cS
      clear hS hfd hX h0
      generalize hq : numH (b.drop x.off) 3 = q at *
      have HQQ := Lib.hid hq
      clear hq
      go_wp2_with fail
      refine bodyPost_ret (results_cell1 rfl rfl (res_load (e := 39) (cs := slCells (sealS b id s)) (blk_eq ((((((HQ1.out.far (p := ⟨g3, 3, none⟩) hgne (.int .u64 (q : Int))).set_ 0 (.int .u32 (id : Int))).set_ 1 (.int .u32 (s.en : Int))).set_ 2 (.int .u32 ((X.length : Int) + (s.ps.length : Int)))).set_ 3 (.int .u64 (q : Int))).set_ 4 (.int .u64 (lastQ b s.fd : Int))) (by rw [HSE.out, ← HXL.out]; simp [slCells])) Tryd.underlying39 rfl (by kernel_rfl))) rfl ?_
      exact ⟨rfl, ((((((HB.out.setCell (p := ⟨g3, 3, none⟩) hg3w (.int .u64 (q : Int))).setCell (p := ⟨w.heap.size + 1, 0, none⟩) (Nat.le_succ _) _).setCell (p := ⟨w.heap.size + 1, 1, none⟩) (Nat.le_succ _) _).setCell (p := ⟨w.heap.size + 1, 2, none⟩) (Nat.le_succ _) _).setCell (p := ⟨w.heap.size + 1, 3, none⟩) (Nat.le_succ _) _).setCell (p := ⟨w.heap.size + 1, 4, none⟩) (Nat.le_succ _) _)⟩
  · go_wp2_with fail
    refine ⟨hcur.alloc hcur.size _, plan_act (by rfl) ?_⟩
    have hcz := hcur.size
    have q3 := Blk.newAt w2 39 #[.int .u32 0, .int .u32 0, .int .u32 0, .int .u64 0, .int .u64 0] (g := w2.heap.size) rfl
    have hcur := hcur.alloc hcur.size (.cells #[.int .u32 0, .int .u32 0, .int .u32 0, .int .u64 0, .int .u64 0] 39)
    obtain ⟨g3, hg3⟩ : ∃ a, a = w2.heap.size := ⟨_, rfl⟩
    have hgne : w.heap.size + 1 ≠ g3 := by omega
    have hg3w : w.heap.size ≤ g3 := by omega
    have hg3l : w1.heap.size ≤ g3 := by omega
    rw [← hg3] at q3 ⊢
    clear hg3 hcz
    generalize w2.alloc (.cells #[.int .u32 0, .int .u32 0, .int .u32 0, .int .u64 0, .int .u64 0] 39) = w3 at *
    go_wp2_with fail
    refine (HL w3 hcur).out.mono ?_
    rintro e w4 ⟨rfl, b4⟩
    have hcur := hcur.trans (b4.mono hcur.size)
    have q3 := q3.after b4
    clear b4 HL
    have x0 := q3.cell 0
    have x1 := q3.cell 1
    have x2 := q3.cell 2
    have x3 := q3.cell 3
    have x4 := q3.cell 4
    have y0 := q3.frozen 0
    have y1 := q3.frozen 1
    have y2 := q3.frozen 2
    have y3 := q3.frozen 3
    have y4 := q3.frozen 4
    have Q3 := Lib.hid q3
    clear q3
    go_wp2_with fail
    refine ⟨hcur, plan_read (by rfl) (.agg #[.int .u32 (id : Int), .int .u32 (s.en : Int), .int .u32 ((X.length : Int) + (s.ps.length : Int)), .int .u64 0, .int .u64 (lastQ b s.fd : Int)]) (by rfl) (fun W hW => exec_build rfl (by kernel_rfl)) ?_⟩
    refine plan_last (by rfl) (by kernel_rfl) ?_
    go_wp2_with fail
    refine plan_end ?_
    have q3 := blk_eq (((((Q3.out.set_ 0 (.int .u32 (id : Int))).set_ 1 (.int .u32 (s.en : Int))).set_ 2 (.int .u32 ((X.length : Int) + (s.ps.length : Int)))).set_ 3 (.int .u64 0)).set_ 4 (.int .u64 (lastQ b s.fd : Int))) (cs' := #[.int .u32 (id : Int), .int .u32 (s.en : Int), .int .u32 ((X.length : Int) + (s.ps.length : Int)), .int .u64 0, .int .u64 (lastQ b s.fd : Int)]) (by simp)
    have hcur := (((((hcur.setCell (p := ⟨g3, 0, none⟩) hg3l (.int .u32 (id : Int))).setCell (p := ⟨g3, 1, none⟩) hg3l (.int .u32 (s.en : Int))).setCell (p := ⟨g3, 2, none⟩) hg3l (.int .u32 ((X.length : Int) + (s.ps.length : Int)))).setCell (p := ⟨g3, 3, none⟩) hg3l (.int .u64 0)).setCell (p := ⟨g3, 4, none⟩) hg3l (.int .u64 (lastQ b s.fd : Int)))
    have q0 := Q0.out.after hcur
    have q1 := Q1.out.after hcur
    have hS := HS.out.after hcur
    have hb := HB.out.trans (hcur.mono HB.out.size)
    clear hcur Q0 Q1 HS HB Q3 x0 x1 x2 x3 x4 y0 y1 y2 y3 y4
    generalize (World.setCell (World.setCell (World.setCell (World.setCell (World.setCell w4 ⟨g3, 0, none⟩ (.int .u32 (id : Int))) ⟨g3, 1, none⟩ (.int .u32 (s.en : Int))) ⟨g3, 2, none⟩ (.int .u32 ((X.length : Int) + (s.ps.length : Int)))) ⟨g3, 3, none⟩ (.int .u64 0)) ⟨g3, 4, none⟩ (.int .u64 (lastQ b s.fd : Int))) = wz at *
    have HQ0 := Lib.hid q0
    have HQ1 := Lib.hid q1
    have HQ3 := Lib.hid q3
    have HB := Lib.hid hb
    have cF1 := q0.cell 1
    have t0 := q3.cell 0
    have t1 := q3.cell 1
    have t2 := q3.cell 2
    have t3 := q3.cell 3
    have t4 := q3.cell 4
    have u3 := q3.frozen 3
    have d0 := q1.cell 0
    have d1 := q1.cell 1
    have d2 := q1.cell 2
    have d3 := q1.cell 3
    have d4 := q1.cell 4
    have e0 := q1.frozen 0
    have e1 := q1.frozen 1
    have e2 := q1.frozen 2
    have e3 := q1.frozen 3
    have e4 := q1.frozen 4
    clear q0 q1 q3 hb
    rcases Nat.eq_zero_or_pos X.length with h0 | h0
    · have i3 : ¬ (0 : Int) < (X.length : Int) := by omega
      have hX0 : s.fd = [] := List.eq_nil_of_length_eq_zero (by rw [← HXL.out]; exact h0)
      have HSE := Lib.hid (sealS_nil (b := b) (id := id) hX0)
      have HE0 := Lib.hid hX0
      have HX0 := Lib.hid h0
      clear hX0 h0 hS
      go_wp2_with fail
      refine bodyPost_ret (results_cell1 rfl rfl (res_load (e := 39) (cs := slCells (sealS b id s)) (blk_eq (((((HQ1.out.set_ 0 (.int .u32 (id : Int))).set_ 1 (.int .u32 (s.en : Int))).set_ 2 (.int .u32 ((X.length : Int) + (s.ps.length : Int)))).set_ 3 (.int .u64 0)).set_ 4 (.int .u64 (lastQ b s.fd : Int))) (by rw [HSE.out, HX0.out, HE0.out]; simp [slCells, lastQ_nil])) Tryd.underlying39 rfl (by kernel_rfl))) rfl ?_
      exact ⟨rfl, (((((HB.out.setCell (p := ⟨w.heap.size + 1, 0, none⟩) (Nat.le_succ _) _).setCell (p := ⟨w.heap.size + 1, 1, none⟩) (Nat.le_succ _) _).setCell (p := ⟨w.heap.size + 1, 2, none⟩) (Nat.le_succ _) _).setCell (p := ⟨w.heap.size + 1, 3, none⟩) (Nat.le_succ _) _).setCell (p := ⟨w.heap.size + 1, 4, none⟩) (Nat.le_succ _) _)⟩
    · have i3 : (0 : Int) < (X.length : Int) := by omega
      obtain ⟨gF, cF', hA, _⟩ := own_ptr hS.2.1 h0
      injection hA with hA _ _
      subst hA
      obtain ⟨x, r, hX⟩ : ∃ x r, X = x :: r := by
        cases X with
        | nil => simp at h0
        | cons x r => exact ⟨x, r, rfl⟩
      have hfd : s.fd = x.off :: r.map FX.off := by rw [← HS1.out, hX]; rfl
      have HSE := Lib.hid (sealS_cons (b := b) (id := id) hfd)
      have cS := Ow.cell hS.2.1 rfl (by omega) ((fx_get id b X (i := 0) (j := 3) (by omega) (by omega)).trans rfl)
      simp only [hX, List.getElem_cons_zero] at cS
      rw [Nat.zero_mul, Nat.zero_add, Nat.zero_add] at cS
      clear hS hfd hX h0
      generalize hq : numH (b.drop x.off) 3 = q at *
      have HQQ := Lib.hid hq
      clear hq
      go_wp2_with fail
      refine bodyPost_ret (results_cell1 rfl rfl (res_load (e := 39) (cs := slCells (sealS b id s)) (blk_eq ((((((HQ1.out.far (p := ⟨g3, 3, none⟩) hgne (.int .u64 (q : Int))).set_ 0 (.int .u32 (id : Int))).set_ 1 (.int .u32 (s.en : Int))).set_ 2 (.int .u32 ((X.length : Int) + (s.ps.length : Int)))).set_ 3 (.int .u64 (q : Int))).set_ 4 (.int .u64 (lastQ b s.fd : Int))) (by rw [HSE.out, ← HXL.out]; simp [slCells])) Tryd.underlying39 rfl (by kernel_rfl))) rfl ?_
      exact ⟨rfl, ((((((HB.out.setCell (p := ⟨g3, 3, none⟩) hg3w (.int .u64 (q : Int))).setCell (p := ⟨w.heap.size + 1, 0, none⟩) (Nat.le_succ _) _).setCell (p := ⟨w.heap.size + 1, 1, none⟩) (Nat.le_succ _) _).setCell (p := ⟨w.heap.size + 1, 2, none⟩) (Nat.le_succ _) _).setCell (p := ⟨w.heap.size + 1, 3, none⟩) (Nat.le_succ _) _).setCell (p := ⟨w.heap.size + 1, 4, none⟩) (Nat.le_succ _) _)⟩
end Go.Proofs.YtfapipamohlniaaDoor

namespace Go.Proofs.YtfapipamohlniaaDoor
open Go.RowKit

/-- what an iterator may do by itself: blocks of its types, laid since -/
structure Mine (B : Nat) (ts : TypeId → Bool) (A C : World) : Prop where
  os : C.os = A.os
  tape : C.tape = A.tape
  output : C.output = A.output
  size : A.heap.size ≤ C.heap.size
  low : ∀ k, k < A.heap.size → k < B → C.heap[k]? = A.heap[k]?
  same : ∀ (k : Nat) (o : Obj), A.heap[k]? = some o → (∀ cs t fr, o = Obj.cells cs t fr → ts t = false) → C.heap[k]? = some o
/-- what a round leaves alone: blocks of the iterator's types -/
structure Yours (ts : TypeId → Bool) (A C : World) : Prop where
  size : A.heap.size ≤ C.heap.size
  same : ∀ (k : Nat) cs t fr, A.heap[k]? = some (Obj.cells cs t fr) → ts t = true → C.heap[k]? = some (Obj.cells cs t fr)

section
variable {B : Nat} {ts : TypeId → Bool} {A C D : World}
theorem Mine.refl (A : World) : Mine B ts A A := ⟨rfl, rfl, rfl, Nat.le_refl _, fun _ _ _ => rfl, fun _ _ h _ => h⟩
theorem Mine.trans (h : Mine B ts A C) (k : Mine B ts C D) : Mine B ts A D :=
  ⟨k.os.trans h.os, k.tape.trans h.tape, k.output.trans h.output, Nat.le_trans h.size k.size, fun j hj hb => (k.low j (Nat.lt_of_lt_of_le hj h.size) hb).trans (h.low j hj hb), fun j o hj ho => k.same j o (h.same j o hj ho) ho⟩
theorem Mine.of_below (h : Below A.heap.size A C) : Mine B ts A C :=
  ⟨h.os, h.tape, h.output, h.size, fun k hk _ => h.block k hk, fun k _ hk _ => (h.block k (Array.getElem?_eq_some_iff.1 hk).1).trans hk⟩
theorem Mine.alloc (h : Mine B ts A C) (o : Obj) : Mine B ts A (C.alloc o) := h.trans (.of_below ((Below.refl _ _).alloc (Nat.le_refl _) o))
theorem Mine.set (h : Mine B ts A C) {g : Nat} {t : TypeId} {cs : Array Value} (hb : Blk C g t cs) (hg : B ≤ g) (ht : ts t = true) (i : Nat) (u : Value) : Mine B ts A (C.setCell ⟨g, i, none⟩ u) :=
  h.trans ⟨rfl, rfl, rfl, by simp [World.setCell], fun k _ hk => Below.heap_setCell _ _ _ k (by show k ≠ g; omega), fun k o hk ho => by
    refine (Below.heap_setCell _ _ _ k ?_).trans hk
    intro e
    have e : k = g := e
    subst e
    unfold Blk at hb
    rw [hb] at hk
    injection hk with hk
    rw [ho _ _ _ hk.symm] at ht
    cases ht⟩
theorem Mine.blk (h : Mine B ts A C) {g : Nat} {t : TypeId} {cs : Array Value} (hb : Blk A g t cs) (ht : ts t = false) : Blk C g t cs :=
  h.same g _ hb fun _ _ _ e => by injection e with _ e; subst e; exact ht
theorem Mine.lowBlk (h : Mine B ts A C) {g : Nat} {t : TypeId} {cs : Array Value} (hb : Blk A g t cs) (hg : g < B) : Blk C g t cs := (h.low g hb.lt hg).trans hb
theorem Mine.own (h : Mine B ts A C) {lo e size n : Nat} {v : Value} {xs : List Value} (ho : Ow A lo e size v n xs) (ht : ts e = false) : Ow C lo e size v n xs := by
  refine ⟨ho.1, ?_⟩
  rcases ho.2 with h1 | ⟨g, cap, cur, rfl, h2, h3, h4⟩
  · exact .inl h1
  · exact .inr ⟨g, cap, cur, rfl, h2, h.same g _ h3 (fun _ _ _ e => by injection e with _ e; subst e; exact ht), h4⟩
theorem Mine.below (h : Mine B ts A C) {lo : Nat} {w : World} (hb : Below lo w A) (hlo : lo ≤ B) (hA : lo ≤ A.heap.size) : Below lo w C :=
  hb.trans ⟨h.os, h.tape, h.output, h.size, fun k hk => h.low k (by omega) (by omega)⟩
theorem Yours.refl (A : World) : Yours ts A A := ⟨Nat.le_refl _, fun _ _ _ _ h _ => h⟩
theorem Yours.trans (h : Yours ts A C) (k : Yours ts C D) : Yours ts A D := ⟨Nat.le_trans h.size k.size, fun j cs t fr hj ht => k.same j cs t fr (h.same j cs t fr hj ht) ht⟩
theorem Yours.of_below (h : Below A.heap.size A C) : Yours ts A C := ⟨h.size, fun k _ _ _ hk _ => (h.block k (Array.getElem?_eq_some_iff.1 hk).1).trans hk⟩
theorem Yours.alloc (h : Yours ts A C) (o : Obj) : Yours ts A (C.alloc o) := h.trans (.of_below ((Below.refl _ _).alloc (Nat.le_refl _) o))
theorem Yours.set (h : Yours ts A C) {g : Nat} {t : TypeId} {cs : Array Value} (hb : Blk C g t cs) (ht : ts t = false) (i : Nat) (u : Value) : Yours ts A (C.setCell ⟨g, i, none⟩ u) :=
  h.trans ⟨by simp [World.setCell], fun k cs' t' fr hk ht' => by
    refine (Below.heap_setCell _ _ _ k ?_).trans hk
    intro e
    have e : k = g := e
    subst e
    unfold Blk at hb
    rw [hb] at hk
    injection hk with hk
    injection hk with _ hk
    subst hk
    rw [ht] at ht'
    cases ht'⟩
theorem Yours.grown (h : Yours ts A C) {lo e size n : Nat} {v : Value} {xs : List Value} (ho : Ow C lo e size v n xs) (ht : ts e = false) (hg : C.grownBy D v.ownBlock) : Yours ts A D :=
  h.trans ⟨hg.size, fun k cs t fr hk ht' => by
    refine (hg.block k (Array.getElem?_eq_some_iff.1 hk).1 ?_).trans hk
    intro e'
    rcases ho.2 with ⟨rfl, _⟩ | ⟨g, cap, cur, rfl, _, h3, _⟩
    · cases e'
    · injection e' with e'
      dsimp only at e'
      subst e'
      rw [h3] at hk
      injection hk with hk
      injection hk with _ hk
      subst hk
      rw [ht] at ht'
      cases ht'⟩
theorem Yours.putObj {l : Nat} {o o' : Obj} (hl : A.heap[l]? = some o) (ho : o.isCells = false) : Yours ts A (A.putObj l o') :=
  ⟨by simp [World.putObj], fun k cs t fr hk _ => (World.putObj_heap_other (by
    intro e
    subst e
    rw [hl] at hk
    injection hk with hk
    subst hk
    cases ho)).trans hk⟩
theorem Yours.blk (h : Yours ts A C) {g : Nat} {t : TypeId} {cs : Array Value} (hb : Blk A g t cs) (ht : ts t = true) : Blk C g t cs := h.same g _ _ _ hb ht
theorem Yours.own (h : Yours ts A C) {lo e size n : Nat} {v : Value} {xs : List Value} (ho : Ow A lo e size v n xs) (ht : ts e = true) : Ow C lo e size v n xs := by
  refine ⟨ho.1, ?_⟩
  rcases ho.2 with h1 | ⟨g, cap, cur, rfl, h2, h3, h4⟩
  · exact .inl h1
  · exact .inr ⟨g, cap, cur, rfl, h2, h.same g _ _ _ h3 ht, h4⟩
end

variable {F : Fence} {n : Nat} {P : Program}
/-- an iterator that goes through all of it: what it tells, told of whatever the rounds keep -/
def SeqX {α : Type} (F : Fence) (n : Nat) (P : Program) (gf : Nat) (lb : Array Value) (encs : α → Array Value) (ts : TypeId → Bool) (xs : List α) (B : Nat) (w : World) : Prop :=
  ∀ (l : Nat) (J : List α → World → Prop) (W : World), Mine B ts w W → (∀ s A C, J s A → Mine B ts A C → J s C) →
    (∀ pre x W1, J pre W1 → (pre ++ [x]) <+: xs → YieldAt F (n - 1) P l (encs x) W1 fun e W' => e = .returned (.bool true) ∧ J (pre ++ [x]) W' ∧ Yours ts W1 W') →
    J [] W → CallsIn F n P gf (#[.func (.yield l) #[] #[]] ++ lb) W fun e W' => (∃ v, e = .returned v) ∧ J xs W'

/-- a range over such an iterator, whose rounds all go on -/
theorem wpIn_rangeX {α : Type} {g : Operand} {ps : Array Tmp} {assign body : Code} {Q : Exit → Act → World → Prop} {a : Act} {w : World}
    (hro : F.round = none) (h1 : 1 ≤ n) {gf : Nat} {lb : Array Value} (hg : a.eval g = .func (.func gf) #[] lb) (hF : F.fn gf) (eg : ∀ args w, (callFunc gf args).run P w = .ok (.enter gf args) w)
    {encs : α → Array Value} {ts : TypeId → Bool} {xs : List α} (hseq : SeqX F (n - 1) P gf lb encs ts xs w.heap.size w) (hps : ∀ x, (encs x).size = ps.size)
    (I : List α → World → Prop) (hI : ∀ s A C, I s A → Mine w.heap.size ts A C → I s C) (hIp : ∀ s A k o o', I s A → w.heap.size ≤ k → A.heap[k]? = some o → o.isCells = false → I s (A.putObj k o')) (h0 : I [] w) (a₁ : α → Act)
    (hassign : ∀ (l : Nat) (x : α) (W : World) (K : Act → World → Prop), K (a₁ x) W →
      assign.wpIn (F.inRound l) (n - 1 - 1) P (Exit.then K (fun _ _ _ => False)) { tmps := (ps.zip (encs x)).foldl (fun t (p, v) => t.setIfInBounds p v) a.tmps, defers := [] } W)
    (hbody : ∀ (l : Nat) (pre : List α) (x : α) (W : World), I pre W → (pre ++ [x]) <+: xs →
      body.wpIn (F.inRound l) (n - 1 - 1) P (Exit.then (fun _ W' => KeepsOthers W W' ∧ Yours ts W W' ∧ I (pre ++ [x]) W') (fun _ _ _ => False)) (a₁ x) W)
    (hdone : ∀ (D : Nat) (W : World), w.heap.size ≤ D → I xs W → W.heap[D]? = some (.deferred (some [])) → Q .normal { a with defers := { target := .collected D, args := #[] } :: a.defers } W) :
    (Code.rangeFunc g ps assign body).wpIn F n P Q a w := by
  refine wpIn_rangeFunc fun fn hfn => ?_
  rw [hro]
  let R : LoopState → Loop := fun st => { state := st, pending := none, fn, tmps := a.tmps, params := ps, assign, body, defers := w.heap.size }
  let m := w.heap.size
  -- what is carried from round to round: the loop is ready, nothing is deferred
  let J : List α → World → Prop := fun s W => I s W ∧ W.heap[m + 1]? = some (.loop (R .ready)) ∧ W.heap[m]? = some (.deferred (some []))
  have hw : Mine m ts w ((w.alloc (.deferred (some []))).alloc (.loop (R .ready))) := ((Mine.refl w).alloc _).alloc _
  have hJ0 : J [] ((w.alloc (.deferred (some []))).alloc (.loop (R .ready))) := by
    refine ⟨hI _ _ _ h0 hw, ?_, (Below.heap_alloc _ _ _ (by simp [m])).trans (World.alloc_heap_new w _)⟩
    have := World.alloc_heap_new (w.alloc (.deferred (some []))) (.loop (R .ready))
    rwa [World.size_alloc] at this
  have hJm : ∀ s A C, J s A → Mine m ts A C → J s C := fun s A C hs hm =>
    ⟨hI _ _ _ hs.1 hm, hm.same _ _ hs.2.1 (fun _ _ _ e => by cases e), hm.same _ _ hs.2.2 (fun _ _ _ e => by cases e)⟩
  refine ⟨m + 1, [{ target := .collected m, args := #[] }], (w.alloc (.deferred (some []))).alloc (.loop (R .ready)), { target := .fn (.func gf) lb, args := #[.func (.yield (m + 1)) #[] #[]] }, (w.alloc (.deferred (some []))).alloc (.loop (R .ready)), gf,
    #[.func (.yield (m + 1)) #[] #[]] ++ lb, (w.alloc (.deferred (some []))).alloc (.loop (R .ready)), run_enterLoop_outer _ _ _ _ _, by simp only [resolve, hg]; simp [go_sem], fun f' hf' => by simp [Target.leads] at hf'; subst hf'; exact hF,
    by simp [invoke, go_sem, eg], fun _ => h1, ?_⟩
  refine (hseq (m + 1) J _ hw hJm ?_ hJ0).mono ?_
  · rintro pre x W ⟨hi, hl, hk⟩ hpre
    have hlt := (Array.getElem?_eq_some_iff.1 hl).1
    refine ⟨fn, _, assign, body, run_yield hl (hps x), roundIn_of_wpIn hfn (hassign _ x W _ ⟨_, run_beginRound hl rfl, ?_⟩)⟩
    let W2 := W.putObj (m + 1) (.loop (R .busy))
    have hl2 : W2.heap[m + 1]? = some (.loop (R .busy)) := World.putObj_heap_same hlt
    have hk2 : W2.heap[m]? = some (.deferred (some [])) := (World.putObj_heap_other (by omega)).trans hk
    have hy2 : Yours ts W W2 := .putObj hl rfl
    refine wpIn_mono (hbody _ pre x W2 (hIp _ _ _ _ _ hi (by omega) hl rfl) hpre) fun e a3 W3 hp => ?_
    cases e with
    | normal =>
      obtain ⟨ko, ky, hi3⟩ := hp
      have hl3 := ko.same _ _ hl2 rfl
      have hk3 := ko.same _ _ hk2 rfl
      exact ⟨_, _, run_endRound none hl3, rfl, ⟨hIp _ _ _ _ _ hi3 (by omega) hl3 rfl, World.putObj_heap_same (Array.getElem?_eq_some_iff.1 hl3).1, (World.putObj_heap_other (by omega)).trans hk3⟩, (hy2.trans ky).trans (.putObj hl3 rfl)⟩
    | _ => exact hp.elim
  · rintro e W2 ⟨⟨v, rfl⟩, hi, hl, hk⟩
    exact ⟨none, _, run_endLoop hl (by simp [R]), hdone m _ (Nat.le_refl _) (hIp _ _ _ _ _ hi (by omega) hl rfl) ((World.putObj_heap_other (by omega)).trans hk)⟩
/-- the same, where a round's variable lies in a block of its own -/
theorem wpIn_rangeXA {α : Type} {g : Operand} {ps : Array Tmp} {assign body : Code} {Q : Exit → Act → World → Prop} {a : Act} {w : World}
    (hro : F.round = none) (h1 : 1 ≤ n) {gf : Nat} {lb : Array Value} (hg : a.eval g = .func (.func gf) #[] lb) (hF : F.fn gf) (eg : ∀ args w, (callFunc gf args).run P w = .ok (.enter gf args) w)
    {encs : α → Array Value} {ts : TypeId → Bool} {xs : List α} (hseq : SeqX F (n - 1) P gf lb encs ts xs w.heap.size w) (hps : ∀ x, (encs x).size = ps.size)
    (I : List α → World → Prop) (hI : ∀ s A C, I s A → Mine w.heap.size ts A C → I s C) (hIp : ∀ s A k o o', I s A → w.heap.size ≤ k → A.heap[k]? = some o → o.isCells = false → I s (A.putObj k o')) (h0 : I [] w) (Ax : Array Value → α → Act → World → Prop)
    (hAx : ∀ tm x a' A k o o', Ax tm x a' A → w.heap.size ≤ k → A.heap[k]? = some o → o.isCells = false → Ax tm x a' (A.putObj k o'))
    (hassign : ∀ (l : Nat) (pre : List α) (x : α) (W : World) (K : Act → World → Prop), I pre W → (∀ a' W', KeepsOthers W W' → Yours ts W W' → I pre W' → Ax a.tmps x a' W' → K a' W') →
      assign.wpIn (F.inRound l) (n - 1 - 1) P (Exit.then K (fun _ _ _ => False)) { tmps := (ps.zip (encs x)).foldl (fun t (p, v) => t.setIfInBounds p v) a.tmps, defers := [] } W)
    (hbody : ∀ (l : Nat) (pre : List α) (x : α) (a' : Act) (W : World), I pre W → Ax a.tmps x a' W → (pre ++ [x]) <+: xs →
      body.wpIn (F.inRound l) (n - 1 - 1) P (Exit.then (fun _ W' => KeepsOthers W W' ∧ Yours ts W W' ∧ I (pre ++ [x]) W') (fun _ _ _ => False)) a' W)
    (hdone : ∀ (D : Nat) (W : World), w.heap.size ≤ D → I xs W → W.heap[D]? = some (.deferred (some [])) → Q .normal { a with defers := { target := .collected D, args := #[] } :: a.defers } W) :
    (Code.rangeFunc g ps assign body).wpIn F n P Q a w := by
  refine wpIn_rangeFunc fun fn hfn => ?_
  rw [hro]
  let R : LoopState → Loop := fun st => { state := st, pending := none, fn, tmps := a.tmps, params := ps, assign, body, defers := w.heap.size }
  let m := w.heap.size
  -- what is carried from round to round: the loop is ready, nothing is deferred
  let J : List α → World → Prop := fun s W => I s W ∧ W.heap[m + 1]? = some (.loop (R .ready)) ∧ W.heap[m]? = some (.deferred (some []))
  have hw : Mine m ts w ((w.alloc (.deferred (some []))).alloc (.loop (R .ready))) := ((Mine.refl w).alloc _).alloc _
  have hJ0 : J [] ((w.alloc (.deferred (some []))).alloc (.loop (R .ready))) := by
    refine ⟨hI _ _ _ h0 hw, ?_, (Below.heap_alloc _ _ _ (by simp [m])).trans (World.alloc_heap_new w _)⟩
    have := World.alloc_heap_new (w.alloc (.deferred (some []))) (.loop (R .ready))
    rwa [World.size_alloc] at this
  have hJm : ∀ s A C, J s A → Mine m ts A C → J s C := fun s A C hs hm =>
    ⟨hI _ _ _ hs.1 hm, hm.same _ _ hs.2.1 (fun _ _ _ e => by cases e), hm.same _ _ hs.2.2 (fun _ _ _ e => by cases e)⟩
  refine ⟨m + 1, [{ target := .collected m, args := #[] }], (w.alloc (.deferred (some []))).alloc (.loop (R .ready)), { target := .fn (.func gf) lb, args := #[.func (.yield (m + 1)) #[] #[]] }, (w.alloc (.deferred (some []))).alloc (.loop (R .ready)), gf,
    #[.func (.yield (m + 1)) #[] #[]] ++ lb, (w.alloc (.deferred (some []))).alloc (.loop (R .ready)), run_enterLoop_outer _ _ _ _ _, by simp only [resolve, hg]; simp [go_sem], fun f' hf' => by simp [Target.leads] at hf'; subst hf'; exact hF,
    by simp [invoke, go_sem, eg], fun _ => h1, ?_⟩
  refine (hseq (m + 1) J _ hw hJm ?_ hJ0).mono ?_
  · rintro pre x W ⟨hi, hl, hk⟩ hpre
    refine ⟨fn, _, assign, body, run_yield hl (hps x), roundIn_of_wpIn hfn (hassign _ pre x W _ hi fun a' W' ko0 ky0 hi' hax => ?_)⟩
    have hl' := ko0.same _ _ hl rfl
    have hk' := ko0.same _ _ hk rfl
    have hlt := (Array.getElem?_eq_some_iff.1 hl').1
    refine ⟨_, run_beginRound hl' rfl, ?_⟩
    let W2 := W'.putObj (m + 1) (.loop (R .busy))
    have hl2 : W2.heap[m + 1]? = some (.loop (R .busy)) := World.putObj_heap_same hlt
    have hk2 : W2.heap[m]? = some (.deferred (some [])) := (World.putObj_heap_other (by omega)).trans hk'
    have hy2 : Yours ts W W2 := ky0.trans (.putObj hl' rfl)
    refine wpIn_mono (hbody _ pre x a' W2 (hIp _ _ _ _ _ hi' (by omega) hl' rfl) (hAx _ _ _ _ _ _ _ hax (by omega) hl' rfl) hpre) fun e a3 W3 hp => ?_
    cases e with
    | normal =>
      obtain ⟨ko, ky, hi3⟩ := hp
      have hl3 := ko.same _ _ hl2 rfl
      have hk3 := ko.same _ _ hk2 rfl
      exact ⟨_, _, run_endRound none hl3, rfl, ⟨hIp _ _ _ _ _ hi3 (by omega) hl3 rfl, World.putObj_heap_same (Array.getElem?_eq_some_iff.1 hl3).1, (World.putObj_heap_other (by omega)).trans hk3⟩, (hy2.trans ky).trans (.putObj hl3 rfl)⟩
    | _ => exact hp.elim
  · rintro e W2 ⟨⟨v, rfl⟩, hi, hl, hk⟩
    exact ⟨none, _, run_endLoop hl (by simp [R]), hdone m _ (Nat.le_refl _) (hIp _ _ _ _ _ hi (by omega) hl rfl) ((World.putObj_heap_other (by omega)).trans hk)⟩
end Go.Proofs.YtfapipamohlniaaDoor

namespace Go.Proofs.YtfapipamohlniaaDoor
open Go.RowKit
attribute [local go_sem] Oper.semAt_some

/-- the periods that are told, those from more to less among them -/
def wantGo (b : List UInt8) (ps : List Nat) (en : Nat) (ends : Bool) (last : Nat) : Nat → Nat → List Nat → List (Nat × Nat)
  | fr, a, [] => if ends || hasP ps a en then [(fr, last)] else []
  | fr, a, o :: r => (if hasP ps a o then [(fr, numH (b.drop o) 3 - 1)] else []) ++ wantGo b ps en ends last (numH (b.drop o) 3 + 1) o r
theorem lostGo_want {b : List UInt8} {ps : List Nat} {en : Nat} {ends : Bool} {last : Nat} : ∀ (fr a : Nat) (l : List Nat), (∀ o ∈ l, 1 ≤ numH (b.drop o) 3) →
    lostGo b ps en ends last fr a l = (wantGo b ps en ends last fr a l).filter fun p => decide (p.1 ≤ p.2)
  | fr, a, [], _ => by
    unfold lostGo wantGo
    cases h1 : (ends || hasP ps a en)
    · simp
    · by_cases h : fr ≤ last <;> simp [h]
  | fr, a, o :: r, hl => by
    unfold lostGo wantGo
    rw [List.filter_append, ← lostGo_want _ _ r (fun x hx => hl x (List.mem_cons_of_mem _ hx))]
    congr 1
    have h1 := hl o (List.mem_cons_self ..)
    cases h2 : hasP ps a o
    · simp
    · by_cases h : fr + 1 ≤ numH (b.drop o) 3
      · have h' : fr ≤ numH (b.drop o) 3 - 1 := by omega
        simp [h, h']
      · have h' : ¬ fr ≤ numH (b.drop o) 3 - 1 := by omega
        simp [h, h']
/-- the types that the iterator reads, or writes -/
def tsW (t : TypeId) : Bool := t == 3 || t == 33 || t == 39 || t == 46 || t == 5
theorem Ow.setB {w : World} {base size n : Nat} {e : TypeId} {v : Value} {xs : List Value} (h : Ow w base e size v n xs) {g B : Nat} (hv : ∀ k, v.ownBlock = some k → k < B) (hg : B ≤ g) (i : Nat) (x : Value) : Ow (w.setCell ⟨g, i, none⟩ x) base e size v n xs :=
  World.ownsRow.kept h (grown_set w ⟨g, i, none⟩ x) (by
    right
    intro h'
    have := hv _ h'
    dsimp only at this
    omega)
theorem Mine.lowOwn {B : Nat} {ts : TypeId → Bool} {A C : World} (h : Mine B ts A C) {lo e size n : Nat} {v : Value} {xs : List Value} (ho : Ow A lo e size v n xs) (hv : ∀ k, v.ownBlock = some k → k < B) : Ow C lo e size v n xs := by
  refine ⟨ho.1, ?_⟩
  rcases ho.2 with h1 | ⟨g, cap, cur, rfl, h2, h3, h4⟩
  · exact .inl h1
  · exact .inr ⟨g, cap, cur, rfl, h2, (h.low g (Array.getElem?_eq_some_iff.1 h3).1 (hv g rfl)).trans h3, h4⟩
/-- what the iterator reads -/
structure WtF (B lo : Nat) (b : List UInt8) (id : Nat) (s : Sc) (vF vP : Value) (X : List FX) (gS gL : Nat) (x : Sl) (w : World) : Prop where
  row : X.map FX.off = s.fd
  qS : Blk w gS 33 (scCells id s vF vP)
  qL : Blk w gL 39 (slCells x)
  oF : Ow w lo 46 9 vF X.length (X.flatMap (FX.cells id b))
  oP : Ow w lo 3 1 vP s.ps.length (s.ps.map fun o : Nat => .int .i64 (o : Int))
  sS : gS < B
  sL : gL < B
  bF : ∀ k, vF.ownBlock = some k → k < B
  bP : ∀ k, vP.ownBlock = some k → k < B
  ok : ∀ x ∈ X, x.ok w lo b ∧ x.gK < B ∧ x.gV < B
theorem FX.ok.mine {B lo : Nat} {b : List UInt8} {x : FX} {w w' : World} {ts : TypeId → Bool} (h : x.ok w lo b ∧ x.gK < B ∧ x.gV < B) (hm : Mine B ts w w') : x.ok w' lo b ∧ x.gK < B ∧ x.gV < B :=
  ⟨⟨hm.lowBlk h.1.1 h.2.1, hm.lowBlk h.1.2.1 h.2.2, h.1.2.2⟩, h.2⟩
theorem FX.ok.yours {B lo : Nat} {b : List UInt8} {x : FX} {w w' : World} (h : x.ok w lo b ∧ x.gK < B ∧ x.gV < B) (hm : Yours tsW w w') : x.ok w' lo b ∧ x.gK < B ∧ x.gV < B :=
  ⟨⟨hm.blk h.1.1 rfl, hm.blk h.1.2.1 rfl, h.1.2.2⟩, h.2⟩
theorem Mine.wide {B : Nat} {ts ts' : TypeId → Bool} {A C : World} (h : Mine B ts A C) (hts : ∀ t, ts t = true → ts' t = true) : Mine B ts' A C :=
  ⟨h.os, h.tape, h.output, h.size, h.low, fun k o hk ho => h.same k o hk fun cs t fr e => by
    have := ho cs t fr e
    cases hb : ts t
    · rfl
    · rw [hts t hb] at this; cases this⟩
theorem WtF.mine {B lo : Nat} {b : List UInt8} {id : Nat} {s : Sc} {vF vP : Value} {X : List FX} {gS gL : Nat} {x : Sl} {w w' : World} (h : WtF B lo b id s vF vP X gS gL x w) {ts : TypeId → Bool} (hm : Mine B ts w w') : WtF B lo b id s vF vP X gS gL x w' :=
  ⟨h.row, hm.lowBlk h.qS h.sS, hm.lowBlk h.qL h.sL, hm.lowOwn h.oF h.bF, hm.lowOwn h.oP h.bP, h.sS, h.sL, h.bF, h.bP, fun x hx => FX.ok.mine (h.ok x hx) hm⟩
theorem WtF.yours {B lo : Nat} {b : List UInt8} {id : Nat} {s : Sc} {vF vP : Value} {X : List FX} {gS gL : Nat} {x : Sl} {w w' : World} (h : WtF B lo b id s vF vP X gS gL x w) (hm : Yours tsW w w') : WtF B lo b id s vF vP X gS gL x w' :=
  ⟨h.row, hm.blk h.qS rfl, hm.blk h.qL rfl, hm.own h.oF rfl, hm.own h.oP rfl, h.sS, h.sL, h.bF, h.bP, fun x hx => FX.ok.yours (h.ok x hx) hm⟩
theorem WtF.scRow {B lo : Nat} {b : List UInt8} {id : Nat} {s : Sc} {vF vP : Value} {X : List FX} {gS gL : Nat} {x : Sl} {w : World} (h : WtF B lo b id s vF vP X gS gL x w) : ScRow lo b id s vF vP X w :=
  ⟨h.row, h.oF, h.oP, fun x hx => (h.ok x hx).1⟩

set_option maxRecDepth 100000 in
set_option maxHeartbeats 1000000 in
theorem before_any (B lo : Nat) (b : List UInt8) (id : Nat) (s : Sc) (vF vP : Value) (X : List FX) (gS gL gP : Nat) (x : Sl) (off k : Nat) (w : World) (h : WtF B lo b id s vF vP X gS gL x w) (hp : Blk w gP 3 #[.int .i64 (k : Int)]) (hB : B ≤ gP)
    (hk : k ≤ cntP s.ps off) (hn : s.ps.length ≤ 1000000) (ts : TypeId → Bool) (hts : ts 3 = true) :
    Calls Tryd.prog 37 #[.int .i64 (off : Int), .pointer (some ⟨gP, 0, none⟩), .pointer (some ⟨gS, 0, none⟩)] w
      fun e w' => e = .returned (.bool (decide (k < cntP s.ps off))) ∧ Blk w' gP 3 #[.int .i64 (cntP s.ps off : Int)] ∧ Mine B ts w w' := by
  obtain ⟨AP, cP, rfl⟩ := own_slice h.oP
  have hcl := cntP_le s.ps off
  have hst := fun (j : Nat) => cntP_step (ps := s.ps) (o := off) (k := j)
  generalize hN : cntP s.ps off = N at *
  clear hN
  have HST := Lib.hid hst
  clear hst
  have p0 := hp.cell 0
  have HP := Lib.hid hp
  have HW := Lib.hid h
  clear hp h
  go_enter Tryd.func37, Tryd.ntmps37
  go_wp2_with fail
  go_loopw [20] (fun _ wr => ∃ j : Nat, k ≤ j ∧ j ≤ N ∧ Blk wr gP 3 #[.int .i64 (j : Int)] ∧ Mine B ts w wr) (fun _ wr => N + 1 - (intOf ((wr.cell? ⟨gP, 0, none⟩).getD (.int .i64 0))).toNat)
  case atStart => exact ⟨k, Nat.le_refl _, hk, HP.out, Mine.refl _⟩
  case round =>
    obtain ⟨j, hkj, hjN, hp, hm⟩ := hrel
    clear p0
    have hw := HW.out.mine hm
    have p0 := hp.cell 0
    have s2 := hw.qS.cell 2
    simp only [scCells] at s2
    have hf0 := hp.frozen 0
    have HP1 := Lib.hid hp
    have HM := Lib.hid hm
    by_cases hj : j < N
    · have hjl : j < s.ps.length := by omega
      have hlt := (HST.out j hjl hjN).1 hj
      obtain ⟨g, c', hA, _, hge⟩ := own_ptr hw.oP (by omega)
      injection hA with hA _ _
      subst hA
      have cr := hw.oP.cell rfl (by omega) (j := j) (x := .int .i64 (s.ps[j] : Int)) (by simp [hjl])
      rw [Nat.zero_add] at cr
      have i1 : ((j : Int) < (s.ps.length : Int)) := by omega
      have i2 : ((s.ps[j] : Int) < (off : Int)) := by omega
      have hcm : (wr.cell? ⟨gP, 0, none⟩).getD (.int .i64 0) = .int .i64 (j : Int) := by rw [p0]; rfl
      have HCM := Lib.hid hcm
      clear hcm hw hm hp
      generalize s.ps[j] = q at *
      go_wp2_with fail
      go_roundw
      case rel => exact ⟨j + 1, by omega, by omega, blk_eq (HP1.out.set_ 0 (.int .i64 ((j : Int) + 1))) (by simp), HM.out.set HP1.out hB hts 0 _⟩
      case measure =>
        have hcm2 : ((wr.setCell ⟨gP, 0, none⟩ (.int .i64 ((j : Int) + 1))).cell? ⟨gP, 0, none⟩).getD (.int .i64 0) = .int .i64 ((j : Int) + 1) := by rw [(HP1.out.set_ 0 (.int .i64 ((j : Int) + 1))).cell 0]; rfl
        rw [hcm2, HCM.out]
        simp only [intOf]
        omega
    · obtain rfl : j = N := by omega
      by_cases hjl : j < s.ps.length
      · have hlt : ¬ s.ps[j] < off := fun h => absurd ((HST.out j hjl hjN).2 h) (by omega)
        obtain ⟨g, c', hA, _, hge⟩ := own_ptr hw.oP (by omega)
        injection hA with hA _ _
        subst hA
        have cr := hw.oP.cell rfl (by omega) (j := j) (x := .int .i64 (s.ps[j] : Int)) (by simp [hjl])
        rw [Nat.zero_add] at cr
        have i1 : ((j : Int) < (s.ps.length : Int)) := by omega
        have i2 : ¬ ((s.ps[j] : Int) < (off : Int)) := by omega
        clear hw hm hp
        generalize s.ps[j] = q at *
        go_wp2_with fail
        go_ret
        exact ⟨ret_bool (by simp), HP1.out, HM.out⟩
      · have i1 : ¬ ((j : Int) < (s.ps.length : Int)) := by omega
        clear hw hm hp
        go_wp2_with fail
        go_ret
        exact ⟨ret_bool (by simp), HP1.out, HM.out⟩
end Go.Proofs.YtfapipamohlniaaDoor

namespace Go.Proofs.YtfapipamohlniaaDoor
open Go.RowKit
attribute [local go_sem] Oper.semAt_some

def encP (x : Nat × Nat) : Array Value := #[.agg #[.int .u64 (x.1 : Int), .int .u64 (x.2 : Int)]]
theorem fx_cell {W : World} {lo : Nat} {id : Nat} {b : List UInt8} {X : List FX} {g c : Nat} (h : Ow W lo 46 9 (.slice (some ⟨g, 0, none⟩) X.length c) X.length (X.flatMap (FX.cells id b))) {k : Nat} (hk : k < X.length) (j : Nat) (hj : j < 9) :
    W.cell? ⟨g, k * 9 + j, none⟩ = ((X[k]).cells id b)[j]? := by
  have e : (X.flatMap (FX.cells id b))[k * 9 + j]? = some (((X[k]).cells id b)[j]'(by rw [FX.cells_len]; exact hj)) := by
    rw [fx_get id b X hk hj, List.getElem?_eq_getElem]
  have h2 := h.cell rfl (by omega) e
  rw [Nat.zero_add] at h2
  rw [h2, List.getElem?_eq_getElem]
theorem cntP_zero (ps : List Nat) : cntP ps 0 = 0 := by cases ps <;> simp [cntP]
theorem bool_case (b1 b2 b3 : Bool) : (b1 = false) ∨ (b1 = true ∧ b2 = false) ∨ (b1 = true ∧ b2 = true ∧ b3 = false) ∨ (b1 = true ∧ b2 = true ∧ b3 = true) := by revert b1 b2 b3; decide
theorem ends_eq (w a b c d : Nat) : (decide (w ≠ 0) || (decide (a ≠ b) || decide (c ≠ d))) = !(((w : Int) == 0) && (((a : Int) == (b : Int)) && ((c : Int) == (d : Int)))) := by
  have e (a b : Nat) : ((a : Int) == (b : Int)) = decide (a = b) := by
    by_cases h : a = b
    · subst h; simp
    · have : (a : Int) ≠ (b : Int) := by omega
      simp [h, this]
  have e0 : ((w : Int) == 0) = decide (w = 0) := e w 0
  rw [e, e, e0]
  simp
/-- what a round keeps -/
def WantJ (B lo : Nat) (b : List UInt8) (id : Nat) (s : Sc) (vF vP : Value) (X : List FX) (gS gL gP : Nat) (x : Sl) (J : List (Nat × Nat) → World → Prop) (xs : List (Nat × Nat)) (k f a : Nat) (pre : List (Nat × Nat)) (w : World) : Prop :=
  WtF B lo b id s vF vP X gS gL x w ∧ Blk w gP 3 #[.int .i64 (cntP s.ps a : Int)] ∧ J pre w ∧ xs = pre ++ wantGo b s.ps s.en (endsS b id s x) x.last f a (s.fd.drop k) ∧ (∀ o ∈ s.fd.drop k, a ≤ o) ∧ a ≤ s.en

set_option maxRecDepth 100000 in
set_option maxHeartbeats 4000000 in
theorem want_seq (n0 : Nat) (hn0 : 4 ≤ n0) (B lo : Nat) (b : List UInt8) (id : Nat) (s : Sc) (vF vP : Value) (X : List FX) (gS gL : Nat) (x : Sl) (w : World) (h : WtF B lo b id s vF vP X gS gL x w) (hi : ScInv b s) (hsz : s.en ≤ 20000000) (hn : s.fd.length + s.ps.length ≤ 1000000) (hBw : B ≤ w.heap.size) :
    SeqX Fence.wide n0 Tryd.prog 36 #[.pointer (some ⟨gS, 0, none⟩), .pointer (some ⟨gL, 0, none⟩)] encP tsW (wantGo b s.ps s.en (endsS b id s x) x.last x.first 0 s.fd) B w := by
  intro yl J W hW hJ hY h0
  have h := h.mine hW
  obtain ⟨AF, cF, rfl⟩ := own_slice h.oF
  obtain ⟨AP, cP, rfl⟩ := own_slice h.oP
  have hXl : X.length = s.fd.length := by rw [← h.row, List.length_map]
  refine callsIn_of_wp Tryd.func36 rfl trivial ?_ rfl
  simp only [Tryd.ntmps36, List.size_toArray, List.length_cons, List.length_nil, Nat.reduceAdd, Nat.reduceSub, Array.replicate_succ, Array.replicate_zero, List.push_toArray, List.append_toArray, List.nil_append, List.cons_append]
  have hW2 := Mine.alloc (ts := tsW) (B := B) (Mine.refl W) (.cells #[.int .i64 0] 3)
  have hp := Blk.new W 3 #[.int .i64 0]
  have hB : B ≤ W.heap.size := Nat.le_trans hBw hW.size
  have h2 := h.mine hW2
  have hJ0 := hJ _ _ _ h0 hW2
  have sF := h2.qS.cell 1
  have sL := h2.qL.cell 3
  simp only [scCells, slCells] at sF sL
  have HP := Lib.hid hp
  have H2 := Lib.hid h2
  have HJ0 := Lib.hid hJ0
  have hXr := h.row
  clear hp h h2 hJ0 h0 hW2 hW
  gi_wp2_with fail
  generalize W.alloc (.cells #[.int .i64 0] 3) = W2 at *
  obtain ⟨gP, hgP⟩ : ∃ g, g = W.heap.size := ⟨_, rfl⟩
  rw [← hgP] at HP hB ⊢
  clear sF sL hgP
  have HXL := Lib.hid hXl
  have HXR := Lib.hid hXr
  have HI := Lib.hid hi
  obtain ⟨N, hN⟩ : ∃ N, N = s.fd.length := ⟨_, rfl⟩
  rw [← hN] at hn hXl ⊢
  have HN := Lib.hid hN
  rw [hXl] at H2
  clear hXl hXr hi hN
  obtain ⟨xs, hxs⟩ : ∃ xs, xs = wantGo b s.ps s.en (endsS b id s x) x.last x.first 0 s.fd := ⟨_, rfl⟩
  rw [← hxs] at hY
  gi_loopw [6, 17] (fun fr i wr => ∃ (k f a : Nat) (pre : List (Nat × Nat)), k ≤ N ∧ i = .int .i64 (k : Int) ∧ fr = .int .u64 (f : Int) ∧ WantJ B lo b id s (.slice AF N cF) (.slice AP s.ps.length cP) X gS gL gP x J xs k f a pre wr) (fun _ i _ => N - (intOf i).toNat)
  case atStart => exact ⟨0, x.first, 0, [], Nat.zero_le _, rfl, rfl, H2.out, by rw [cntP_zero]; exact HP.out, HJ0.out, hxs, fun _ _ => Nat.zero_le _, Nat.zero_le _⟩
  case round =>
    obtain ⟨k, f, a, pre, hk, rfl, rfl, hw, hp, hj, hxs, hal, hae⟩ := hrel
    by_cases hlt : k < N
    · have hkX : k < X.length := by have := HXL.out; have := HN.out; omega
      have hkf : k < s.fd.length := by have := HN.out; omega
      have hfd : s.fd[k] = X[k].off := by
        have e : (X.map FX.off)[k]'(by rw [List.length_map]; exact hkX) = X[k].off := by simp
        rw [← e]
        simp only [HXR.out]
      have hdr : s.fd.drop k = X[k].off :: s.fd.drop (k + 1) := by rw [List.drop_eq_getElem_cons hkf, hfd]
      have hao := hal X[k].off (by rw [hdr]; simp)
      have hmem : X[k].off ∈ s.fd := by rw [← hfd]; exact List.getElem_mem hkf
      have hok := HI.out.fd _ hmem
      have hae2 : X[k].off ≤ s.en := Nat.le_of_lt hok.1
      have hq1 := (mayG_seq hok.2.2.2.2.1)
      have hup : ∀ o ∈ s.fd.drop (k + 1), X[k].off ≤ o := by
        have := List.Pairwise.sublist (List.drop_sublist k s.fd) HI.out.fup
        rw [hdr, List.pairwise_cons] at this
        exact fun o ho => Nat.le_of_lt (this.1 o ho)
      obtain ⟨gF, c', hA, _, hge⟩ := own_ptr hw.oF (by omega)
      injection hA with hA e1 e2
      clear e1 e2
      subst hA
      have oF := hw.oF
      rw [show N = X.length by rw [HXL.out, HN.out]] at oF
      have c0 := fx_cell oF hkX 0 (by omega)
      rw [Nat.add_zero] at c0
      have c1 := fx_cell oF hkX 1 (by omega)
      have c2 := fx_cell oF hkX 2 (by omega)
      have c3 := fx_cell oF hkX 3 (by omega)
      have c4 := fx_cell oF hkX 4 (by omega)
      have c5 := fx_cell oF hkX 5 (by omega)
      have c6 := fx_cell oF hkX 6 (by omega)
      have c7 := fx_cell oF hkX 7 (by omega)
      have c8 := fx_cell oF hkX 8 (by omega)
      generalize X[k] = y at *
      have hm1 := Mine.alloc (Mine.refl (B := B) (ts := tsW) wr) (.cells (y.cells id b).toArray 46)
      have q8 := Blk.newAt wr 46 (y.cells id b).toArray (g := wr.heap.size) rfl
      have hwz := hw.mine hm1
      have hpz := hp.alloc (.cells (y.cells id b).toArray 46)
      have hjz := hJ _ _ _ hj hm1
      have HB := Lib.hid (before_any B lo b id s _ _ X gS gL gP x y.off (cntP s.ps a) _ hwz hpz hB (cntP_mono s.ps hao) (by omega) (fun t => t == 3) rfl)
      rw [cntP_has HI.out.up hao] at HB
      simp only [FX.cells] at c0 c1 c2 c3 c4 c5 c6 c7 c8 HB q8 hwz hjz
      obtain ⟨q, hq⟩ : ∃ q, numH (b.drop y.off) 3 = q + 1 := ⟨numH (b.drop y.off) 3 - 1, by omega⟩
      have hq2 : q ≤ 1099511627776 := by omega
      rw [hq] at c3 HB q8 hwz hjz
      rw [Int.natCast_succ] at c3 HB q8 hwz hjz
      have HQ := Lib.hid hq
      have HWZ := Lib.hid hwz
      have HJZ := Lib.hid hjz
      have HDR := Lib.hid hdr
      have HUP := Lib.hid hup
      have HXS := Lib.hid hxs
      have Q8 := Lib.hid q8
      clear hwz hjz q8 hq hdr hup hxs hq1 hm1 hw hp hj hpz hal hfd hmem hok oF hge hkX hkf
      have i1 : (k : Int) < (N : Int) := by omega
      cases hh : hasP s.ps a y.off with
      | true =>
        rw [hh] at HB
        have HH := Lib.hid hh
        clear hh
        gi_wp2_with fail
        refine ⟨trivial, fun _ => by omega, (callsIn_wide.2 HB.out).mono ?_⟩
        rintro e W3 ⟨rfl, hp3, hm3⟩
        have hw3 := HWZ.out.mine hm3
        have q3 := hm3.blk Q8.out rfl
        have hj3 := hJ _ _ _ HJZ.out (hm3.wide fun t ht => by simp [tsW] at ht ⊢; simp [ht])
        clear HWZ Q8 HJZ HB hm3 c0 c1 c2 c3 c4 c5 c6 c7 c8
        have d3 := q3.cell 3
        have HW3 := Lib.hid hw3
        have HP3 := Lib.hid hp3
        have HQ3 := Lib.hid q3
        have hE : (encP (f, q)) = #[.agg #[.int .u64 (f : Int), .int .u64 (q : Int)]] := rfl
        have hxs2 : xs = (pre ++ [(f, q)]) ++ wantGo b s.ps s.en (endsS b id s x) x.last (q + 1 + 1) y.off (s.fd.drop (k + 1)) := by
          rw [HXS.out, HDR.out]
          conv => lhs; rw [wantGo]
          rw [HH.out, HQ.out]
          simp
        obtain ⟨fn, tmps, assign, body, hy, hR⟩ := hY pre (f, q) W3 hj3 ⟨_, hxs2.symm⟩
        rw [hE] at hy
        have HXS2 := Lib.hid hxs2
        clear hw3 hp3 q3 hxs2 hE hj3
        gi_wp2_with fail
        refine ⟨fun _ => by omega, hR.mono ?_⟩
        clear hR
        rintro e W4 ⟨rfl, hj4, hk4⟩
        have hp4 := hk4.blk HP3.out rfl
        have hw4 := HW3.out.yours hk4
        have q4 := hk4.blk HQ3.out rfl
        have d3 := q4.cell 3
        clear q4 hk4 HQ3 HW3 HP3 hy
        have HP4 := Lib.hid hp4
        clear hp4
        gi_wp2_with fail
        go_roundw
        case rel => exact ⟨k + 1, q + 1 + 1, y.off, pre ++ [(f, q)], by omega, by go_num, by go_num, hw4, HP4.out, hj4, HXS2.out, HUP.out, hae2⟩
        case measure => simp [intOf]; omega
      | false =>
        rw [hh] at HB
        have HH := Lib.hid hh
        clear hh
        gi_wp2_with fail
        refine ⟨trivial, fun _ => by omega, (callsIn_wide.2 HB.out).mono ?_⟩
        rintro e W3 ⟨rfl, hp3, hm3⟩
        have hw3 := HWZ.out.mine hm3
        have q3 := hm3.blk Q8.out rfl
        have hj3 := hJ _ _ _ HJZ.out (hm3.wide fun t ht => by simp [tsW] at ht ⊢; simp [ht])
        clear HWZ Q8 HJZ HB hm3 c0 c1 c2 c3 c4 c5 c6 c7 c8
        have d3 := q3.cell 3
        have hxs2 : xs = pre ++ wantGo b s.ps s.en (endsS b id s x) x.last (q + 1 + 1) y.off (s.fd.drop (k + 1)) := by
          rw [HXS.out, HDR.out]
          conv => lhs; rw [wantGo]
          rw [HH.out, HQ.out]
          simp
        have HXS2 := Lib.hid hxs2
        have HP3 := Lib.hid hp3
        clear hxs2 hp3 q3
        gi_wp2_with fail
        refine ⟨fun _ h => (by cases h), ?_⟩
        gi_wp2_with fail
        go_roundw
        case rel => exact ⟨k + 1, q + 1 + 1, y.off, pre, by omega, by go_num, by go_num, hw3, HP3.out, hj3, HXS2.out, HUP.out, hae2⟩
        case measure => simp [intOf]; omega
    · obtain rfl : k = N := by omega
      have hdr : s.fd.drop k = [] := List.drop_eq_nil_of_le (by have := HN.out; omega)
      rw [hdr] at hxs
      rw [wantGo] at hxs
      have HS := Lib.hid (seal_any lo b id s _ _ X wr hw.scRow hsz (by have := HN.out; omega))
      obtain ⟨y, hy⟩ : ∃ y, sealS b id s = y := ⟨_, rfl⟩
      obtain ⟨b1, b2, b3, i1, i2, i3, hend⟩ : ∃ b1 b2 b3 : Bool, ((s.wy : Int) == 0) = b1 ∧ ((y.size : Int) == (x.size : Int)) = b2 ∧ ((y.many : Int) == (x.many : Int)) = b3 ∧ endsS b id s x = !(b1 && (b2 && b3)) := by
        refine ⟨_, _, _, rfl, rfl, rfl, ?_⟩
        unfold endsS
        rw [hy]
        exact ends_eq _ _ _ _ _
      rw [hy] at HS
      have i4 : ¬ (k : Int) < (k : Int) := by omega
      rw [hend] at hxs
      clear hend hy hdr hal
      have HXS := Lib.hid hxs
      have hcm := cntP_mono s.ps hae
      have s0 := hw.qS.cell 0
      have s1 := hw.qS.cell 1
      have s2 := hw.qS.cell 2
      have s3 := hw.qS.cell 3
      have s4 := hw.qS.cell 4
      simp only [scCells, slCells] at s0 s1 s2 s3 s4 HS
      have HW := Lib.hid hw
      have HP2 := Lib.hid hp
      have HJ := Lib.hid hj
      clear hxs hw hp hj hlt
      gi_wp2_with fail
      refine ⟨trivial, fun _ => by omega, (callsIn_wide.2 HS.out).mono ?_⟩
      rintro e W3 ⟨rfl, b3⟩
      have q9 := Blk.newAt W3 39 (slCells y) (g := W3.heap.size) rfl
      have hm := (Mine.of_below (B := B) (ts := tsW) b3).alloc (.cells (slCells y) 39)
      have hwz := HW.out.mine hm
      have hpz := (HP2.out.after b3).alloc (.cells (slCells y) 39)
      have hjz := hJ _ _ _ HJ.out hm
      have HB := Lib.hid (before_any B lo b id s _ _ X gS gL gP x s.en (cntP s.ps a) _ hwz hpz hB hcm (by omega) (fun t => t == 3) rfl)
      rw [cntP_has HI.out.up hae] at HB
      clear HS HW HP2 HJ hm b3 hpz s0 s1 s2 s3 s4 hcm
      have s3 := hwz.qS.cell 3
      have s4 := hwz.qS.cell 4
      have l1 := hwz.qL.cell 1
      have l2 := hwz.qL.cell 2
      have o1 := q9.cell 1
      have o2 := q9.cell 2
      simp only [slCells, scCells] at HB q9 hwz hjz s3 s4 l1 l2 o1 o2
      have HWZ := Lib.hid hwz
      have HJZ := Lib.hid hjz
      clear hwz hjz q9
      rcases bool_case b1 b2 b3 with rfl | ⟨rfl, rfl⟩ | ⟨rfl, rfl, rfl⟩ | ⟨rfl, rfl, rfl⟩ <;> cases hh : hasP s.ps a s.en
      all_goals
        rw [hh] at HB HXS
        simp at HXS
        clear hh
        gi_wp2_with fail
        refine ⟨trivial, fun _ => by omega, (callsIn_wide.2 HB.out).mono ?_⟩
        rintro e W4 ⟨rfl, hp4, hm4⟩
        have hw4 := HWZ.out.mine hm4
        have hj4 := hJ _ _ _ HJZ.out (hm4.wide fun t ht => by simp [tsW] at ht ⊢; simp [ht])
        have t4 := hw4.qL.cell 4
        simp only [slCells] at t4
        clear hp4 hm4 hw4 HB HWZ HJZ s3 s4 l1 l2 o1 o2
        first
        | (have hxs2 : xs = pre := HXS.out
           subst hxs2
           gi_wp2_with fail
           go_end0
           exact ⟨⟨_, rfl⟩, by rw [← hxs]; exact hj4⟩)
        | (obtain ⟨fn, tmps, assign, body, hy, hR⟩ := hY pre (f, x.last) W4 hj4 ⟨[], by rw [List.append_nil, HXS.out]⟩
           have hE : (encP (f, x.last)) = #[.agg #[.int .u64 (f : Int), .int .u64 (x.last : Int)]] := rfl
           rw [hE] at hy
           have HXS2 := Lib.hid hxs
           clear hxs hE
           gi_wp2_with fail
           refine ⟨fun _ => by omega, hR.mono ?_⟩
           rintro e W5 ⟨rfl, hj5, hk5⟩
           gi_wp2_with fail
           go_end0
           exact ⟨⟨_, rfl⟩, by rw [← HXS2.out, HXS.out]; exact hj5⟩)
end Go.Proofs.YtfapipamohlniaaDoor

namespace Go.Proofs.YtfapipamohlniaaDoor
open Go.RowKit
attribute [local go_sem] Oper.semAt_some

theorem Blk.put {A : World} {g : Nat} {t : TypeId} {cs : Array Value} (h : Blk A g t cs) {k : Nat} {o o' : Obj} (hk : A.heap[k]? = some o) (ho : o.isCells = false) : Blk (A.putObj k o') g t cs :=
  (World.putObj_heap_other (by
    intro e
    subst e
    unfold Blk at h
    rw [h] at hk
    injection hk with hk
    subst hk
    cases ho)).trans h
theorem Ow.put {A : World} {lo e size n : Nat} {v : Value} {xs : List Value} (h : Ow A lo e size v n xs) {k : Nat} {o o' : Obj} (hk : A.heap[k]? = some o) (ho : o.isCells = false) : Ow (A.putObj k o') lo e size v n xs := by
  refine ⟨h.1, ?_⟩
  rcases h.2 with h1 | ⟨g, cap, cur, rfl, h2, h3, h4⟩
  · exact .inl h1
  · exact .inr ⟨g, cap, cur, rfl, h2, Blk.put (A := A) (g := g) h3 hk ho, h4⟩
theorem below_put {lo : Nat} {w A : World} (h : Below lo w A) {k : Nat} {o o' : Obj} (hk : A.heap[k]? = some o) (hlo : lo ≤ k) : Below lo w (A.putObj k o') :=
  h.grown (grownBy_putObj' A k o') (by have := (Array.getElem?_eq_some_iff.1 hk).1; omega) (fun j e => by cases e; exact hlo)

def pcells (l : List (Nat × Nat)) : List Value := l.flatMap fun p => [.int .u64 (p.1 : Int), .int .u64 (p.2 : Int)]
def oneP (f t : Nat) : List (Nat × Nat) := if f ≤ t then [(f, t)] else []
theorem Tryd.infoPeriod : (Tryd.prog.info? 53).map (fun i => (i.zero, i.size, i.bytes)) = some (some (.agg #[.int .u64 0, .int .u64 0]), 2, 16) := by kernel_rfl
theorem eltPeriod : Elt Tryd.prog 35 53 (.agg #[.int .u64 0, .int .u64 0]) 2 16 := ⟨Tryd.underlying35, Tryd.infoPeriod, rfl, by omega⟩

/-- the types that add leaves -/
def tsA (t : TypeId) : Bool := !(t == 35) && !(t == 53)
theorem Yours.less {ts ts' : TypeId → Bool} {A C : World} (h : Yours ts A C) (hts : ∀ t, ts' t = true → ts t = true) : Yours ts' A C := ⟨h.size, fun k cs t fr hk ht => h.same k cs t fr hk (hts t ht)⟩
theorem tsW_A : ∀ t, tsW t = true → tsA t = true := by
  intro t ht
  unfold tsW at ht
  simp only [Bool.or_eq_true, beq_iff_eq] at ht
  rcases ht with (((h | h) | h) | h) | h <;> subst h <;> rfl
/-- the row of periods, held by a variable -/
def RowP (lo g5 : Nat) (l : List (Nat × Nat)) (w : World) : Prop := ∃ v, Blk w g5 35 #[v] ∧ Ow w lo 53 2 v l.length (pcells l)
set_option maxRecDepth 100000 in
set_option maxHeartbeats 1000000 in
theorem add_any (lo f t g5 : Nat) (l : List (Nat × Nat)) (w : World) (hR : RowP lo g5 l w) (hlo : lo ≤ g5) (hn : l.length ≤ 2000000) :
    Calls Tryd.prog 24 #[.agg #[.int .u64 (f : Int), .int .u64 (t : Int)], .pointer (some ⟨g5, 0, none⟩)] w
      fun e w' => e = .returned (.tuple #[]) ∧ RowP lo g5 (l ++ oneP f t) w' ∧ Below lo w w' ∧ Yours tsA w w' ∧ KeepsOthers w w' := by
  obtain ⟨v, hq, hO⟩ := hR
  have hl1 := Nat.le_trans hlo (Nat.le_of_lt hq.lt)
  have hb0 := (Below.refl w.heap.size w).alloc (Nat.le_refl _) (.cells #[.int .u64 (f : Int), .int .u64 (t : Int)] 53)
  have qb := Blk.new w 53 #[.int .u64 (f : Int), .int .u64 (t : Int)]
  by_cases h : f ≤ t
  · have i1 : (f : Int) ≤ (t : Int) := by omega
    have ho : oneP f t = [(f, t)] := by unfold oneP; rw [if_pos h]
    rw [ho]
    have q1 := hq.after hb0
    have o1 : Ow _ _ _ _ _ _ _ := Ow.after hO hb0
    have c0 := q1.cell 0
    have b0 := qb.cell 0
    have b1 := qb.cell 1
    have HQ1 := Lib.hid q1
    have HO := Lib.hid hO
    have HQ := Lib.hid hq
    have O1 := Lib.hid o1
    have HB0 := Lib.hid hb0
    clear ho h hO hq o1 q1 hb0 qb
    go_enter Tryd.func24, Tryd.ntmps24
    have hlw : lo ≤ (w.alloc (.cells #[.int .u64 (f : Int), .int .u64 (t : Int)] 53)).heap.size := by simp; omega
    go_wp2_with (at_builtin; refine wpList_pushAt eltPeriod rfl (.tmp 8) (.tmp 10) rfl (v := v) rfl O1.out rfl (by simp) rfl (by simp [Value.oneCell']) (by omega) (by unfold maxLen; omega) (HB0.out.mono hl1) hlw ?_; intro v' w2 o2 b2 g2 hg2; obtain ⟨A2, c2, rfl⟩ := own_slice o2; have q2 := HQ1.out.grownT O1.out (by decide) g2; have f0 := q2.frozen 0; have c9 := q2.cell 0; have hz := q2.lt; have HG := Lib.hid g2; have Q2 := Lib.hid q2; have O2 := Lib.hid o2; have B2 := Lib.hid b2; clear g2 q2 hg2 o2 b2 c0)
    exact bodyPost_end (v := .tuple #[]) (by simp [results, Tryd.results24]) rfl ⟨rfl, ⟨_, blk_eq (Q2.out.set_ 0 _) (by simp), own_eq (Ow.setT O2.out Q2.out (by decide) 0 _) (by simp) (by simp [pcells])⟩, B2.out.setCell (p := ⟨g5, 0, none⟩) hlo _,
      (((Yours.refl w).alloc _).grown O1.out rfl HG.out).set Q2.out rfl 0 _,
      ((KeepsOthers.alloc w _).trans (KeepsOthers.of_grownBy HG.out (fun j o e hk => by
        rcases O1.out.2 with ⟨rfl, _⟩ | ⟨k, cap, cur, rfl, _, hh, _⟩
        · cases e
        · injection e with e
          dsimp only at e
          subst e
          rw [hh] at hk
          injection hk with hk
          subst hk
          rfl))).trans (KeepsOthers.setCell _ _ _)⟩
  · have i1 : ¬ (f : Int) ≤ (t : Int) := by omega
    have ho : oneP f t = [] := by unfold oneP; rw [if_neg h]
    rw [ho, List.append_nil]
    have q1 := hq.after hb0
    have o1 := Ow.after hO hb0
    have b0 := qb.cell 0
    have b1 := qb.cell 1
    have Q1 := Lib.hid q1
    have O1 := Lib.hid o1
    have HB0 := Lib.hid hb0
    clear ho h hO hq q1 o1 hb0 qb
    go_enter Tryd.func24, Tryd.ntmps24
    go_wp2_with fail
    exact bodyPost_end (v := .tuple #[]) (by simp [results, Tryd.results24]) rfl ⟨rfl, ⟨v, Q1.out, O1.out⟩, HB0.out.mono hl1, (Yours.refl w).alloc _, KeepsOthers.alloc w _⟩
end Go.Proofs.YtfapipamohlniaaDoor

namespace Go.Proofs.YtfapipamohlniaaDoor
open Go.RowKit
attribute [local go_sem] Oper.semAt_some

def flP (l : List (Nat × Nat)) : List (Nat × Nat) := l.filter fun p => decide (p.1 ≤ p.2)
theorem flP_snoc (l : List (Nat × Nat)) (x : Nat × Nat) : flP (l ++ [x]) = flP l ++ oneP x.1 x.2 := by
  unfold flP oneP
  rw [List.filter_append]
  by_cases h : x.1 ≤ x.2 <;> simp [h]
theorem flP_len (l : List (Nat × Nat)) : (flP l).length ≤ l.length := List.length_filter_le _ _
theorem want_len {b : List UInt8} {ps : List Nat} {en : Nat} {ends : Bool} {last : Nat} : ∀ (fr a : Nat) (l : List Nat), (wantGo b ps en ends last fr a l).length ≤ l.length + 1
  | fr, a, [] => by unfold wantGo; split <;> simp
  | fr, a, o :: r => by
    unfold wantGo
    rw [List.length_append, List.length_cons]
    have := want_len (b := b) (ps := ps) (en := en) (ends := ends) (last := last) (numH (b.drop o) 3 + 1) o r
    split <;> simp <;> omega
theorem strange_case (b : List UInt8) (id : Nat) (s : Sc) (x y : Sl) (n : Nat) (hy : sealS b id s = y) (hn : n = s.fd.length) :
    (strangeS b id s x = true ∧ ((((y.id : Int) != (x.id : Int)) = true) ∨ (((y.id : Int) != (x.id : Int)) = false ∧ (0 : Int) < (n : Int) ∧ (y.first : Int) < (x.first : Int)) ∨ (((y.id : Int) != (x.id : Int)) = false ∧ (0 : Int) < (n : Int) ∧ ¬ (y.first : Int) < (x.first : Int) ∧ (x.last : Int) < (y.last : Int)))) ∨
    (strangeS b id s x = false ∧ ((((y.id : Int) != (x.id : Int)) = false ∧ ¬ (0 : Int) < (n : Int)) ∨ (((y.id : Int) != (x.id : Int)) = false ∧ (0 : Int) < (n : Int) ∧ ¬ (y.first : Int) < (x.first : Int) ∧ ¬ (x.last : Int) < (y.last : Int)))) := by
  unfold strangeS
  rw [hy]
  have hid : y.id = id := by rw [← hy]; rfl
  have e : ((y.id : Int) != (x.id : Int)) = decide (id ≠ x.id) := by
    rw [hid]
    by_cases h : id = x.id
    · rw [h]; simp
    · have : (id : Int) ≠ (x.id : Int) := by omega
      simp [h, this]
  rw [e]
  by_cases h1 : id = x.id
  · by_cases h2 : s.fd = []
    · right
      have : n = 0 := by rw [hn, h2]; rfl
      exact ⟨by simp [h1, h2], .inl ⟨by simp [h1], by omega⟩⟩
    · have h3 : 0 < n := by rw [hn]; exact List.length_pos_iff.2 h2
      by_cases h4 : y.first < x.first
      · left; exact ⟨by simp [h1, h2, h4], .inr (.inl ⟨by simp [h1], by omega, by omega⟩)⟩
      · by_cases h5 : x.last < y.last
        · left; exact ⟨by simp [h1, h2, h4, h5], .inr (.inr ⟨by simp [h1], by omega, by omega, by omega⟩)⟩
        · right; exact ⟨by simp [h1, h2, h4]; omega, .inr ⟨by simp [h1], by omega, by omega, by omega⟩⟩
  · left; exact ⟨by simp [h1], .inl (by simp [h1])⟩
def addV (g5 : Nat) : Value := .func (.func 24) #[] #[.pointer (some ⟨g5, 0, none⟩)]
/-- what a round of Lost keeps -/
def LostI (lo g5 g6 : Nat) (w0 : World) (pre : List (Nat × Nat)) (W : World) : Prop := Blk W g6 76 #[addV g5] ∧ RowP lo g5 (flP pre) W ∧ Below lo w0 W
theorem LostI.mine {lo g5 g6 : Nat} {w0 : World} {pre : List (Nat × Nat)} {A C : World} {B : Nat} (h : LostI lo g5 g6 w0 pre A) (hm : Mine B tsW A C) (hB : lo ≤ B) (hA : lo ≤ A.heap.size) : LostI lo g5 g6 w0 pre C := by
  obtain ⟨h1, ⟨v, h2, h3⟩, h4⟩ := h
  exact ⟨hm.blk h1 rfl, ⟨v, hm.blk h2 rfl, hm.own h3 rfl⟩, hm.below h4 hB hA⟩
theorem LostI.put {lo g5 g6 : Nat} {w0 : World} {pre : List (Nat × Nat)} {A : World} (h : LostI lo g5 g6 w0 pre A) {k : Nat} {o o' : Obj} (hk : A.heap[k]? = some o) (ho : o.isCells = false) (hlo : lo ≤ k) : LostI lo g5 g6 w0 pre (A.putObj k o') := by
  obtain ⟨h1, ⟨v, h2, h3⟩, h4⟩ := h
  exact ⟨h1.put hk ho, ⟨v, h2.put hk ho, h3.put hk ho⟩, below_put h4 hk hlo⟩
theorem LostI.alloc {lo g5 g6 : Nat} {w0 : World} {pre : List (Nat × Nat)} {A : World} (h : LostI lo g5 g6 w0 pre A) (hA : lo ≤ A.heap.size) (o : Obj) : LostI lo g5 g6 w0 pre (A.alloc o) := by
  obtain ⟨h1, ⟨v, h2, h3⟩, h4⟩ := h
  exact ⟨h1.alloc o, ⟨v, h2.alloc o, Ow.alloc h3 o⟩, h4.alloc hA o⟩
def RetLost (l : List (Nat × Nat)) (w : World) (e : Ending) (w' : World) : Prop := ∃ v, e = .returned v ∧ Ow w' w.heap.size 53 2 v l.length (pcells l) ∧ Below w.heap.size w w'

theorem RowP.after {lo g5 : Nat} {l : List (Nat × Nat)} {w w' : World} (h : RowP lo g5 l w) (hb : Below w.heap.size w w') : RowP lo g5 l w' := by
  obtain ⟨v, h1, h2⟩ := h
  exact ⟨v, h1.after hb, Ow.after h2 hb⟩
theorem lostS_strange {b : List UInt8} {id : Nat} {s : Sc} {x : Sl} (h : x.many ≠ 0) (hs : strangeS b id s x = true) : lostS b id s x = oneP x.first x.last := by
  unfold lostS oneP
  rw [if_neg h, hs, if_pos rfl]
theorem lostS_go {b : List UInt8} {id : Nat} {s : Sc} {x : Sl} (h : x.many ≠ 0) (hs : strangeS b id s x = false) (hi : ScInv b s) : lostS b id s x = flP (wantGo b s.ps s.en (endsS b id s x) x.last x.first 0 s.fd) := by
  unfold lostS flP
  rw [if_neg h, hs, if_neg (by simp)]
  exact lostGo_want _ _ _ fun o ho => (mayG_seq (hi.fd o ho).2.2.2.2.1).1
set_option maxRecDepth 100000 in
set_option maxHeartbeats 1000000 in
theorem wanting_any (id : Nat) (s : Sc) (vF vP : Value) (x : Sl) (w : World) :
    Calls Tryd.prog 25 #[.agg (scCells id s vF vP), .agg (slCells x)] w fun e w' => e = .returned (.func (.func 36) #[] #[.pointer (some ⟨w.heap.size, 0, none⟩), .pointer (some ⟨w.heap.size + 1, 0, none⟩)]) ∧ w' = (w.alloc (.cells (scCells id s vF vP) 33)).alloc (.cells (slCells x) 39) := by
  unfold scCells slCells
  go_enter Tryd.func25, Tryd.ntmps25
  go_wp2_with fail
  go_ret
  exact ⟨rfl, rfl⟩
set_option maxRecDepth 100000 in
set_option maxHeartbeats 4000000 in
theorem lost_any (b : List UInt8) (lo : Nat) (id : Nat) (s : Sc) (vF vP : Value) (X : List FX) (x : Sl) (w : World) (hS : ScRow lo b id s vF vP X w) (hi : ScInv b s) (hsz : s.en ≤ 20000000) (hn : s.fd.length + s.ps.length ≤ 1000000) :
    Calls Tryd.prog 10 #[.agg (scCells id s vF vP), .agg (slCells x)] w (RetLost (lostS b id s x) w) := by
  obtain ⟨AF, cF, rfl⟩ := own_slice hS.2.1
  obtain ⟨AP, cP, rfl⟩ := own_slice hS.2.2.1
  refine callsIn_wide (n := 12) |>.1 (callsIn_of_wp_marks Tryd.func10 rfl trivial ?_ rfl)
  simp only [Tryd.ntmps10, List.size_toArray, List.length_cons, List.length_nil, Nat.reduceAdd, Nat.reduceSub, Array.replicate_succ, Array.replicate_zero, List.push_toArray, List.append_toArray, List.nil_append, List.cons_append]
  have q2 := (Blk.new w 33 (scCells id s (.slice AF X.length cF) (.slice AP s.ps.length cP))).alloc (.cells (slCells x) 39)
  have q3 := Blk.newAt (w.alloc (.cells (scCells id s (.slice AF X.length cF) (.slice AP s.ps.length cP)) 33)) 39 (slCells x) (g := w.heap.size + 1) (by simp)
  have hb := belowAlloc (belowAlloc (Below.refl _ w) (.cells (scCells id s (.slice AF X.length cF) (.slice AP s.ps.length cP)) 33)) (.cells (slCells x) 39)
  have hS2 := hS.after hb
  have c32 := q3.cell 2
  simp only [scCells, slCells] at q2 q3 hb hS2 c32
  unfold scCells slCells
  by_cases hm : x.many = 0
  · have i1 : ((x.many : Int) == 0) = true := by simp; omega
    have hL : lostS b id s x = [] := by unfold lostS; rw [if_pos hm]
    have HL := Lib.hid hL
    have HB := Lib.hid hb
    clear hm hL hb q2 q3 hS2
    gi_wp2_with fail
    unfold RetLost
    rw [HL.out]
    exact ⟨_, results_tmp rfl _ _ _, .slice none 0 0, rfl, World.ownsRow_nil _ _ _ _, HB.out⟩
  · have i1 : ((x.many : Int) == 0) = false := by simp; omega
    have hz2 : ((w.alloc (.cells #[.int .u32 (id : Int), .slice AF X.length cF, .slice AP s.ps.length cP, .int .i64 (s.en : Int), .int .i64 (s.wy : Int)] 33)).alloc (.cells #[.int .u32 (x.id : Int), .int .u32 (x.size : Int), .int .u32 (x.many : Int), .int .u64 (x.first : Int), .int .u64 (x.last : Int)] 39)).heap.size = w.heap.size + 1 + 1 := by simp
    have q2 := (q2.alloc (.cells #[.slice none 0 0] 35)).alloc (.cells #[.func (.func 24) #[] #[.pointer (some ⟨w.heap.size + 1 + 1, 0, none⟩)]] 76)
    have q3 := (q3.alloc (.cells #[.slice none 0 0] 35)).alloc (.cells #[.func (.func 24) #[] #[.pointer (some ⟨w.heap.size + 1 + 1, 0, none⟩)]] 76)
    have q5 := (Blk.newAt ((w.alloc (.cells #[.int .u32 (id : Int), .slice AF X.length cF, .slice AP s.ps.length cP, .int .i64 (s.en : Int), .int .i64 (s.wy : Int)] 33)).alloc (.cells #[.int .u32 (x.id : Int), .int .u32 (x.size : Int), .int .u32 (x.many : Int), .int .u64 (x.first : Int), .int .u64 (x.last : Int)] 39)) 35 #[.slice none 0 0] (g := w.heap.size + 1 + 1) hz2.symm).alloc (.cells #[.func (.func 24) #[] #[.pointer (some ⟨w.heap.size + 1 + 1, 0, none⟩)]] 76)
    have q6 := Blk.newAt (((w.alloc (.cells #[.int .u32 (id : Int), .slice AF X.length cF, .slice AP s.ps.length cP, .int .i64 (s.en : Int), .int .i64 (s.wy : Int)] 33)).alloc (.cells #[.int .u32 (x.id : Int), .int .u32 (x.size : Int), .int .u32 (x.many : Int), .int .u64 (x.first : Int), .int .u64 (x.last : Int)] 39)).alloc (.cells #[.slice none 0 0] 35)) 76 #[.func (.func 24) #[] #[.pointer (some ⟨w.heap.size + 1 + 1, 0, none⟩)]] (g := w.heap.size + 1 + 1 + 1) (by simp)
    have hb := belowAlloc (belowAlloc hb (.cells #[.slice none 0 0] 35)) (.cells #[.func (.func 24) #[] #[.pointer (some ⟨w.heap.size + 1 + 1, 0, none⟩)]] 76)
    have hS3 := (hS2.after ((Below.refl _ ((w.alloc (.cells #[.int .u32 (id : Int), .slice AF X.length cF, .slice AP s.ps.length cP, .int .i64 (s.en : Int), .int .i64 (s.wy : Int)] 33)).alloc (.cells #[.int .u32 (x.id : Int), .int .u32 (x.size : Int), .int .u32 (x.many : Int), .int .u64 (x.first : Int), .int .u64 (x.last : Int)] 39))).alloc (Nat.le_refl _) (.cells #[.slice none 0 0] 35))).after ((Below.refl _ _).alloc (Nat.le_refl _) (.cells #[.func (.func 24) #[] #[.pointer (some ⟨w.heap.size + 1 + 1, 0, none⟩)]] 76))
    have hz3 : ((((w.alloc (.cells #[.int .u32 (id : Int), .slice AF X.length cF, .slice AP s.ps.length cP, .int .i64 (s.en : Int), .int .i64 (s.wy : Int)] 33)).alloc (.cells #[.int .u32 (x.id : Int), .int .u32 (x.size : Int), .int .u32 (x.many : Int), .int .u64 (x.first : Int), .int .u64 (x.last : Int)] 39)).alloc (.cells #[.slice none 0 0] 35)).alloc (.cells #[.func (.func 24) #[] #[.pointer (some ⟨w.heap.size + 1 + 1, 0, none⟩)]] 76)).heap.size = w.heap.size + 4 := by simp
    have HS3 := Lib.hid hS3
    have HI := Lib.hid hi
    have HB := Lib.hid hb
    have Q2 := Lib.hid q2
    have Q3 := Lib.hid q3
    have Q5 := Lib.hid q5
    have Q6 := Lib.hid q6
    have HZ := Lib.hid hz3
    have s0 := q2.cell 0
    have s1 := q2.cell 1
    have s2 := q2.cell 2
    have s3 := q2.cell 3
    have s4 := q2.cell 4
    clear hS3 hS2 hi hb q2 q3 q5 q6 hz3 hz2 hS
    gi_wp2_with fail
    generalize (((w.alloc (.cells #[.int .u32 (id : Int), .slice AF X.length cF, .slice AP s.ps.length cP, .int .i64 (s.en : Int), .int .i64 (s.wy : Int)] 33)).alloc (.cells #[.int .u32 (x.id : Int), .int .u32 (x.size : Int), .int .u32 (x.many : Int), .int .u64 (x.first : Int), .int .u64 (x.last : Int)] 39)).alloc (.cells #[.slice none 0 0] 35)).alloc (.cells #[.func (.func 24) #[] #[.pointer (some ⟨w.heap.size + 1 + 1, 0, none⟩)]] 76) = w3 at *
    have HS := Lib.hid (seal_any lo b id s (.slice AF X.length cF) (.slice AP s.ps.length cP) X w3 HS3.out hsz hn)
    obtain ⟨y, hy⟩ : ∃ y, sealS b id s = y := ⟨_, rfl⟩
    rw [hy] at HS
    have HY := Lib.hid hy
    simp only [scCells, slCells] at HS
    clear hy s0 s1 s2 s3 s4 c32
    refine ⟨trivial, (callsIn_wide.2 HS.out).mono ?_⟩
    rintro e w4 ⟨rfl, b4⟩
    have hyi : y.id = id := by rw [← HY.out]; rfl
    have q7 := Blk.newAt w4 39 (slCells y) (g := w4.heap.size) rfl
    have b5 := b4.alloc b4.size (.cells (slCells y) 39)
    have q2 := Q2.out.after b5
    have q3 := Q3.out.after b5
    have q5 := Q5.out.after b5
    have q6 := Q6.out.after b5
    have hb := belowGo HB.out b5
    have hS5 := HS3.out.after b5
    have hz5 := b5.size
    rw [HZ.out] at hz5
    clear b4 b5 Q2 Q3 Q5 Q6 HB HS3 HZ HS
    have hc := strange_case b id s x y X.length HY.out (by rw [← hS5.1, List.length_map])
    obtain ⟨gy, hgy⟩ : ∃ g, g = w4.heap.size := ⟨_, rfl⟩
    rw [← hgy] at q7
    simp only [slCells] at q7 q2 q3 q5 q6 hb hS5 hz5
    have hm' : x.many ≠ 0 := hm
    have hlo5 : w.heap.size ≤ (w4.alloc (.cells #[.int .u32 (y.id : Int), .int .u32 (y.size : Int), .int .u32 (y.many : Int), .int .u64 (y.first : Int), .int .u64 (y.last : Int)] 39)).heap.size := by omega
    have hR : RowP w.heap.size (w.heap.size + 1 + 1) [] (w4.alloc (.cells #[.int .u32 (y.id : Int), .int .u32 (y.size : Int), .int .u32 (y.many : Int), .int .u64 (y.first : Int), .int .u64 (y.last : Int)] 39)) := ⟨_, q5, World.ownsRow_nil _ _ _ _⟩
    have HY2 := Lib.hid hyi
    have HQ2 := Lib.hid q2
    have HQ3 := Lib.hid q3
    have Q6 := Lib.hid q6
    have HB := Lib.hid hb
    have HS5 := Lib.hid hS5
    have q30 := q3.cell 0
    have q33 := q3.cell 3
    have q34 := q3.cell 4
    have q60 := q6.cell 0
    have q70 := q7.cell 0
    have q73 := q7.cell 3
    have q74 := q7.cell 4
    have q21 := q2.cell 1
    clear hyi q2 q3 q5 q6 q7 hb hS5
    rcases hc with ⟨hs, hc⟩ | ⟨hs, hc⟩
    · have HL := Lib.hid (lostS_strange hm hs)
      clear hs hm hm'
      rcases hc with i2 | ⟨i2, i3, i4⟩ | ⟨i2, i3, i4, i5⟩
      all_goals
        gi_wp2_with fail
        rw [← hgy] at *
        clear q30 q33 q34 q60 q70 q73 q74 q21
        have HA := fun W (h : RowP w.heap.size (w.heap.size + 1 + 1) [] W) => Lib.hid (add_any w.heap.size x.first x.last (w.heap.size + 1 + 1) [] W h (by omega) (by simp))
        refine ⟨trivial, (callsIn_wide.2 (HA _ hR).out).mono ?_⟩
        rintro e w6 ⟨rfl, ⟨v, h1, h2⟩, h3, h4, h5⟩
        simp only [List.nil_append] at h1 h2
        obtain ⟨A6, c6, rfl⟩ := own_slice h2
        have k6 := h1.cell 0
        have hb := HB.out.trans h3
        have H2 := Lib.hid h2
        have HB2 := Lib.hid hb
        clear h1 h2 h3 h4 h5 hb hR HB
        gi_wp2_with fail
        unfold RetLost
        rw [HL.out]
        exact ⟨_, results_tmp rfl _ _ _, .slice A6 (oneP x.first x.last).length c6, rfl, H2.out, HB2.out⟩
    · have HL := Lib.hid (lostS_go hm hs HI.out)
      clear hs hm hm'
      have hlen : (wantGo b s.ps s.en (endsS b id s x) x.last x.first 0 s.fd).length ≤ 1000001 := by
        have := want_len (b := b) (ps := s.ps) (en := s.en) (ends := endsS b id s x) (last := x.last) x.first 0 s.fd
        omega
      have q20 := HQ2.out.cell 0
      have q22 := HQ2.out.cell 2
      have q23 := HQ2.out.cell 3
      have q24 := HQ2.out.cell 4
      have q31 := HQ3.out.cell 1
      have q32 := HQ3.out.cell 2
      have q50 := hR
      have Q60 := Lib.hid q60
      rcases hc with ⟨i2, i3⟩ | ⟨i2, i3, i4, i5⟩
      all_goals
        gi_wp2_with fail
        rw [← hgy] at *
        clear q30 q33 q34 q60 q70 q73 q74 q21 q20 q22 q23 q24 q31 q32 q50 hgy
        generalize (w4.alloc (.cells #[.int .u32 (y.id : Int), .int .u32 (y.size : Int), .int .u32 (y.many : Int), .int .u64 (y.first : Int), .int .u64 (y.last : Int)] 39)) = w5 at *
        have HA := fun W => Lib.hid (wanting_any id s (.slice AF X.length cF) (.slice AP s.ps.length cP) x W)
        refine ⟨trivial, (callsIn_wide.2 (HA w5).out).mono ?_⟩
        rintro e w6 ⟨rfl, hw6⟩
        clear HA
        have hm6 : Below w5.heap.size w5 w6 := by rw [hw6]; exact belowAlloc (belowAlloc (Below.refl _ w5) _) _
        have hz6 : w6.heap.size = w5.heap.size + 2 := by rw [hw6]; simp
        have hWt : WtF w6.heap.size lo b id s (.slice AF X.length cF) (.slice AP s.ps.length cP) X w5.heap.size (w5.heap.size + 1) x w6 := by
          have hr := HS5.out.after hm6
          refine ⟨hr.1, ?_, ?_, hr.2.1, hr.2.2.1, by omega, by omega, Ow.hi hr.2.1, Ow.hi hr.2.2.1, fun x hx => ⟨hr.2.2.2 x hx, (hr.2.2.2 x hx).1.lt, (hr.2.2.2 x hx).2.1.lt⟩⟩
          · rw [hw6]; exact (Blk.new w5 33 (scCells id s (.slice AF X.length cF) (.slice AP s.ps.length cP))).alloc _
          · rw [hw6]; exact Blk.newAt _ 39 (slCells x) (by simp)
        have hI0 : LostI w.heap.size (w.heap.size + 1 + 1) (w.heap.size + 1 + 1 + 1) w [] w6 := ⟨Q6.out.after hm6, hR.after hm6, belowGo HB.out hm6⟩
        have hq := want_seq 11 (by omega) w6.heap.size lo b id s (.slice AF X.length cF) (.slice AP s.ps.length cP) X w5.heap.size (w5.heap.size + 1) x w6 hWt HI.out hsz hn (Nat.le_refl _)
        obtain ⟨g0, hg0⟩ : ∃ g, g = w5.heap.size := ⟨_, rfl⟩
        rw [← hg0] at hq hz6 ⊢
        have hlo6 : w.heap.size ≤ w6.heap.size := by omega
        generalize wantGo b s.ps s.en (endsS b id s x) x.last x.first 0 s.fd = xs at *
        clear hw6 hm6 hWt HQ2 HQ3 hR HS5 HB Q6 Q60 hg0 hlo5
        have HQ := Lib.hid hq
        have HI0 := Lib.hid hI0
        clear hq hI0
        gi_wp2_with fail
        refine wpIn_rangeXA rfl (by omega) (gf := 36) (lb := #[.pointer (some ⟨g0, 0, none⟩), .pointer (some ⟨g0 + 1, 0, none⟩)]) rfl trivial (enters_of Tryd.func36 (by kernel_rfl) rfl)
          (encs := encP) (ts := tsW) (xs := xs) HQ.out (fun _ => rfl) (LostI w.heap.size (w.heap.size + 1 + 1) (w.heap.size + 1 + 1 + 1) w) ?hI ?hIp HI0.out
          (fun tm x a' W => ∃ gp, Blk W gp 53 #[.int .u64 (x.1 : Int), .int .u64 (x.2 : Int)] ∧ a' = { tmps := (tm.setIfInBounds 51 (.agg #[.int .u64 (x.1 : Int), .int .u64 (x.2 : Int)])).setIfInBounds 8 (.pointer (some ⟨gp, 0, none⟩)), defers := [] }) ?hAx ?assign ?body ?done
        case hI =>
          intro s' A C h hm
          exact h.mine hm hlo6 h.2.2.size
        case hIp =>
          intro s' A k o o' h hk1 hk2 hk3
          exact h.put hk2 hk3 (by omega)
        case hAx =>
          rintro tm x a' A k o o' ⟨gp, h1, h2⟩ hk1 hk2 hk3
          exact ⟨gp, h1.put hk2 hk3, h2⟩
        case assign =>
          rintro l pre ⟨p1, p2⟩ W K hi hK
          unfold encP
          have HH := Lib.hid hi
          clear hi
          gi_wp2_with fail
          exact hK _ _ (KeepsOthers.alloc _ _) ((Yours.refl _).alloc _) (HH.out.alloc HH.out.2.2.size _) ⟨W.heap.size, Blk.new _ _ _, rfl⟩
        case body =>
          rintro l pre ⟨p1, p2⟩ a' W ⟨h1, h2, h3⟩ ⟨gp, hp, rfl⟩ hpre
          have hpl : (flP pre).length ≤ 2000000 := by
            have := hpre.length_le
            have := flP_len pre
            rw [List.length_append] at *
            omega
          have HA := Lib.hid (add_any w.heap.size p1 p2 (w.heap.size + 1 + 1) (flP pre) W h2 (by omega) hpl)
          have k6 := h1.cell 0
          have kp0 := hp.cell 0
          have kp1 := hp.cell 1
          unfold addV at k6
          have H1 := Lib.hid h1
          have H3 := Lib.hid h3
          clear hpl h2 h1 hp h3
          gi_wp2_with fail
          refine ⟨trivial, (CallsIn.inRound l (callsIn_wide.2 HA.out)).mono ?_⟩
          rintro e W2 ⟨rfl, hR2, hb2, hy2, hk2⟩
          gi_wp2_with fail
          exact ⟨hk2, hy2.less tsW_A, hy2.blk H1.out rfl, by rw [flP_snoc]; exact hR2, H3.out.trans hb2⟩
        case done =>
          rintro D W hD ⟨h1, ⟨v, h2, h4⟩, h3⟩ hK
          obtain ⟨A6, c6, rfl⟩ := own_slice h4
          have k6 := h2.cell 0
          have H4 := Lib.hid h4
          have H3 := Lib.hid h3
          clear h1 h2 h3 h4
          gi_wp2_with fail
          refine ⟨by simp, .inl ⟨_, _, rfl, run_takeDeferred hK, ?_⟩⟩
          unfold RetLost
          rw [HL.out]
          exact ⟨_, results_tmp rfl _ _ _, .slice A6 (flP xs).length c6, rfl, H4.out.put hK rfl, below_put H3.out hK (by omega)⟩
end Go.Proofs.YtfapipamohlniaaDoor
