/- Records, plainly: a run is read as it was, its beginnings are torn, turned bits are told. Plain Lean, no condition. -/
import Derived.Test.YtfapipamohlniaaDoorRec6
namespace Go.Proofs.YtfapipamohlniaaDoor

theorem partR_more (L : List Nat) (j : Nat) : ∀ i, ∃ rest, partR L (j + i) = partR L j ++ rest
  | 0 => ⟨[], by simp⟩
  | i + 1 => by
    obtain ⟨r, h⟩ := partR_more L j i
    exact ⟨r ++ le (numR L (j + i)) (sizeC (j + i)), by rw [← Nat.add_assoc, partR_succ, h, List.append_assoc]⟩
theorem lenP_six {j : Nat} (h : j < 6) : lenP j + sizeC j ≤ 17 := by
  have all : ∀ j : Fin 6, lenP j.val + sizeC j.val ≤ 17 := by decide
  exact all ⟨j, h⟩
/-- a head's numbers are told -/
theorem numH_of {l : List UInt8} {L : List Nat} (h : l.take 17 = partR L 6) {j : Nat} (hj : j < 6) (hf : numR L j < 2 ^ (8 * sizeC j)) : numH l j = numR L j := by
  have h17 := lenP_six hj
  obtain ⟨r, hr⟩ := partR_more L (j + 1) (6 - (j + 1))
  rw [show j + 1 + (6 - (j + 1)) = 6 by omega, partR_succ L j] at hr
  have e : (l.drop (lenP j)).take (sizeC j) = ((l.take 17).drop (lenP j)).take (sizeC j) := by
    rw [List.drop_take, List.take_take, Nat.min_eq_left (by omega)]
  unfold numH
  rw [e, h, hr, List.append_assoc, List.drop_append_of_le_length (by rw [partR_len L j (by omega)]; exact Nat.le_refl _), List.drop_of_length_le (by rw [partR_len L j (by omega)]; exact Nat.le_refl _), List.nil_append,
    List.take_append_of_le_length (by rw [le_len]; exact Nat.le_refl _), List.take_of_length_le (by rw [le_len]; exact Nat.le_refl _), numLE_le _ _ hf]

theorem rightL_cover (l : List UInt8) : rightL (coverC l) = true := by
  unfold rightL
  rw [coverC_len, Nat.add_sub_cancel]
  have : (coverC l).take l.length = l := by unfold coverC; rw [List.take_append_of_le_length (Nat.le_refl _), List.take_of_length_le (Nat.le_refl _)]
  rw [this]
  simp
theorem rightL_iff {l : List UInt8} (h : 4 ≤ l.length) : rightL l = true ↔ runC 4294967295 l = restC := by
  unfold rightL
  rw [beq_iff_eq]
  constructor
  · intro e
    rw [← e]
    exact cover_rest _
  · intro e
    have e2 := (right_iff (l.take (l.length - 4)) (l.drop (l.length - 4)) (by rw [List.length_drop]; omega)).2 (by rw [List.take_append_drop]; exact e)
    unfold coverC
    rw [← e2, List.take_append_drop]
/-- bits turned in what is right: it is right no more -/
theorem rightL_turned {a b : List UInt8} (h4 : 4 ≤ a.length) (hl : a.length = b.length) (ha : rightL a = true) (m p : Nat) (hm : m < 4294967296) (h0 : m ≠ 0) (hp : p ≤ 8 * a.length) (hx : numL b = numL a ^^^ (m * 2 ^ p)) : rightL b = false := by
  rcases Bool.eq_false_or_eq_true (rightL b) with h | h
  · exfalso
    rw [rightL_iff h4] at ha
    rw [rightL_iff (by omega)] at h
    exact turned a b hl m p hm h0 hp hx 4294967295 (ha.trans h.symm)
  · exact h

section
variable {q k : Nat} {a b : List UInt8} {s o : Nat} (hm : mayR q (k : Int) a.length b.length s o = true)
/-- what begins with a record's head, as it was laid -/
def headC (q k n m s o : Nat) : List UInt8 := coverC (headR q k n m s o)
theorem headC_len (q k n m s o : Nat) : (headC q k n m s o).length = 21 := by unfold headC; rw [coverC_len, headR_len]
theorem run_head (q k : Nat) (a b : List UInt8) (s o : Nat) : (runR q k a b s o).take 21 = headC q k a.length b.length s o := by
  have h := headC_len q k a.length b.length s o
  unfold runR
  unfold headC at h ⊢
  generalize coverC (headR q k a.length b.length s o) = H at *
  unfold coverC
  rw [List.append_assoc, List.append_assoc, List.take_append_of_le_length (by omega), List.take_of_length_le (by omega)]
theorem nums_of_head {n m : Nat} {l : List UInt8} (hm : mayR q (k : Int) n m s o = true) (h : l.take 21 = headC q k n m s o) :
    numH l 0 = k ∧ numH l 1 = n ∧ numH l 2 = m ∧ numH l 3 = q ∧ numH l 4 = s ∧ numH l 5 = o := by
  have h17 : l.take 17 = partR (numsR q k n m s o) 6 := by
    have : l.take 17 = (l.take 21).take 17 := by rw [List.take_take]; rfl
    rw [this, h]
    unfold headC coverC
    have hl := headR_len q k n m s o
    rw [List.take_append_of_le_length (by omega), List.take_of_length_le (by omega)]
    rfl
  have f := fun j hj => numH_of h17 (j := j) hj (numR_fits hm hj)
  exact ⟨f 0 (by omega), f 1 (by omega), f 2 (by omega), f 3 (by omega), f 4 (by omega), f 5 (by omega)⟩
/-- a head as it was laid: what is told of the rest -/
theorem getS_head {n m : Nat} {l : List UInt8} (hm : mayR q (k : Int) n m s o = true) (h21 : 21 ≤ l.length) (h : l.take 21 = headC q k n m s o) :
    getS l = if l.length < 25 + n + m then (0, 22) else if rightL (l.take (25 + n + m)) = false then (25 + n + m, 23) else (25 + n + m, 0) := by
  obtain ⟨h0, h1, h2, h3, h4, h5⟩ := nums_of_head hm h
  unfold getS
  have hr : rightL (l.take 21) = true := by rw [h]; exact rightL_cover _
  have hg : mayG l = true := by unfold mayG; rw [h0, h1, h2, h3, h4, h5]; exact hm
  have hz : sizeG l = 25 + n + m := by unfold sizeG; rw [h1, h2]
  rw [if_neg (by omega), hr, if_neg (by simp), hg, if_neg (by simp), hz]
/-- a head that is turned: bad -/
theorem getS_bad {l : List UInt8} (h21 : 21 ≤ l.length) (h : rightL (l.take 21) = false) : getS l = (0, 23) := by
  unfold getS
  rw [if_neg (by omega), if_pos h]
theorem getS_short {l : List UInt8} (h : l.length < 21) : getS l = (0, 22) := by unfold getS; rw [if_pos h]
include hm in
theorem getS_run (r : List UInt8) : getS (runR q k a b s o ++ r) = (25 + a.length + b.length, 0) := by
  have hl := runR_len q k a b s o
  have hh := run_head q k a b s o
  have ht : (runR q k a b s o ++ r).take 21 = headC q k a.length b.length s o := by rw [List.take_append_of_le_length (by omega), hh]
  rw [getS_head hm (by rw [List.length_append]; omega) ht, if_neg (by rw [List.length_append]; omega), List.take_append_of_le_length (by omega), List.take_of_length_le (by omega)]
  unfold runR
  rw [rightL_cover]
  simp
theorem run_parts (q k : Nat) (a b : List UInt8) (s o : Nat) : ∃ z, runR q k a b s o = headC q k a.length b.length s o ++ (a ++ (b ++ z)) := by
  refine ⟨laidC (sumC (headC q k a.length b.length s o ++ a ++ b)), ?_⟩
  unfold runR headC
  generalize coverC (headR q k a.length b.length s o) = H
  unfold coverC
  simp only [List.append_assoc]
include hm in
theorem told_run (r : List UInt8) : keyG (runR q k a b s o ++ r) = a ∧ valG (runR q k a b s o ++ r) = b ∧ numH (runR q k a b s o ++ r) 0 = k ∧ numH (runR q k a b s o ++ r) 1 = a.length ∧ numH (runR q k a b s o ++ r) 2 = b.length ∧ numH (runR q k a b s o ++ r) 3 = q ∧ numH (runR q k a b s o ++ r) 4 = s ∧ numH (runR q k a b s o ++ r) 5 = o := by
  have hl := runR_len q k a b s o
  have hh := run_head q k a b s o
  have ht : (runR q k a b s o ++ r).take 21 = headC q k a.length b.length s o := by rw [List.take_append_of_le_length (by omega), hh]
  obtain ⟨h0, h1, h2, h3, h4, h5⟩ := nums_of_head hm ht
  obtain ⟨z, hz⟩ := run_parts q k a b s o
  have hc := headC_len q k a.length b.length s o
  refine ⟨?_, ?_, h0, h1, h2, h3, h4, h5⟩
  · unfold keyG
    rw [h1, hz, List.append_assoc, List.drop_left' hc, List.append_assoc, List.take_left' rfl]
  · unfold valG
    rw [h1, h2, hz, ← List.drop_drop, List.append_assoc, List.drop_left' hc, List.append_assoc, List.drop_left' rfl, List.append_assoc, List.take_left' rfl]
include hm in
/-- each beginning is torn -/
theorem getS_torn {j : Nat} (hj : j < 25 + a.length + b.length) : getS ((runR q k a b s o).take j) = (0, 22) := by
  have hl := runR_len q k a b s o
  have hlj : ((runR q k a b s o).take j).length = j := by rw [List.length_take]; omega
  by_cases h21 : j < 21
  · exact getS_short (by omega)
  · have ht : ((runR q k a b s o).take j).take 21 = headC q k a.length b.length s o := by rw [List.take_take, Nat.min_eq_left (by omega), run_head]
    rw [getS_head hm (by omega) ht, if_pos (by omega)]
end
end Go.Proofs.YtfapipamohlniaaDoor
