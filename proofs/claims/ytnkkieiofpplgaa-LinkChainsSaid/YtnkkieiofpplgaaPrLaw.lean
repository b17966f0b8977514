/- Prints: the plain law: Key tells back what Of was told; what it tells has that print. -/
import Derived.Test.YtnkkieiofpplgaaPkey
import Derived.Test.YtnkkieiofpplgaaKOk
namespace Go.Proofs.Ytnkkieiofpplgaa
open Go.RowKit

theorem wle_div : ∀ (a : List UInt8) (k : Nat), wle a / 256 ^ k % 256 = (a.getD k 0).toNat
  | [], k => by simp [wle]
  | u :: r, 0 => by
    have := u.toNat_lt
    simp only [wle, Nat.pow_zero, Nat.div_one, List.getD_cons_zero]
    omega
  | u :: r, k + 1 => by
    have := u.toNat_lt
    rw [List.getD_cons_succ, ← wle_div r k, wle, Nat.pow_succ, Nat.mul_comm (256 ^ k) 256, ← Nat.div_div_eq_div_mul]
    congr 2
    omega
theorem pb_key {l : List UInt8} {j : Nat} (hj : j < 64) : pb (pws l) j = l.getD j 0 := by
  have h8 : j / 8 < 8 := by omega
  have e : (pws l).getD (j / 8) 0 = prW l (j / 8) := by
    rw [List.getD, pws, List.getElem?_map, List.getElem?_range h8]
    rfl
  unfold pb
  rw [e]
  apply UInt8.toNat_inj.1
  rw [UInt8.toNat_ofNat', show (2 ^ 8 : Nat) = 256 from rfl, prW, wle_div]
  congr 1
  simp only [List.getD]
  rw [List.getElem?_take, if_pos (by omega), List.getElem?_drop]
  congr 2
  omega
theorem pkeyL_key {l : List UInt8} (h : l.length ≤ 64) : pkeyL l.length (pws l) = l := by
  unfold pkeyL
  apply List.ext_getElem
  · simp [pby]; omega
  · intro i h1 h2
    simp only [pby, List.getElem_take, List.getElem_map, List.getElem_range]
    rw [pb_key (by omega)]
    simp [List.getD, h2]
theorem pgood_key {l : List UInt8} (h1 : 1 ≤ l.length) (h : l.length ≤ 64) : pgood l.length (pws l) = true := by
  unfold pgood
  rw [pkeyL_key h, show min l.length 64 = l.length by omega]
  simp [mayB]
  omega
theorem pgood_of {L : Nat} {ws : List Nat} (h : pgood L ws = true) : mayB (min L 64) = true ∧ min L 64 = L ∧ pws (pkeyL L ws) = ws := by
  unfold pgood at h
  rw [Bool.and_eq_true, Bool.and_eq_true, beq_iff_eq, beq_iff_eq] at h
  exact h
end Go.Proofs.Ytnkkieiofpplgaa
