/- Numbers in bytes, the least first: there and back. Plain laws, no condition. -/
import Derived.Test.YtfapipamohlniaaDoorPfx
namespace Go.Proofs.YtfapipamohlniaaDoor
open Go.RowKit

theorem le_cons (m k : Nat) : le m (k + 1) = UInt8.ofNat m :: le (m / 256) k := by
  unfold le
  rw [List.range_succ_eq_map, List.map_cons, List.map_map]
  congr 1
  · simp
  · apply List.map_congr_left
    intro i _
    simp only [Function.comp]
    congr 1
    rw [show 8 * (i + 1) = 8 + 8 * i by omega, Nat.pow_add, ← Nat.div_div_eq_div_mul]
theorem le_numLE : ∀ s : List UInt8, le (numLE s) s.length = s
  | [] => rfl
  | c :: s => by
    have hc := c.toNat_lt
    rw [List.length_cons, le_cons, numLE_cons, show (c.toNat + 256 * numLE s) / 256 = numLE s by omega, le_numLE s]
    congr 1
    apply UInt8.toNat_inj.1
    simp only [UInt8.toNat_ofNat']
    omega
theorem numLE_le : ∀ (k m : Nat), m < 2 ^ (8 * k) → numLE (le m k) = m
  | 0, m, h => by have : m = 0 := by simpa using h
                  subst this; rfl
  | k + 1, m, h => by
    rw [le_cons, numLE_cons, numLE_le k (m / 256) (by
      rw [show 8 * (k + 1) = 8 * k + 8 by omega, Nat.pow_add] at h
      exact Nat.div_lt_of_lt_mul (by rw [Nat.mul_comm]; exact h))]
    simp only [UInt8.toNat_ofNat']
    omega
end Go.Proofs.YtfapipamohlniaaDoor
