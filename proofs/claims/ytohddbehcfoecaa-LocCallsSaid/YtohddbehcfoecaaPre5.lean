/- What prefix.Fixed and Read come to. For every number, size and bytes. -/
import Derived.Test.YtohddbehcfoecaaPre4
namespace Go.Proofs.Ytohddbehcfoecaa
open Go.RowKit

def RetFixed (w : World) (E n : Nat) (xs : List Value) (code : Nat) (e : Ending) (w' : World) : Prop := ∃ v, e = .returned (.tuple #[v, .int .i64 (code : Int)]) ∧ w'.ownsRow w.heap.size E 1 v n xs ∧ Below w.heap.size w w'

theorem read_or (m u j : Nat) (hm : m < 2 ^ (8 * j)) (hu : u < 256) (hj : j < 8) : bits BinOp.or IntKind.u64 (m : Int) (IntKind.u64.wrap ((u : Int) * 2 ^ (8 * j))) = ((m + u * 2 ^ (8 * j) : Nat) : Int) := by
  have hc : j = 0 ∨ j = 1 ∨ j = 2 ∨ j = 3 ∨ j = 4 ∨ j = 5 ∨ j = 6 ∨ j = 7 := by omega
  rw [IntKind.wrap_u64]
  rcases hc with rfl | rfl | rfl | rfl | rfl | rfl | rfl | rfl
  all_goals simp only [Nat.reduceMul, Nat.reducePow, Int.reducePow] at hm ⊢
  · rw [bits_join_low .u64 64 (by decide) wraps_u64 0] <;> omega
  · rw [bits_join_low .u64 64 (by decide) wraps_u64 8] <;> omega
  · rw [bits_join_low .u64 64 (by decide) wraps_u64 16] <;> omega
  · rw [bits_join_low .u64 64 (by decide) wraps_u64 24] <;> omega
  · rw [bits_join_low .u64 64 (by decide) wraps_u64 32] <;> omega
  · rw [bits_join_low .u64 64 (by decide) wraps_u64 40] <;> omega
  · rw [bits_join_low .u64 64 (by decide) wraps_u64 48] <;> omega
  · rw [bits_join_low .u64 64 (by decide) wraps_u64 56] <;> omega
theorem numLE_64 (l : List UInt8) {j : Nat} (hj : j ≤ 8) : numLE (l.take j) < 18446744073709551616 := by
  have h1 := numLE_lt (l.take j)
  have h2 := Nat.pow_le_pow_right (n := 2) (by omega) (show 8 * (l.take j).length ≤ 64 by rw [List.length_take]; omega)
  omega
theorem numLE_8j (l : List UInt8) {j : Nat} (hj : j ≤ l.length) : numLE (l.take j) < 2 ^ (8 * j) := by
  have h1 := numLE_lt (l.take j)
  rwa [List.length_take, Nat.min_eq_left hj] at h1

end Go.Proofs.Ytohddbehcfoecaa
