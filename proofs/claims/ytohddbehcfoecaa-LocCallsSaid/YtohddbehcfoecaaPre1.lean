/- What prefix.Size and the folds come to. For every number. -/
import Derived.Test.YtohddbehcfoecaaBit
namespace Go.Proofs.Ytohddbehcfoecaa
open Go.RowKit

theorem ret_bool {a b : Bool} (h : a = b) : Ending.returned (.bool a) = .returned (.bool b) := by rw [h]
theorem ret_int {k : IntKind} {a b : Int} (h : a = b) : Ending.returned (.int k a) = .returned (.int k b) := by rw [h]
def psize (n : Nat) : Nat := if n < 128 then 1 else if n < 16384 then 2 else if n < 2097152 then 3 else if n < 268435456 then 4 else if n < 34359738368 then 5 else if n < 4398046511104 then 6 else if n < 562949953421312 then 7 else if n < 72057594037927936 then 8 else 9
theorem psize_pos (n : Nat) : 1 ≤ psize n := by unfold psize; (repeat' split) <;> omega
theorem psize_le (n : Nat) : psize n ≤ 9 := by unfold psize; (repeat' split) <;> omega
theorem psize_bits (n bl : Nat) (hn : n < 18446744073709551616) (h0 : 1 ≤ bl) (h1 : bl ≤ 64) (h2 : 2 ^ (bl - 1) ≤ n / 2 * 2 + 1) (h3 : n / 2 * 2 + 1 < 2 ^ bl) : min ((bl + 6) / 7) 9 = psize n := by
  have key : ∀ j, bl ≤ j ↔ n / 2 * 2 + 1 < 2 ^ j := fun j => by
    constructor
    · intro h
      exact Nat.lt_of_lt_of_le h3 (Nat.pow_le_pow_right (by omega) h)
    · intro h
      rcases Nat.lt_or_ge j bl with hb | hb
      · have := Nat.pow_le_pow_right (n := 2) (by omega) (show j ≤ bl - 1 by omega)
        omega
      · exact hb
  have k1 := key 7
  have k2 := key 14
  have k3 := key 21
  have k4 := key 28
  have k5 := key 35
  have k6 := key 42
  have k7 := key 49
  have k8 := key 56
  simp only [Nat.reducePow] at k1 k2 k3 k4 k5 k6 k7 k8
  clear key h2 h3
  unfold psize
  (repeat' split) <;> omega
def foldN (x : Int) : Nat := if 0 ≤ x then (2 * x).toNat else (-2 * x - 1).toNat
def unfoldN (n : Nat) : Int := if n % 2 = 0 then ((n / 2 : Nat) : Int) else -((n / 2 : Nat) : Int) - 1

theorem size_any (n : Nat) (hn : n < 18446744073709551616) (w : World) :
    Calls Try.prog 57 #[.int .u64 (n : Int)] w fun e w' => e = .returned (.int .i64 (psize n : Int)) ∧ w = w' := by
  have hor := or1 n hn
  obtain ⟨m, hm⟩ : ∃ m, m = n / 2 * 2 + 1 := ⟨_, rfl⟩
  have HL := Lib.hid (Try.bits_Len64 (m : Int) w (by omega) (by omega))
  have hbl := bitLen_bounds m (by omega) (by omega)
  rw [Int.toNat_natCast] at HL
  obtain ⟨bl, hb⟩ : ∃ bl, bl = Lib.bitLen m := ⟨_, rfl⟩
  rw [← hb] at HL hbl
  rw [← hm] at hor
  have hps := psize_bits n bl hn hbl.1 hbl.2.1 (by rw [← hm]; exact hbl.2.2.1) (by rw [← hm]; exact hbl.2.2.2)
  obtain ⟨hb1, hb2, -, -⟩ := hbl
  have hps' := Lib.hid hps
  clear hps hb hm
  go_enter Try.func57, Try.ntmps57
  go_wp2_with fail
  refine HL.out.mono ?_
  rintro e w' ⟨rfl, rfl⟩
  go_wp2
  go_ret
  exact ⟨ret_int (by have := hps'.out; omega), rfl⟩
end Go.Proofs.Ytohddbehcfoecaa
