/- What prefix.Fixed, Read and Narrow come to. For every number, size and bytes. -/
import Derived.Test.YtohddbehcfoecaaPre3
namespace Go.Proofs.Ytohddbehcfoecaa
open Go.RowKit

def le (m k : Nat) : List UInt8 := (List.range k).map fun i => UInt8.ofNat (m / 2 ^ (8 * i))
theorem le_len (m k : Nat) : (le m k).length = k := by simp [le]
theorem le_succ (m k : Nat) : le m (k + 1) = le m k ++ [UInt8.ofNat (m / 2 ^ (8 * k))] := by simp [le, List.range_succ]
def numLE (l : List UInt8) : Nat := l.foldr (fun c n => c.toNat + 256 * n) 0
theorem numLE_cons (c : UInt8) (l : List UInt8) : numLE (c :: l) = c.toNat + 256 * numLE l := rfl
theorem numLE_snoc (c : UInt8) : ∀ l : List UInt8, numLE (l ++ [c]) = numLE l + c.toNat * 2 ^ (8 * l.length)
  | [] => by simp [numLE]
  | d :: l => by
    rw [List.cons_append, numLE_cons, numLE_cons, numLE_snoc c l, List.length_cons, Nat.mul_add, Nat.mul_add 8, Nat.pow_add, ← Nat.add_assoc]
    congr 1
    rw [show 2 ^ (8 * 1) = 256 from rfl, ← Nat.mul_assoc (c.toNat), Nat.mul_comm 256]
theorem numLE_lt : ∀ l : List UInt8, numLE l < 2 ^ (8 * l.length)
  | [] => by simp [numLE]
  | d :: l => by
    have := numLE_lt l
    have hd := d.toNat_lt
    rw [numLE_cons, List.length_cons, Nat.mul_add, Nat.pow_add, show 2 ^ (8 * 1) = 256 from rfl]
    omega
theorem numLE_take (l : List UInt8) {j : Nat} (h : j < l.length) : numLE (l.take (j + 1)) = numLE (l.take j) + (l.getD j 0).toNat * 2 ^ (8 * j) := by
  rw [List.take_succ_eq_append_getElem h, numLE_snoc, List.length_take, Nat.min_eq_left (by omega)]
  simp [List.getD, h]
def fits (n : Nat) (s : Int) : Bool := decide (n < 2 ^ s.toNat)
def fixedOk (n : Nat) (s : Int) : Bool := decide (1 ≤ s) && decide (s ≤ 8) && fits n (8 * s)
def fixedB (a : List UInt8) (n : Nat) (s : Int) : List UInt8 := if fixedOk n s then a ++ le n s.toNat else []
def fixedE (n : Nat) (s : Int) : Nat := if s < 1 ∨ 8 < s then 1 else if fits n (8 * s) then 0 else 3
def readN (l : List UInt8) (s : Int) : Nat := if s < 1 ∨ 8 < s ∨ (l.length : Int) < s then 0 else numLE (l.take s.toNat)
def readE (l : List UInt8) (s : Int) : Nat := if s < 1 ∨ 8 < s then 1 else if (l.length : Int) < s then 4 else 0
def narrowN (n : Nat) (s : Int) : Nat := if s < 1 ∨ 32 < s then 0 else if fits n s then n else 0
def narrowE (n : Nat) (s : Int) : Nat := if s < 1 ∨ 32 < s then 1 else if fits n s then 0 else 3

theorem bitLen_fits (n : Nat) (hn : n < 18446744073709551616) (m : Nat) : (Lib.bitLen n ≤ m) ↔ n < 2 ^ m := by
  rcases Nat.eq_zero_or_pos n with rfl | h0
  · have := Nat.two_pow_pos m
    have e : Lib.bitLen 0 = 0 := by decide
    rw [e]
    omega
  · have ⟨a, b, c, d⟩ := bitLen_bounds n (by omega) hn
    constructor
    · intro h
      exact Nat.lt_of_lt_of_le d (Nat.pow_le_pow_right (by omega) h)
    · intro h
      rcases Nat.lt_or_ge m (Lib.bitLen n) with hb | hb
      · have := Nat.pow_le_pow_right (n := 2) (by omega) (show m ≤ Lib.bitLen n - 1 by omega)
        omega
      · exact hb
theorem below_any (n : Nat) (hn : n < 18446744073709551616) (s : Int) (h0 : 0 ≤ s) (w : World) :
    Calls Try.prog 60 #[.int .u64 (n : Int), .int .i64 s] w fun e w' => e = .returned (.bool (fits n s)) ∧ w = w' := by
  have HL := Lib.hid (Try.bits_Len64 (n : Int) w (by omega) (by omega))
  rw [Int.toNat_natCast] at HL
  have HB := Lib.hid (bitLen_fits n hn s.toNat)
  generalize Lib.bitLen n = bl at *
  go_enter Try.func60, Try.ntmps60
  go_wp2_with fail
  refine HL.out.mono ?_
  rintro e w1 ⟨rfl, rfl⟩
  go_wp2
  go_ret
  refine ⟨ret_bool ?_, rfl⟩
  unfold fits
  rw [decide_eq_decide, ← HB.out]
  omega
theorem narrow_any (n : Nat) (hn : n < 18446744073709551616) (s : Int) (w : World) :
    Calls Try.prog 47 #[.int .u64 (n : Int), .int .i64 s] w fun e w' => e = .returned (.tuple #[.int .u32 (narrowN n s), .int .i64 (narrowE n s)]) ∧ w = w' := by
  by_cases h1 : s < 1
  · have e1 : narrowN n s = 0 := by unfold narrowN; rw [if_pos (by omega)]
    have e2 : narrowE n s = 1 := by unfold narrowE; rw [if_pos (by omega)]
    rw [e1, e2]
    clear e1 e2
    go_enter Try.func47, Try.ntmps47
    go_wp2
    go_ret2
    exact ⟨rfl, rfl⟩
  · by_cases h2 : 32 < s
    · have e1 : narrowN n s = 0 := by unfold narrowN; rw [if_pos (by omega)]
      have e2 : narrowE n s = 1 := by unfold narrowE; rw [if_pos (by omega)]
      rw [e1, e2]
      clear e1 e2
      go_enter Try.func47, Try.ntmps47
      go_wp2
      go_ret2
      exact ⟨rfl, rfl⟩
    · have HB := below_any n hn s (by omega) w
      cases hf : fits n s with
      | false =>
        have e1 : narrowN n s = 0 := by unfold narrowN; rw [if_neg (by omega), if_neg (by rw [hf]; decide)]
        have e2 : narrowE n s = 3 := by unfold narrowE; rw [if_neg (by omega), if_neg (by rw [hf]; decide)]
        rw [e1, e2]
        rw [hf] at HB
        have HB' := Lib.hid HB
        clear e1 e2 HB hf
        go_enter Try.func47, Try.ntmps47
        go_wp2_with fail
        refine HB'.out.mono ?_
        rintro e w1 ⟨rfl, rfl⟩
        go_wp2
        go_ret2
        exact ⟨rfl, rfl⟩
      | true =>
        have e1 : narrowN n s = n := by unfold narrowN; rw [if_neg (by omega), if_pos (by rw [hf])]
        have e2 : narrowE n s = 0 := by unfold narrowE; rw [if_neg (by omega), if_pos (by rw [hf])]
        have hlt : n < 4294967296 := by
          unfold fits at hf
          have := Nat.pow_le_pow_right (n := 2) (by omega) (show s.toNat ≤ 32 by omega)
          simp at hf
          omega
        rw [e1, e2]
        rw [hf] at HB
        have HB' := Lib.hid HB
        clear e1 e2 HB hf
        go_enter Try.func47, Try.ntmps47
        go_wp2_with fail
        refine HB'.out.mono ?_
        rintro e w1 ⟨rfl, rfl⟩
        go_wp2
        go_ret2
        exact ⟨rfl, rfl⟩
end Go.Proofs.Ytohddbehcfoecaa
