/- Fixed numbers: written and read back. Plain laws. -/
import Derived.Test.YtedjolkkidciiaaGP
namespace Go.Proofs.Ytedjolkkidciiaa
open Go.RowKit

theorem le_cons (m k : Nat) : le m (k + 1) = UInt8.ofNat m :: le (m / 256) k := by
  unfold le
  rw [List.range_succ_eq_map, List.map_cons, List.map_map]
  congr 1
  · simp
  · apply List.map_congr_left
    intro i _
    simp only [Function.comp]
    congr 1
    rw [show 8 * (i + 1) = 8 + 8 * i by omega, Nat.pow_add, ← Nat.div_div_eq_div_mul]
theorem le_numLE : ∀ s : List UInt8, le (numLE s) s.length = s
  | [] => rfl
  | c :: s => by
    have hc := c.toNat_lt
    rw [List.length_cons, le_cons, numLE_cons, show (c.toNat + 256 * numLE s) / 256 = numLE s by omega, le_numLE s]
    congr 1
    apply UInt8.toNat_inj.1
    simp only [UInt8.toNat_ofNat']
    omega
theorem numLE_le : ∀ (k m : Nat), m < 2 ^ (8 * k) → numLE (le m k) = m
  | 0, m, h => by have : m = 0 := by simpa using h
                  subst this; rfl
  | k + 1, m, h => by
    rw [le_cons, numLE_cons, numLE_le k (m / 256) (by
      rw [show 8 * (k + 1) = 8 * k + 8 by omega, Nat.pow_add] at h
      exact Nat.div_lt_of_lt_mul (by rw [Nat.mul_comm]; exact h))]
    simp only [UInt8.toNat_ofNat']
    omega
theorem fits_iff (n k : Nat) : fits n ((k : Nat) : Int) = true ↔ n < 2 ^ k := by unfold fits; simp
theorem fits_8 {n : Nat} (hn : n < 18446744073709551616) : fits n (8 * ((8 : Nat) : Int)) = true := by unfold fits; simpa using hn
theorem fits_mul (n k : Nat) : fits n (8 * (k : Int)) = fits n ((8 * k : Nat) : Int) := by congr 1
theorem shr_fits (n k : Nat) : ((n : Int) / 2 ^ k == 0) = fits n ((k : Nat) : Int) := by
  have h0 := Nat.two_pow_pos k
  have e : ((n : Int) / 2 ^ k) = ((n / 2 ^ k : Nat) : Int) := by simp
  rw [e]
  unfold fits
  rw [Bool.eq_iff_iff, beq_iff_eq, decide_eq_true_eq, Int.toNat_natCast]
  have : n / 2 ^ k = 0 ↔ n < 2 ^ k := by rw [Nat.div_eq_zero_iff]; omega
  omega
theorem fixed_yes {n k : Nat} (h1 : 1 ≤ k) (h8 : k ≤ 8) (h : fits n (8 * (k : Int)) = true) : fixedB [] n k = le n k ∧ fixedE n k = 0 := by
  unfold fixedB fixedE fixedOk
  rw [h]
  constructor
  · rw [if_pos (by simp; omega)]; simp
  · rw [if_neg (by omega), if_pos rfl]
theorem fixed_no {n k : Nat} (h1 : 1 ≤ k) (h8 : k ≤ 8) (h : fits n (8 * (k : Int)) = false) : fixedB [] n k = [] ∧ fixedE n k = 3 := by
  unfold fixedB fixedE fixedOk
  rw [h]
  constructor
  · rw [if_neg (by simp)]
  · rw [if_neg (by omega), if_neg (by simp)]
theorem read_whole {l : List UInt8} {k : Nat} (h1 : 1 ≤ k) (h8 : k ≤ 8) (h : k ≤ l.length) : readN l k = numLE (l.take k) ∧ readE l k = 0 := by
  unfold readN readE
  exact ⟨by rw [if_neg (by omega), Int.toNat_natCast], by rw [if_neg (by omega), if_neg (by omega)]⟩
theorem read_short {l : List UInt8} {k : Nat} (h1 : 1 ≤ k) (h8 : k ≤ 8) (h : l.length < k) : readN l k = 0 ∧ readE l k = 4 := by
  unfold readN readE
  exact ⟨by rw [if_pos (by omega)], by rw [if_neg (by omega), if_pos (by omega)]⟩
theorem read_le {n k : Nat} (l : List UInt8) (h1 : 1 ≤ k) (h8 : k ≤ 8) (h : fits n (8 * (k : Int)) = true) : readN (le n k ++ l) k = n ∧ readE (le n k ++ l) k = 0 := by
  have := read_whole (l := le n k ++ l) h1 h8 (by rw [List.length_append, le_len]; omega)
  rw [List.take_append_of_le_length (by rw [le_len]; exact Nat.le_refl _), List.take_of_length_le (by rw [le_len]; exact Nat.le_refl _), numLE_le] at this
  · exact this
  · rw [fits_mul, fits_iff] at h; exact h
theorem read_fits {l : List UInt8} {k : Nat} (h1 : 1 ≤ k) (h8 : k ≤ 8) (h : k ≤ l.length) : readN l k < 18446744073709551616 ∧ fits (readN l k) (8 * (k : Int)) = true ∧ le (readN l k) k = l.take k := by
  have e := (read_whole h1 h8 h).1
  rw [e]
  refine ⟨numLE_64 l h8, by rw [fits_mul, fits_iff]; exact numLE_8j l h, ?_⟩
  have := le_numLE (l.take k)
  rwa [List.length_take, Nat.min_eq_left h] at this
theorem narrow_is {n k : Nat} (h1 : 1 ≤ k) (h2 : k ≤ 32) : narrowN n k = (if fits n ((k : Nat) : Int) then n else 0) ∧ narrowE n k = (if fits n ((k : Nat) : Int) then 0 else 3) := by
  unfold narrowN narrowE
  exact ⟨by rw [if_neg (by omega)], by rw [if_neg (by omega)]⟩
end Go.Proofs.Ytedjolkkidciiaa
