/- The document's answer, chapter 01: Fold, Unfold, Fixed, Read, Narrow. For every input. -/
import Derived.Test.YtohddbehcfoecaaRef2
import Derived.Test.YtohddbehcfoecaaFixLaw
namespace Go.Proofs.Ytohddbehcfoecaa
open Go.RowKit

theorem bitsFit_fits (n m : Nat) : bitsFit n m = fits n ((m : Nat) : Int) := by
  have h0 := Nat.two_pow_pos m
  unfold bitsFit fits
  rw [decide_eq_decide, Int.toNat_natCast, Nat.div_eq_zero_iff]
  omega
theorem byte_mod (x : Nat) : ((UInt8.ofNat x).toNat : Int) = (x : Int) % 256 := by simp
theorem le_take (x j k : Nat) (h : j ≤ k) : (le x k).take j = le x j := by
  unfold le
  rw [← List.map_take, List.take_range, Nat.min_eq_left h]

end Go.Proofs.Ytohddbehcfoecaa
