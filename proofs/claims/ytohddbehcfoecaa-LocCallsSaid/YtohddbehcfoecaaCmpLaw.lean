/- The order of rows of bytes. Plain laws. -/
import Derived.Test.YtohddbehcfoecaaByt
import Derived.Lib.Bytealg
namespace Go.Proofs.Ytohddbehcfoecaa
open Go.RowKit

theorem cmp_vals : ∀ a b : List UInt8, Lib.compareBytes a b = -1 ∨ Lib.compareBytes a b = 0 ∨ Lib.compareBytes a b = 1
  | [], [] => by simp [Lib.compareBytes]
  | [], _ :: _ => by simp [Lib.compareBytes]
  | _ :: _, [] => by simp [Lib.compareBytes]
  | c :: a, d :: b => by
    have ih := cmp_vals a b
    unfold Lib.compareBytes
    split
    · simp
    · split
      · simp
      · exact ih
theorem cmp_neg : ∀ a b : List UInt8, Lib.compareBytes b a = -Lib.compareBytes a b
  | [], [] => by simp [Lib.compareBytes]
  | [], _ :: _ => by simp [Lib.compareBytes]
  | _ :: _, [] => by simp [Lib.compareBytes]
  | c :: a, d :: b => by
    have ih := cmp_neg a b
    unfold Lib.compareBytes
    by_cases h1 : c < d
    · have h2 : ¬ d < c := fun h => absurd (UInt8.lt_trans h1 h) (UInt8.lt_irrefl c)
      rw [if_pos h1, if_neg h2, if_pos h1]; rfl
    · rw [if_neg h1]
      by_cases h2 : d < c
      · rw [if_pos h2, if_pos h2, if_neg h1]
      · rw [if_neg h2, if_neg h2, if_neg h1, ih]
theorem cmp_zero : ∀ a b : List UInt8, Lib.compareBytes a b = 0 ↔ a = b
  | [], [] => by simp [Lib.compareBytes]
  | [], _ :: _ => by simp [Lib.compareBytes]
  | _ :: _, [] => by simp [Lib.compareBytes]
  | c :: a, d :: b => by
    have ih := cmp_zero a b
    unfold Lib.compareBytes
    by_cases h1 : c < d
    · rw [if_pos h1]
      have : c ≠ d := fun e => absurd h1 (by rw [e]; exact UInt8.lt_irrefl d)
      simp [this]
    · rw [if_neg h1]
      by_cases h2 : d < c
      · rw [if_pos h2]
        have : c ≠ d := fun e => absurd h2 (by rw [e]; exact UInt8.lt_irrefl d)
        simp [this]
      · rw [if_neg h2, ih]
        have e : c = d := by
          apply UInt8.toNat_inj.1
          have a1 : ¬ c.toNat < d.toNat := h1
          have a2 : ¬ d.toNat < c.toNat := h2
          omega
        simp [e]
theorem cmp_trans : ∀ a b c : List UInt8, Lib.compareBytes a b ≤ 0 → Lib.compareBytes b c ≤ 0 → Lib.compareBytes a c ≤ 0
  | [], _, [], _, _ => by simp [Lib.compareBytes]
  | [], _, _ :: _, _, _ => by simp [Lib.compareBytes]
  | _ :: _, [], _, h, _ => by simp [Lib.compareBytes] at h
  | _ :: _, _ :: _, [], _, h => by simp [Lib.compareBytes] at h
  | x :: a, y :: b, z :: c, h1, h2 => by
    have ih := cmp_trans a b c
    have t : ∀ u v : UInt8, (u < v) = (u.toNat < v.toNat) := fun u v => rfl
    unfold Lib.compareBytes at h1 h2 ⊢
    simp only [t] at *
    by_cases p1 : x.toNat < y.toNat <;> by_cases p2 : y.toNat < x.toNat <;> by_cases q1 : y.toNat < z.toNat <;> by_cases q2 : z.toNat < y.toNat <;> by_cases r1 : x.toNat < z.toNat <;> by_cases r2 : z.toNat < x.toNat <;>
      simp only [p1, p2, q1, q2, r1, r2, if_true, if_false] at h1 h2 ⊢ <;> first | omega | exact ih h1 h2
theorem cmp_ahead : ∀ d a b : List UInt8, Lib.compareBytes (d ++ a) (d ++ b) = Lib.compareBytes a b
  | [], _, _ => rfl
  | x :: d, a, b => by
    have ih := cmp_ahead d a b
    rw [List.cons_append, List.cons_append]
    conv => lhs; unfold Lib.compareBytes
    rw [if_neg (UInt8.lt_irrefl x), if_neg (UInt8.lt_irrefl x), ih]
end Go.Proofs.Ytohddbehcfoecaa
