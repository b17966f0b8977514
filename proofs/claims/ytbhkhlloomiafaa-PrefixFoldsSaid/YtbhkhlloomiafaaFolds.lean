/- What the law PrefixFolds comes to: true, for every numbers. -/
import Derived.Test.YtbhkhlloomiafaaPre6
namespace Go.Proofs.Ytbhkhlloomiafaa
open Go.RowKit

theorem far_any (x : Int) (h0 : -9223372036854775808 ≤ x) (h1 : x < 9223372036854775808) (w : World) :
    Calls Try.prog 15 #[.int .i64 x] w fun e w' => e = .returned (.int .u64 (x.natAbs : Int)) ∧ Below w.heap.size w w' := by
  go_enter Try.func15, Try.ntmps15
  by_cases hx : x < 0
  · go_wp2
    go_ret
    exact ⟨ret_int (by simp only [IntKind.wrap_u64]; omega), Below.refl _ _⟩
  · go_wp2
    go_ret
    exact ⟨ret_int (by try simp only [IntKind.wrap_u64]
                       omega), Below.refl _ _⟩
theorem unfold_fold (a : Int) : unfoldN (foldN a) = a := by unfold unfoldN foldN; split <;> split <;> omega
theorem fold_unfold (n : Nat) : foldN (unfoldN n) = n := by unfold unfoldN foldN; split <;> split <;> omega
theorem fold_lt {a b : Int} (h : a.natAbs < b.natAbs) : foldN a < foldN b := by unfold foldN; split <;> split <;> omega
theorem fold_64 {a : Int} (h0 : -9223372036854775808 ≤ a) (h1 : a < 9223372036854775808) : foldN a < 18446744073709551616 := by unfold foldN; split <;> omega
theorem fold_inj {a b : Int} : foldN a = foldN b ↔ a = b := by unfold foldN; split <;> split <;> omega
theorem fold_neg {a : Int} (h : 0 < a) : (foldN (-a) : Int) = (foldN a : Int) - 1 := by unfold foldN; split <;> split <;> omega
theorem unfold_neg (n : Nat) : unfoldN n < 0 ↔ n % 2 = 1 := by unfold unfoldN; split <;> omega
theorem unfold_64 {n : Nat} (h : n < 18446744073709551616) : -9223372036854775808 ≤ unfoldN n ∧ unfoldN n < 9223372036854775808 := by unfold unfoldN; split <;> omega

set_option maxHeartbeats 2000000 in
theorem folds_walk (n : Nat) (hn : n < 18446744073709551616) (a b : Int) (ha0 : -9223372036854775808 ≤ a) (ha1 : a < 9223372036854775808) (hb0 : -9223372036854775808 ≤ b) (hb1 : b < 9223372036854775808) (w : World) :
    Calls Try.prog 4 #[.int .u64 (n : Int), .int .i64 a, .int .i64 b] w fun e w' => e = .returned (.bool true) ∧ Below w.heap.size w w' := by
  have hx := fold_64 ha0 ha1
  have hy := fold_64 hb0 hb1
  have U1 := Lib.hid (unfold_fold a)
  have U2 := Lib.hid (fold_unfold n)
  have U3 := Lib.hid (@fold_lt a b)
  have U4 := Lib.hid (@fold_inj a b)
  have U5 := Lib.hid (@fold_neg a)
  have U6 := Lib.hid (unfold_neg n)
  have U7 := unfold_64 hn
  have K1 := fun w => Lib.hid (fold_at a (foldN a) w ha0 ha1 rfl)
  have K2 := fun w => Lib.hid (fold_at b (foldN b) w hb0 hb1 rfl)
  have K3 := fun w => Lib.hid (unfold_at (foldN a) (foldN a) a w rfl hx (unfold_fold a).symm)
  have K4 := fun w => Lib.hid (unfold_at n n (unfoldN n) w rfl hn rfl)
  have K5 := fun w => Lib.hid (fold_at (unfoldN n) n w U7.1 U7.2 (by rw [fold_unfold]))
  have K6 := fun w => Lib.hid (far_any a ha0 ha1 w)
  have K7 := fun w => Lib.hid (far_any b hb0 hb1 w)
  have K8 := fun (h : 0 < a) w => Lib.hid (fold_at (-a) ((foldN a : Int) - 1) w (by omega) (by omega) (fold_neg h).symm)
  have K9 := fun w => Lib.hid (wakes_any w)
  have hx1 : 0 < a → 1 ≤ foldN a := fun h => by have := fold_neg h; omega
  have hand := and1 n hn
  generalize foldN a = x at *
  generalize foldN b = y at *
  generalize unfoldN n = z at *
  go_enter Try.func4, Try.ntmps4
  go_wp2_with fail
  refine (K1 w).out.mono ?_
  rintro e w1 ⟨rfl, b1⟩
  go_wp2_with fail
  refine (K2 w1).out.mono ?_
  rintro e w2 ⟨rfl, b2⟩
  go_wp2_with fail
  refine (K3 w2).out.mono ?_
  rintro e w3 ⟨rfl, b3⟩
  have e1 : (a != a) = false := by simp
  go_wp2_with fail
  refine (K4 w3).out.mono ?_
  rintro e w4 ⟨rfl, b4⟩
  go_wp2_with fail
  refine (K5 w4).out.mono ?_
  rintro e w5 ⟨rfl, b5⟩
  have e2 : ((n : Int) != (n : Int)) = false := by simp
  go_wp2_with fail
  refine (K6 w5).out.mono ?_
  rintro e w6 ⟨rfl, b6⟩
  go_wp2_with fail
  refine (K7 w6).out.mono ?_
  rintro e w7 ⟨rfl, b7⟩
  have hb := belowGo (belowGo (belowGo (belowGo (belowGo (belowGo b1 b2) b3) b4) b5) b6) b7
  clear b1 b2 b3 b4 b5 b6 b7
  have q1 : ((a.natAbs : Int) < (b.natAbs : Int) ∧ ¬ (y : Int) ≤ (x : Int)) ∨ ¬ (a.natAbs : Int) < (b.natAbs : Int) := by
    have := U3.out
    omega
  have q2 : (((x : Int) == (y : Int)) = true ∧ (a == b) = true) ∨ (((x : Int) == (y : Int)) = false ∧ (a == b) = false) := by
    have := U4.out
    simp only [beq_iff_eq, beq_eq_false_iff_ne]
    omega
  have q3 : (decide (z < 0) = true ∧ (((n % 2 : Nat) : Int) == 1) = true) ∨ (decide (z < 0) = false ∧ (((n % 2 : Nat) : Int) == 1) = false) := by
    have := U6.out
    simp only [beq_iff_eq, beq_eq_false_iff_ne, decide_eq_true_eq, decide_eq_false_iff_not]
    omega
  generalize n % 2 = p at *
  clear K1 K2 K3 K5 K6 K7 e1 e2
  generalize a.natAbs = fa at *
  generalize b.natAbs = fb at *
  rcases q1 with ⟨h1, h2⟩ | h1 <;> rcases q2 with ⟨h3, h4⟩ | ⟨h3, h4⟩ <;> rcases q3 with ⟨h5, h6⟩ | ⟨h5, h6⟩
  all_goals (
    by_cases h7 : a ≤ 0
    · go_wp2_with fail
      refine (K4 _).out.mono ?_
      rintro e w8 ⟨rfl, b8⟩
      go_wp2_with fail
      refine (K9 _).out.mono ?_
      rintro e w9 ⟨rfl, b9⟩
      go_wp2
      go_ret
      exact ⟨rfl, belowGo (belowGo hb b8) b9⟩
    · have h8 := hx1 (by omega)
      have e4 : ((x : Int) - 1 == (x : Int) - 1) = true := by simp
      go_wp2_with fail
      refine (K8 (by omega) _).out.mono ?_
      rintro e w10 ⟨rfl, b10⟩
      go_wp2_with fail
      refine (K4 _).out.mono ?_
      rintro e w8 ⟨rfl, b8⟩
      go_wp2_with fail
      refine (K9 _).out.mono ?_
      rintro e w9 ⟨rfl, b9⟩
      go_wp2
      go_ret
      exact ⟨rfl, belowGo (belowGo (belowGo hb b10) b8) b9⟩)
end Go.Proofs.Ytbhkhlloomiafaa
