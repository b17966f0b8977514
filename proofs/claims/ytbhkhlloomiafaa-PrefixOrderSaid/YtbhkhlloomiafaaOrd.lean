/- What the law PrefixOrder comes to: true, for every two numbers. -/
import Derived.Test.YtbhkhlloomiafaaOrdLaw
import Derived.Test.YtbhkhlloomiafaaCmp
import Derived.Test.YtbhkhlloomiafaaPre6
namespace Go.Proofs.Ytbhkhlloomiafaa
open Go.RowKit

theorem begins_at (a b : List UInt8) (A : Option Addr) (n c : Nat) (A' : Option Addr) (n' c' : Nat) (v : Bool) (w : World) {B B' : Nat} (hnc : n ≤ c) (hv : b.isPrefixOf a = v) (h : Rd w B 1 A n (bcells a)) (h' : Rd w B' 1 A' n' (bcells b)) :
    Calls Try.prog 18 #[.slice A n c, .slice A' n' c'] w fun e w' => e = .returned (.bool v) ∧ Below w.heap.size w w' := by
  have h1 := h.1
  have h2 := h'.1
  rw [bcells_len, Nat.mul_one] at h1 h2
  refine (Try.bytes_HasPrefix_all A A' n c n' c' (bnum a) (bnum b) w (by rw [bnum_len]; omega) (by rw [bnum_len]; omega) hnc (bytesIn h) (bytesIn h')).mono fun e w' ⟨he, hw⟩ => ⟨?_, by rw [hw]; exact Below.refl _ _⟩
  rw [he, bnum_bytes, bnum_bytes, ← hv]
  rfl
theorem own_cap {w : World} {base : Nat} {e : TypeId} {size : Nat} {v : Value} {n : Nat} {xs : List Value} (h : w.ownsRow base e size v n xs) : ∃ A c, v = .slice A n c ∧ n ≤ c := by
  rcases h.2 with ⟨rfl, rfl⟩ | ⟨g, cap, cur, rfl, hb, hh, hnc, hcm, _⟩
  · exact ⟨_, _, rfl, Nat.le_refl _⟩
  · exact ⟨_, _, rfl, hnc⟩
theorem put_nil (x : Nat) (w : World) (hx : x < 18446744073709551616) :
    Calls Try.prog 10 #[.slice none 0 0, .int .u64 (x : Int)] w (RetOwn w 5 1 (psize x) (bcells (pform x))) := by
  have := put_any [] none 0 0 x hx w (Rd.nil_ _ _ _ none) (by omega)
  rw [List.nil_append, Nat.zero_add] at this
  exact this
theorem size_facts (a : Nat) (ha : a < 18446744073709551616) : (psize a = 9 ∨ a / 2 ^ (7 * psize a) = 0) ∧ (psize a = 1 ∨ a / 2 ^ (7 * (psize a - 1)) ≠ 0) := by
  rcases psize_cases a with ⟨e, h⟩ | ⟨e, h⟩ | ⟨e, h⟩ | ⟨e, h⟩ | ⟨e, h⟩ | ⟨e, h⟩ | ⟨e, h⟩ | ⟨e, h⟩ | ⟨e, h⟩
  case inl => exact ⟨.inr (by rw [e]; omega), .inl e⟩
  case inr.inr.inr.inr.inr.inr.inr.inr => exact ⟨.inl e, .inr (by rw [e]; simp only [Nat.reduceSub, Nat.reducePow, Nat.reduceMul]; omega)⟩
  all_goals exact ⟨.inr (by rw [e]; simp only [Nat.reducePow, Nat.reduceMul]; omega), .inr (by rw [e]; simp only [Nat.reduceSub, Nat.reducePow, Nat.reduceMul]; omega)⟩

set_option maxHeartbeats 4000000 in
theorem order_walk (a b : Nat) (ha : a < 18446744073709551616) (hlb : b < 18446744073709551616) (w : World) :
    Calls Try.prog 5 #[.int .u64 (a : Int), .int .u64 (b : Int)] w fun e w' => e = .returned (.bool true) ∧ Below w.heap.size w w' := by
  have P1 := fun w => Lib.hid (put_nil a w ha)
  have P2 := fun w => Lib.hid (put_nil b w hlb)
  have S1 := fun w => Lib.hid (size_at a a (psize a) w rfl ha rfl)
  have S2 := fun w => Lib.hid (size_at b b (psize b) w rfl hlb rfl)
  have HW := fun w => Lib.hid (wakes_any w)
  have M1 := Lib.hid (@psize_mono a b)
  have M2 := Lib.hid (size_facts a ha)
  have k1 := psize_pos a
  have k9 := psize_le a
  go_enter Try.func5, Try.ntmps5
  go_wp2_with fail
  refine (P1 w).out.mono ?_
  rintro e w1 ⟨v1, rfl, o1, b1⟩
  obtain ⟨A1, c1, rfl, z1⟩ := own_cap o1
  have r1 := own_rd o1
  go_wp2_with fail
  refine (P2 w1).out.mono ?_
  rintro e w2 ⟨v2, rfl, o2, b2⟩
  obtain ⟨A2, c2, rfl, z2⟩ := own_cap o2
  have r2 := own_rd o2
  have r1 := r1.after b2
  have hb := belowGo b1 b2
  have HC := compare_any _ _ _ _ c1 _ _ c2 w2 r1 r2
  rw [pform_cmp ha hlb] at HC
  have NB1 := Lib.hid (@pform_no b a hlb ha)
  have NB2 := Lib.hid (@pform_no a b ha hlb)
  generalize psize a = ka at *
  generalize psize b = kb at *
  obtain ⟨g1, g2⟩ := M2.out
  have f : (((ka : Int) == 9) = true ∨ (((ka : Int) == 9) = false ∧ ((a : Int) / 2 ^ (7 * ka) == 0) = true)) ∧ (((ka : Int) == 1) = true ∨ (((ka : Int) == 1) = false ∧ ((a : Int) / 2 ^ (7 * (ka - 1)) != 0) = true)) := by
    constructor
    · by_cases h : ka = 9
      · left; simp; omega
      · right
        refine ⟨by simp; omega, ?_⟩
        have := g1.resolve_left h
        rw [beq_iff_eq]
        exact_mod_cast this
    · by_cases h : ka = 1
      · left; simp; omega
      · right
        refine ⟨by simp; omega, ?_⟩
        have := g2.resolve_left h
        rw [bne_iff_ne]
        intro h0
        exact this (by exact_mod_cast h0)
  obtain ⟨f1, f2⟩ := f
  clear M2 g1 g2 P1 P2
  rcases Nat.lt_trichotomy a b with hab | hab | hab
  · rw [if_pos hab] at HC
    have HC' := Lib.hid HC
    clear HC
    have e1 : ((a : Int) != (b : Int)) = true := by simp; omega
    have e2 : ((a : Int) == (b : Int)) = false := by simp; omega
    have hle := M1.out (by omega)
    go_wp2_with fail
    refine HC'.out.mono ?_
    rintro e w3 ⟨rfl, b3⟩
    have r1 := r1.after b3
    have r2 := r2.after b3
    have hb := belowGo hb b3
    have HB1 := Lib.hid (begins_at _ _ _ _ c1 _ _ c2 false w3 z1 (NB1.out (by omega)) r1 r2)
    go_wp2_with fail
    refine HB1.out.mono ?_
    rintro e w4 ⟨rfl, b4⟩
    have r1 := r1.after b4
    have r2 := r2.after b4
    have hb := belowGo hb b4
    have HB2 := Lib.hid (begins_at _ _ _ _ c2 _ _ c1 false w4 z2 (NB2.out (by omega)) r2 r1)
    go_wp2_with fail
    refine HB2.out.mono ?_
    rintro e w5 ⟨rfl, b5⟩
    have hb := belowGo hb b5
    go_wp2_with fail
    refine (S1 _).out.mono ?_
    rintro e w6 ⟨rfl, b6⟩
    have hb := belowGo hb b6
    go_wp2_with fail
    refine (S2 _).out.mono ?_
    rintro e w7 ⟨rfl, b7⟩
    have hb := belowGo hb b7
    go_wp2_with fail
    refine (S1 _).out.mono ?_
    rintro e w8 ⟨rfl, b8⟩
    have hb := belowGo hb b8
    rcases f1 with f1 | ⟨f1, f1'⟩ <;> rcases f2 with f2 | ⟨f2, f2'⟩
    all_goals (
      go_wp2_with fail
      refine (HW _).out.mono ?_
      rintro e w9 ⟨rfl, b9⟩
      go_wp2
      go_ret
      exact ⟨rfl, belowGo hb b9⟩)
  · subst hab
    rw [if_neg (by omega), if_neg (by omega)] at HC
    have HC' := Lib.hid HC
    clear HC
    have e1 : ((a : Int) != (a : Int)) = false := by simp
    have e2 : ((a : Int) == (a : Int)) = true := by simp
    go_wp2_with fail
    refine HC'.out.mono ?_
    rintro e w3 ⟨rfl, b3⟩
    have hb := belowGo hb b3
    go_wp2_with fail
    refine (S1 _).out.mono ?_
    rintro e w8 ⟨rfl, b8⟩
    have hb := belowGo hb b8
    rcases f1 with f1 | ⟨f1, f1'⟩ <;> rcases f2 with f2 | ⟨f2, f2'⟩
    all_goals (
      go_wp2_with fail
      refine (HW _).out.mono ?_
      rintro e w9 ⟨rfl, b9⟩
      go_wp2
      go_ret
      exact ⟨rfl, belowGo hb b9⟩)
  · rw [if_neg (by omega), if_pos hab] at HC
    have HC' := Lib.hid HC
    clear HC
    have e1 : ((a : Int) != (b : Int)) = true := by simp; omega
    have e2 : ((a : Int) == (b : Int)) = false := by simp; omega
    go_wp2_with fail
    refine HC'.out.mono ?_
    rintro e w3 ⟨rfl, b3⟩
    have r1 := r1.after b3
    have r2 := r2.after b3
    have hb := belowGo hb b3
    have HB1 := Lib.hid (begins_at _ _ _ _ c1 _ _ c2 false w3 z1 (NB1.out (by omega)) r1 r2)
    go_wp2_with fail
    refine HB1.out.mono ?_
    rintro e w4 ⟨rfl, b4⟩
    have r1 := r1.after b4
    have r2 := r2.after b4
    have hb := belowGo hb b4
    have HB2 := Lib.hid (begins_at _ _ _ _ c2 _ _ c1 false w4 z2 (NB2.out (by omega)) r2 r1)
    go_wp2_with fail
    refine HB2.out.mono ?_
    rintro e w5 ⟨rfl, b5⟩
    have hb := belowGo hb b5
    go_wp2_with fail
    refine (S1 _).out.mono ?_
    rintro e w8 ⟨rfl, b8⟩
    have hb := belowGo hb b8
    rcases f1 with f1 | ⟨f1, f1'⟩ <;> rcases f2 with f2 | ⟨f2, f2'⟩
    all_goals (
      go_wp2_with fail
      refine (HW _).out.mono ?_
      rintro e w9 ⟨rfl, b9⟩
      go_wp2
      go_ret
      exact ⟨rfl, belowGo hb b9⟩)
end Go.Proofs.Ytbhkhlloomiafaa
