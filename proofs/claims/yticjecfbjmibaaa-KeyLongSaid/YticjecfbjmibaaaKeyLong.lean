/- What the law KeyLong comes to: true, for every number. -/
import Derived.Test.YticjecfbjmibaaaKey3
namespace Go.Proofs.Yticjecfbjmibaaa
open Go.RowKit

set_option maxRecDepth 100000 in
set_option maxHeartbeats 1000000 in
theorem long_walk (x : Nat) (hx : x < 65536) (w : World) : Calls Try.prog 3 #[.int .u16 (x : Int)] w fun e w' => e = .returned (.bool true) ∧ Below w.heap.size w w' := by
  obtain ⟨m, hm⟩ : ∃ m, m = x % 5000 := ⟨_, rfl⟩
  have hm5 : m < 5000 := by omega
  have em : (x : Int) % 5000 = (m : Int) := by omega
  obtain ⟨i0, hi, hz0, hz1, hz2⟩ := info_parts Try.infoU8
  have hmk := run_make_rowN (P := Try.prog) 23 5 i0 (.int .u8 0) Try.underlying23 hi hz0 .i64 .i64 m m (Nat.le_refl _) (by rw [hz2]; omega) (by omega) w
  rw [hz1] at hmk
  have hb : Below w.heap.size w (w.alloc (.cells (madeCells (Value.int .u8 0).cells (m * 1)) 5)) := (Below.refl _ _).alloc (Nat.le_refl _) _
  generalize w.alloc (.cells (madeCells (Value.int .u8 0).cells (m * 1)) 5) = w1 at *
  have hM := may_any (some ⟨w.heap.size, 0, none⟩) m m w1 (by omega)
  have hV := mayValue_any (some ⟨w.heap.size, 0, none⟩) m m w1
  have HK := Lib.hid (knows_any w1)
  have hcase : (mayB m = true ∧ 1 ≤ m ∧ m ≤ 64) ∨ (mayB m = false ∧ m < 1) ∨ (mayB m = false ∧ 1 ≤ m ∧ 64 < m ∧ m ≤ 1024) ∨ (mayB m = false ∧ 1 ≤ m ∧ 64 < m ∧ 1024 < m) := by
    unfold mayB
    simp only [Bool.and_eq_true, decide_eq_true_eq, Bool.and_eq_false_iff, decide_eq_false_iff_not]
    omega
  have hvs : mayV m = decide (m ≤ 1024) := rfl
  clear hi hz0 hz1 hz2 hm
  have hd : (decide ((m : Int) ≤ 64) = decide (m ≤ 64)) ∧ (decide ((m : Int) ≤ 1024) = decide (m ≤ 1024)) := by constructor <;> rw [decide_eq_decide] <;> omega
  obtain ⟨d1, d2⟩ := hd
  rcases hcase with ⟨e, h1, h2⟩ | ⟨e, h1⟩ | ⟨e, h1, h2, h3⟩ | ⟨e, h1, h2, h3⟩
  all_goals
    first | rw [decide_eq_true (show m ≤ 64 by omega)] at d1 | rw [decide_eq_false (show ¬ m ≤ 64 by omega)] at d1
    first | rw [decide_eq_true (show m ≤ 1024 by omega)] at d2 | rw [decide_eq_false (show ¬ m ≤ 1024 by omega)] at d2
    rw [e] at hM
    first | rw [decide_eq_true (by omega)] at hvs | rw [decide_eq_false (by omega)] at hvs
    rw [hvs] at hV
    have HM := Lib.hid hM
    have HV := Lib.hid hV
    clear hM hV e hvs
    go_enter Try.func3, Try.ntmps3
    go_wp2_with fail
    refine HM.out.mono ?_
    rintro e w1 ⟨rfl, rfl⟩
    go_wp2_with fail
    refine HV.out.mono ?_
    rintro e w1 ⟨rfl, rfl⟩
    go_wp2_with fail
    refine HK.out.mono ?_
    rintro e w2 ⟨rfl, b2⟩
    go_wp2
    go_ret
    exact ⟨rfl, belowGo hb b2⟩
end Go.Proofs.Yticjecfbjmibaaa
