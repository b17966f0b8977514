/- Package loc: None, stands, May. For every loc. -/
import Derived.Test.YtkkhojealihghaaBlk
import Derived.Test.YtkkhojealihghaaByt
import Derived.Test.YtkkhojealihghaaRes
namespace Go.Proofs.Ytkkhojealihghaa
open Go.RowKit

def locV (s o : Nat) : Value := .agg #[.int .u32 (s : Int), .int .u32 (o : Int)]
def noneB (s o : Nat) : Bool := decide (s = 0 ∧ o = 0)
def standsB (s o : Nat) : Bool := decide (1 ≤ s ∧ s ≤ 16777215 ∧ 16 ≤ o ∧ o ≤ 16777216)
def mayL (s o : Nat) : Bool := noneB s o || standsB s o

theorem noneL_any (s o : Nat) (w : World) : Calls Try.prog 33 #[locV s o] w fun e w' => e = .returned (.bool (noneB s o)) ∧ Below w.heap.size w w' := by
  unfold locV
  obtain ⟨b, hb⟩ : ∃ b, b = noneB s o := ⟨_, rfl⟩
  rw [← hb]
  unfold noneB at hb
  have i1 : ((s : Int) == 0) = decide (s = 0) := by rw [Bool.eq_iff_iff, beq_iff_eq, decide_eq_true_eq]; omega
  have i2 : ((o : Int) == 0) = decide (o = 0) := by rw [Bool.eq_iff_iff, beq_iff_eq, decide_eq_true_eq]; omega
  by_cases h1 : s = 0
  · by_cases h2 : o = 0
    · rw [decide_eq_true h1] at i1
      rw [decide_eq_true h2] at i2
      rw [decide_eq_true ⟨h1, h2⟩] at hb
      subst hb
      clear h1 h2
      go_enter Try.func33, Try.ntmps33
      go_wp2
      go_ret
      exact ⟨rfl, (Below.refl _ _).alloc (Nat.le_refl _) _⟩
    · rw [decide_eq_true h1] at i1
      rw [decide_eq_false h2] at i2
      rw [decide_eq_false (fun h => h2 h.2)] at hb
      subst hb
      clear h1 h2
      go_enter Try.func33, Try.ntmps33
      go_wp2
      go_ret
      exact ⟨rfl, (Below.refl _ _).alloc (Nat.le_refl _) _⟩
  · rw [decide_eq_false h1] at i1
    rw [decide_eq_false (fun h => h1 h.1)] at hb
    subst hb
    clear h1 i2
    go_enter Try.func33, Try.ntmps33
    go_wp2
    go_ret
    exact ⟨rfl, (Below.refl _ _).alloc (Nat.le_refl _) _⟩

theorem standsL_any (s o : Nat) (w : World) : Calls Try.prog 34 #[locV s o] w fun e w' => e = .returned (.bool (standsB s o)) ∧ Below w.heap.size w w' := by
  unfold locV
  obtain ⟨b, hb⟩ : ∃ b, b = standsB s o := ⟨_, rfl⟩
  rw [← hb]
  unfold standsB at hb
  have fin : b = true ∨ b = false := by cases b <;> simp
  by_cases h1 : 1 ≤ s
  · by_cases h2 : s ≤ 16777215
    · by_cases h3 : 16 ≤ o
      · by_cases h4 : o ≤ 16777216
        · rw [decide_eq_true ⟨h1, h2, h3, h4⟩] at hb
          subst hb
          go_enter Try.func34, Try.ntmps34
          go_wp2
          go_ret
          exact ⟨by congr 2; simp; omega, (Below.refl _ _).alloc (Nat.le_refl _) _⟩
        · rw [decide_eq_false (by omega)] at hb
          subst hb
          go_enter Try.func34, Try.ntmps34
          go_wp2
          go_ret
          exact ⟨by congr 2; simp; omega, (Below.refl _ _).alloc (Nat.le_refl _) _⟩
      · rw [decide_eq_false (by omega)] at hb
        subst hb
        go_enter Try.func34, Try.ntmps34
        go_wp2
        go_ret
        exact ⟨rfl, (Below.refl _ _).alloc (Nat.le_refl _) _⟩
    · rw [decide_eq_false (by omega)] at hb
      subst hb
      go_enter Try.func34, Try.ntmps34
      go_wp2
      go_ret
      exact ⟨rfl, (Below.refl _ _).alloc (Nat.le_refl _) _⟩
  · rw [decide_eq_false (by omega)] at hb
    subst hb
    go_enter Try.func34, Try.ntmps34
    go_wp2
    go_ret
    exact ⟨rfl, (Below.refl _ _).alloc (Nat.le_refl _) _⟩

theorem mayLoc_any (s o : Nat) (w : World) : Calls Try.prog 23 #[locV s o] w fun e w' => e = .returned (.bool (mayL s o)) ∧ Below w.heap.size w w' := by
  obtain ⟨b, hb⟩ : ∃ b, b = noneB s o := ⟨_, rfl⟩
  obtain ⟨b2, hb2⟩ : ∃ b, b = standsB s o := ⟨_, rfl⟩
  have H1 := fun W => Lib.hid (noneL_any s o W)
  have H2 := fun W => Lib.hid (standsL_any s o W)
  unfold mayL
  rw [← hb, ← hb2]
  rw [← hb] at H1
  rw [← hb2] at H2
  unfold locV at *
  clear hb hb2
  cases b
  · go_enter Try.func23, Try.ntmps23
    have q0 := Blk.new w 41 #[.int .u32 (s : Int), .int .u32 (o : Int)]
    have b0 := (Below.refl w.heap.size w).alloc (Nat.le_refl _) (.cells #[.int .u32 (s : Int), .int .u32 (o : Int)] 41)
    go_wp2_with fail
    refine (H1 _).out.mono ?_
    rintro e w1 ⟨rfl, b1⟩
    have q1 := q0.after b1
    have c0 := q1.cell 0
    have c1 := q1.cell 1
    have hb1 := b0.trans (b1.mono b0.size)
    go_wp2_with fail
    refine (H2 _).out.mono ?_
    rintro e w2 ⟨rfl, b2⟩
    go_wp2_with fail
    go_ret
    exact ⟨by simp, hb1.trans (b2.mono hb1.size)⟩
  · go_enter Try.func23, Try.ntmps23
    have b0 := (Below.refl w.heap.size w).alloc (Nat.le_refl _) (.cells #[.int .u32 (s : Int), .int .u32 (o : Int)] 41)
    go_wp2_with fail
    refine (H1 _).out.mono ?_
    rintro e w1 ⟨rfl, b1⟩
    go_wp2_with fail
    go_ret
    exact ⟨by simp, b0.trans (b1.mono b0.size)⟩

/-- a loc that may be is small -/
theorem mayL_lt {s o : Nat} (h : mayL s o = true) : s < 4294967296 ∧ o < 4294967296 := by
  unfold mayL noneB standsB at h
  simp only [Bool.or_eq_true, decide_eq_true_eq] at h
  omega

end Go.Proofs.Ytkkhojealihghaa
