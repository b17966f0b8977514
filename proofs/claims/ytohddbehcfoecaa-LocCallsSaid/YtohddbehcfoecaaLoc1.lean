/- Package loc: None, stands, May, told, Pack, Unpack. For every loc. -/
import Derived.Test.YtohddbehcfoecaaBlk
import Derived.Test.YtohddbehcfoecaaByt
import Derived.Test.YtohddbehcfoecaaRes
namespace Go.Proofs.Ytohddbehcfoecaa
open Go.RowKit

def locV (s o : Nat) : Value := .agg #[.int .u32 (s : Int), .int .u32 (o : Int)]
def noneB (s o : Nat) : Bool := decide (s = 0 ∧ o = 0)
def standsB (s o : Nat) : Bool := decide (1 ≤ s ∧ s ≤ 16777215 ∧ 16 ≤ o ∧ o ≤ 16777216)
def mayL (s o : Nat) : Bool := noneB s o || standsB s o

theorem none_any (s o : Nat) (w : World) : Calls Try.prog 19 #[locV s o] w fun e w' => e = .returned (.bool (noneB s o)) ∧ Below w.heap.size w w' := by
  unfold locV
  obtain ⟨b, hb⟩ : ∃ b, b = noneB s o := ⟨_, rfl⟩
  rw [← hb]
  unfold noneB at hb
  have i1 : ((s : Int) == 0) = decide (s = 0) := by rw [Bool.eq_iff_iff, beq_iff_eq, decide_eq_true_eq]; omega
  have i2 : ((o : Int) == 0) = decide (o = 0) := by rw [Bool.eq_iff_iff, beq_iff_eq, decide_eq_true_eq]; omega
  by_cases h1 : s = 0
  · by_cases h2 : o = 0
    · rw [decide_eq_true h1] at i1
      rw [decide_eq_true h2] at i2
      rw [decide_eq_true ⟨h1, h2⟩] at hb
      subst hb
      clear h1 h2
      go_enter Try.func19, Try.ntmps19
      go_wp2
      go_ret
      exact ⟨rfl, (Below.refl _ _).alloc (Nat.le_refl _) _⟩
    · rw [decide_eq_true h1] at i1
      rw [decide_eq_false h2] at i2
      rw [decide_eq_false (fun h => h2 h.2)] at hb
      subst hb
      clear h1 h2
      go_enter Try.func19, Try.ntmps19
      go_wp2
      go_ret
      exact ⟨rfl, (Below.refl _ _).alloc (Nat.le_refl _) _⟩
  · rw [decide_eq_false h1] at i1
    rw [decide_eq_false (fun h => h1 h.1)] at hb
    subst hb
    clear h1 i2
    go_enter Try.func19, Try.ntmps19
    go_wp2
    go_ret
    exact ⟨rfl, (Below.refl _ _).alloc (Nat.le_refl _) _⟩

theorem stands_any (s o : Nat) (w : World) : Calls Try.prog 48 #[locV s o] w fun e w' => e = .returned (.bool (standsB s o)) ∧ Below w.heap.size w w' := by
  unfold locV
  obtain ⟨b, hb⟩ : ∃ b, b = standsB s o := ⟨_, rfl⟩
  rw [← hb]
  unfold standsB at hb
  have fin : b = true ∨ b = false := by cases b <;> simp
  by_cases h1 : 1 ≤ s
  · by_cases h2 : s ≤ 16777215
    · by_cases h3 : 16 ≤ o
      · by_cases h4 : o ≤ 16777216
        · rw [decide_eq_true ⟨h1, h2, h3, h4⟩] at hb
          subst hb
          go_enter Try.func48, Try.ntmps48
          go_wp2
          go_ret
          exact ⟨by congr 2; simp; omega, (Below.refl _ _).alloc (Nat.le_refl _) _⟩
        · rw [decide_eq_false (by omega)] at hb
          subst hb
          go_enter Try.func48, Try.ntmps48
          go_wp2
          go_ret
          exact ⟨by congr 2; simp; omega, (Below.refl _ _).alloc (Nat.le_refl _) _⟩
      · rw [decide_eq_false (by omega)] at hb
        subst hb
        go_enter Try.func48, Try.ntmps48
        go_wp2
        go_ret
        exact ⟨rfl, (Below.refl _ _).alloc (Nat.le_refl _) _⟩
    · rw [decide_eq_false (by omega)] at hb
      subst hb
      go_enter Try.func48, Try.ntmps48
      go_wp2
      go_ret
      exact ⟨rfl, (Below.refl _ _).alloc (Nat.le_refl _) _⟩
  · rw [decide_eq_false (by omega)] at hb
    subst hb
    go_enter Try.func48, Try.ntmps48
    go_wp2
    go_ret
    exact ⟨rfl, (Below.refl _ _).alloc (Nat.le_refl _) _⟩

theorem may_any (s o : Nat) (w : World) : Calls Try.prog 18 #[locV s o] w fun e w' => e = .returned (.bool (mayL s o)) ∧ Below w.heap.size w w' := by
  obtain ⟨b, hb⟩ : ∃ b, b = noneB s o := ⟨_, rfl⟩
  obtain ⟨b2, hb2⟩ : ∃ b, b = standsB s o := ⟨_, rfl⟩
  have H1 := fun W => Lib.hid (none_any s o W)
  have H2 := fun W => Lib.hid (stands_any s o W)
  unfold mayL
  rw [← hb, ← hb2]
  rw [← hb] at H1
  rw [← hb2] at H2
  unfold locV at *
  clear hb hb2
  cases b
  · go_enter Try.func18, Try.ntmps18
    have q0 := Blk.new w 24 #[.int .u32 (s : Int), .int .u32 (o : Int)]
    have b0 := (Below.refl w.heap.size w).alloc (Nat.le_refl _) (.cells #[.int .u32 (s : Int), .int .u32 (o : Int)] 24)
    go_wp2_with fail
    refine (H1 _).out.mono ?_
    rintro e w1 ⟨rfl, b1⟩
    have q1 := q0.after b1
    have c0 := q1.cell 0
    have c1 := q1.cell 1
    have hb1 := b0.trans (b1.mono b0.size)
    go_wp2_with fail
    refine (H2 _).out.mono ?_
    rintro e w2 ⟨rfl, b2⟩
    go_wp2_with fail
    go_ret
    exact ⟨by simp, hb1.trans (b2.mono hb1.size)⟩
  · go_enter Try.func18, Try.ntmps18
    have b0 := (Below.refl w.heap.size w).alloc (Nat.le_refl _) (.cells #[.int .u32 (s : Int), .int .u32 (o : Int)] 24)
    go_wp2_with fail
    refine (H1 _).out.mono ?_
    rintro e w1 ⟨rfl, b1⟩
    go_wp2_with fail
    go_ret
    exact ⟨by simp, b0.trans (b1.mono b0.size)⟩

theorem told_any (s o : Nat) (c : Int) (w : World) : Calls Try.prog 45 #[locV s o, .int .i64 c] w fun e w' =>
    e = .returned (.tuple #[if mayL s o then locV s o else locV 0 0, .int .i64 (if mayL s o then 0 else c)]) ∧ Below w.heap.size w w' := by
  have H1 := fun W => Lib.hid (may_any s o W)
  obtain ⟨b, hb⟩ : ∃ b, b = mayL s o := ⟨_, rfl⟩
  rw [← hb]
  rw [← hb] at H1
  clear hb
  unfold locV at *
  have q0 := Blk.new w 24 #[.int .u32 (s : Int), .int .u32 (o : Int)]
  have b0 := (Below.refl w.heap.size w).alloc (Nat.le_refl _) (.cells #[.int .u32 (s : Int), .int .u32 (o : Int)] 24)
  have b0' := b0.alloc (by simp) (.cells #[.int .u32 0, .int .u32 0] 24)
  have q0' := q0.alloc (.cells #[.int .u32 0, .int .u32 0] 24)
  cases b
  · go_enter Try.func45, Try.ntmps45
    go_wp2_with fail
    refine (H1 _).out.mono ?_
    rintro e w1 ⟨rfl, b1⟩
    have hb1 := b0'.trans (b1.mono b0'.size)
    have hz : w.heap.size + 1 < w1.heap.size := by have := b1.size; simp at this; omega
    have q1 := (Blk.newAt (w.alloc (.cells #[.int .u32 (s : Int), .int .u32 (o : Int)] 24)) 24 #[.int .u32 0, .int .u32 0] (g := w.heap.size + 1) (by simp)).after b1
    have c0 := q1.cell 0
    have c1 := q1.cell 1
    have f0 := q1.frozen 0
    have f1 := q1.frozen 1
    go_wp2_with fail
    exact bodyPost_ret (results_cell2 rfl rfl (res_load (cs := #[.int .u32 0, .int .u32 0]) ((q1.set_ 0 _).set_ 1 _) Try.underlying24 rfl (by kernel_rfl))) rfl ⟨rfl, (hb1.setCell (p := ⟨w.heap.size + 1, 0, none⟩) (by simp) _).setCell (p := ⟨w.heap.size + 1, 1, none⟩) (by simp) _⟩
  · go_enter Try.func45, Try.ntmps45
    go_wp2_with fail
    refine (H1 _).out.mono ?_
    rintro e w1 ⟨rfl, b1⟩
    have hb1 := b0'.trans (b1.mono b0'.size)
    have hz : w.heap.size + 1 < w1.heap.size := by have := b1.size; simp at this; omega
    have q1 := (Blk.newAt (w.alloc (.cells #[.int .u32 (s : Int), .int .u32 (o : Int)] 24)) 24 #[.int .u32 0, .int .u32 0] (g := w.heap.size + 1) (by simp)).after b1
    have q2 := q0'.after b1
    have d0 := q2.cell 0
    have d1 := q2.cell 1
    have c0 := q1.cell 0
    have c1 := q1.cell 1
    have f0 := q1.frozen 0
    have f1 := q1.frozen 1
    go_wp2_with fail
    exact bodyPost_ret (results_cell2 rfl rfl (res_load (cs := #[.int .u32 (s : Int), .int .u32 (o : Int)]) ((q1.set_ 0 _).set_ 1 _) Try.underlying24 rfl (by kernel_rfl))) rfl ⟨rfl, (hb1.setCell (p := ⟨w.heap.size + 1, 0, none⟩) (by simp) _).setCell (p := ⟨w.heap.size + 1, 1, none⟩) (by simp) _⟩

/-- a loc that may be is small -/
theorem mayL_lt {s o : Nat} (h : mayL s o = true) : s < 4294967296 ∧ o < 4294967296 := by
  unfold mayL noneB standsB at h
  simp only [Bool.or_eq_true, decide_eq_true_eq] at h
  omega

def packN (s o : Nat) : Nat := if mayL s o then s * 4294967296 + o else 0
def packE (s o : Nat) : Nat := if mayL s o then 0 else 1
theorem pack_any (s o : Nat) (w : World) : Calls Try.prog 10 #[locV s o] w fun e w' => e = .returned (.tuple #[.int .u64 (packN s o), .int .i64 (packE s o)]) ∧ Below w.heap.size w w' := by
  have H1 := fun W => Lib.hid (may_any s o W)
  obtain ⟨b, hb⟩ : ∃ b, b = mayL s o := ⟨_, rfl⟩
  have hlt := @mayL_lt s o
  unfold packN packE
  rw [← hb]
  rw [← hb] at H1 hlt
  clear hb
  unfold locV at *
  have q0 := Blk.new w 24 #[.int .u32 (s : Int), .int .u32 (o : Int)]
  have b0 := (Below.refl w.heap.size w).alloc (Nat.le_refl _) (.cells #[.int .u32 (s : Int), .int .u32 (o : Int)] 24)
  cases b
  · clear hlt
    go_enter Try.func10, Try.ntmps10
    go_wp2_with fail
    refine (H1 _).out.mono ?_
    rintro e w1 ⟨rfl, b1⟩
    go_wp2_with fail
    go_ret2
    exact ⟨rfl, b0.trans (b1.mono b0.size)⟩
  · obtain ⟨l1, l2⟩ := hlt rfl
    clear hlt
    have h2 : bits .or .u64 ((s : Int) * 4294967296) (o : Int) = (s : Int) * 4294967296 + (o : Int) := by
      have e := bits_or_u64_nat (s * 4294967296) o (by omega) (by omega)
      have := Nat.two_pow_add_eq_or_of_lt (i := 32) (b := o) l2 s
      rw [Nat.mul_comm s, show (4294967296 : Nat) = 2 ^ 32 from rfl, ← this] at e
      have e2 : ((2 ^ 32 * s : Nat) : Int) = (s : Int) * 4294967296 := by rw [Nat.mul_comm]; simp
      rw [e2] at e
      rw [e]
      simp [Nat.mul_comm]
    go_enter Try.func10, Try.ntmps10
    go_wp2_with fail
    refine (H1 _).out.mono ?_
    rintro e w1 ⟨rfl, b1⟩
    have q1 := q0.after b1
    have c0 := q1.cell 0
    have c1 := q1.cell 1
    go_wp2_with fail
    go_ret2
    exact ⟨rfl, b0.trans (b1.mono b0.size)⟩

theorem unpack_any (n : Nat) (hn : n < 18446744073709551616) (w : World) : Calls Try.prog 15 #[.int .u64 (n : Int)] w fun e w' =>
    e = .returned (.tuple #[if mayL (n / 4294967296) (n % 4294967296) then locV (n / 4294967296) (n % 4294967296) else locV 0 0, .int .i64 (if mayL (n / 4294967296) (n % 4294967296) then 0 else 1)]) ∧ Below w.heap.size w w' := by
  obtain ⟨s, hs⟩ : ∃ s, s = n / 4294967296 := ⟨_, rfl⟩
  obtain ⟨o, ho⟩ : ∃ o, o = n % 4294967296 := ⟨_, rfl⟩
  have i1 : (n : Int) / 4294967296 = (s : Int) := by omega
  have i2 : s < 4294967296 := by omega
  have i3 : IntKind.u32.wrap (n : Int) = (o : Int) := by rw [IntKind.wrap_u32]; omega
  have i4 : o < 4294967296 := by omega
  rw [← hs, ← ho]
  clear hs ho
  have H1 := fun W => Lib.hid (told_any s o 1 W)
  obtain ⟨V, hV⟩ : ∃ V, V = (if mayL s o then locV s o else locV 0 0) := ⟨_, rfl⟩
  obtain ⟨E, hE⟩ : ∃ E : Int, E = (if mayL s o then 0 else 1) := ⟨_, rfl⟩
  rw [← hV, ← hE]
  rw [← hV, ← hE] at H1
  have hV' : ∃ a b : Nat, V = .agg #[.int .u32 (a : Int), .int .u32 (b : Int)] := by rw [hV]; unfold locV; split <;> exact ⟨_, _, rfl⟩
  obtain ⟨a, b, rfl⟩ := hV'
  clear hV hE
  unfold locV at *
  have q0 := Blk.new w 24 #[.int .u32 0, .int .u32 0]
  have b0 := (Below.refl w.heap.size w).alloc (Nat.le_refl _) (.cells #[.int .u32 0, .int .u32 0] 24)
  go_enter Try.func15, Try.ntmps15
  go_wp2_with fail
  refine (H1 _).out.mono ?_
  rintro e w1 ⟨rfl, b1⟩
  have q1 := q0.after b1
  have c0 := q1.cell 0
  have c1 := q1.cell 1
  have f0 := q1.frozen 0
  have f1 := q1.frozen 1
  have hb1 := b0.trans (b1.mono b0.size)
  go_wp2_with fail
  exact bodyPost_ret (results_cell2 rfl rfl (res_load (cs := #[.int .u32 (a : Int), .int .u32 (b : Int)]) ((q1.set_ 0 _).set_ 1 _) Try.underlying24 rfl (by kernel_rfl))) rfl ⟨rfl, (hb1.setCell (p := ⟨w.heap.size, 0, none⟩) (by simp) _).setCell (p := ⟨w.heap.size, 1, none⟩) (by simp) _⟩
end Go.Proofs.Ytohddbehcfoecaa
