/- Package record: May, Size, Same. For every record. -/
import Derived.Test.YtnkkieiofpplgaaKeyM
import Derived.Test.YtnkkieiofpplgaaLocM
import Derived.Test.YtnkkieiofpplgaaLocEqM
namespace Go.Proofs.Ytnkkieiofpplgaa
open Go.RowKit

/-- a record, as a value -/
def recV (q : Nat) (k : Int) (K V : Value) (s o : Nat) : Value := .agg #[.int .u64 (q : Int), .int .i64 k, K, V, .int .u32 (s : Int), .int .u32 (o : Int)]
def kindR (k : Int) (m : Nat) : Bool := decide (k = 1) || (decide (k = 2) && decide (m = 0))
def seqR (q : Nat) : Bool := decide (1 ≤ q) && decide (q ≤ 1099511627776)
def mayR (q : Nat) (k : Int) (n m s o : Nat) : Bool := kindR k m && (seqR q && (mayB n && (mayV m && mayL s o)))

set_option maxRecDepth 10000 in
theorem mayR_kone (q : Nat) (A : Option Addr) (n c : Nat) (B : Option Addr) (m d : Nat) (s o : Nat) (w : World) (hn : n ≤ 9223372036854775807) :
    Calls Try.prog 27 #[recV q 1 (.slice A n c) (.slice B m d) s o] w fun e w' => e = .returned (.bool (seqR q && (mayB n && (mayV m && mayL s o)))) ∧ Below w.heap.size w w' := by
  unfold recV
  have H1 := fun W => Lib.hid (mayK_any A n c W hn)
  have H2 := fun W => Lib.hid (mayKV_any B m d W)
  have H3 := fun W => Lib.hid (mayLoc_any s o W)
  unfold locV at H3
  generalize mayB n = x1 at *
  generalize mayV m = x2 at *
  generalize mayL s o = x3 at *
  obtain ⟨y, hy⟩ : ∃ y, y = seqR q := ⟨_, rfl⟩
  rw [← hy]
  unfold seqR at hy
  by_cases g1 : 1 ≤ q
  · by_cases g2 : q ≤ 1099511627776
    · rw [decide_eq_true g1, decide_eq_true g2] at hy
      subst hy
      have q0 := Blk.new w 38 #[.int .u64 (q : Int), .int .i64 1, .slice A n c, .slice B m d, .int .u32 (s : Int), .int .u32 (o : Int)]
      have b0 := (Below.refl w.heap.size w).alloc (Nat.le_refl _) (.cells #[.int .u64 (q : Int), .int .i64 1, .slice A n c, .slice B m d, .int .u32 (s : Int), .int .u32 (o : Int)] 38)
      go_enter Try.func27, Try.ntmps27
      go_wp2_with fail
      refine (H1 _).out.mono ?_
      rintro e w1 ⟨rfl, rfl⟩
      clear H1
      cases x1
      · go_wp2_with fail
        go_ret
        exact ⟨by simp, b0⟩
      · go_wp2_with fail
        refine (H2 _).out.mono ?_
        rintro e w1 ⟨rfl, rfl⟩
        clear H2
        cases x2
        · go_wp2_with fail
          go_ret
          exact ⟨by simp, b0⟩
        · go_wp2_with fail
          refine (H3 _).out.mono ?_
          rintro e w1 ⟨rfl, b1⟩
          go_wp2_with fail
          go_ret
          exact ⟨by simp, b0.trans (b1.mono b0.size)⟩
    · rw [decide_eq_false g2, Bool.and_false] at hy
      subst hy
      have q0 := Blk.new w 38 #[.int .u64 (q : Int), .int .i64 1, .slice A n c, .slice B m d, .int .u32 (s : Int), .int .u32 (o : Int)]
      have b0 := (Below.refl w.heap.size w).alloc (Nat.le_refl _) (.cells #[.int .u64 (q : Int), .int .i64 1, .slice A n c, .slice B m d, .int .u32 (s : Int), .int .u32 (o : Int)] 38)
      go_enter Try.func27, Try.ntmps27
      go_wp2_with fail
      go_ret
      exact ⟨rfl, b0⟩
  · rw [decide_eq_false g1, Bool.false_and] at hy
    subst hy
    have q0 := Blk.new w 38 #[.int .u64 (q : Int), .int .i64 1, .slice A n c, .slice B m d, .int .u32 (s : Int), .int .u32 (o : Int)]
    have b0 := (Below.refl w.heap.size w).alloc (Nat.le_refl _) (.cells #[.int .u64 (q : Int), .int .i64 1, .slice A n c, .slice B m d, .int .u32 (s : Int), .int .u32 (o : Int)] 38)
    go_enter Try.func27, Try.ntmps27
    go_wp2_with fail
    go_ret
    exact ⟨rfl, b0⟩

set_option maxRecDepth 10000 in
theorem mayR_ktwo (q : Nat) (A : Option Addr) (n c : Nat) (B : Option Addr) (m d : Nat) (s o : Nat) (w : World) (hn : n ≤ 9223372036854775807) (h0 : m = 0) :
    Calls Try.prog 27 #[recV q 2 (.slice A n c) (.slice B m d) s o] w fun e w' => e = .returned (.bool (seqR q && (mayB n && (mayV m && mayL s o)))) ∧ Below w.heap.size w w' := by
  unfold recV
  have i0 : ((m : Int) == 0) = true := by simp [h0]
  have H1 := fun W => Lib.hid (mayK_any A n c W hn)
  have H2 := fun W => Lib.hid (mayKV_any B m d W)
  have H3 := fun W => Lib.hid (mayLoc_any s o W)
  unfold locV at H3
  generalize mayB n = x1 at *
  generalize mayV m = x2 at *
  generalize mayL s o = x3 at *
  clear h0
  obtain ⟨y, hy⟩ : ∃ y, y = seqR q := ⟨_, rfl⟩
  rw [← hy]
  unfold seqR at hy
  by_cases g1 : 1 ≤ q
  · by_cases g2 : q ≤ 1099511627776
    · rw [decide_eq_true g1, decide_eq_true g2] at hy
      subst hy
      have q0 := Blk.new w 38 #[.int .u64 (q : Int), .int .i64 2, .slice A n c, .slice B m d, .int .u32 (s : Int), .int .u32 (o : Int)]
      have b0 := (Below.refl w.heap.size w).alloc (Nat.le_refl _) (.cells #[.int .u64 (q : Int), .int .i64 2, .slice A n c, .slice B m d, .int .u32 (s : Int), .int .u32 (o : Int)] 38)
      go_enter Try.func27, Try.ntmps27
      go_wp2_with fail
      refine (H1 _).out.mono ?_
      rintro e w1 ⟨rfl, rfl⟩
      clear H1
      cases x1
      · go_wp2_with fail
        go_ret
        exact ⟨by simp, b0⟩
      · go_wp2_with fail
        refine (H2 _).out.mono ?_
        rintro e w1 ⟨rfl, rfl⟩
        clear H2
        cases x2
        · go_wp2_with fail
          go_ret
          exact ⟨by simp, b0⟩
        · go_wp2_with fail
          refine (H3 _).out.mono ?_
          rintro e w1 ⟨rfl, b1⟩
          go_wp2_with fail
          go_ret
          exact ⟨by simp, b0.trans (b1.mono b0.size)⟩
    · rw [decide_eq_false g2, Bool.and_false] at hy
      subst hy
      have q0 := Blk.new w 38 #[.int .u64 (q : Int), .int .i64 2, .slice A n c, .slice B m d, .int .u32 (s : Int), .int .u32 (o : Int)]
      have b0 := (Below.refl w.heap.size w).alloc (Nat.le_refl _) (.cells #[.int .u64 (q : Int), .int .i64 2, .slice A n c, .slice B m d, .int .u32 (s : Int), .int .u32 (o : Int)] 38)
      go_enter Try.func27, Try.ntmps27
      go_wp2_with fail
      go_ret
      exact ⟨rfl, b0⟩
  · rw [decide_eq_false g1, Bool.false_and] at hy
    subst hy
    have q0 := Blk.new w 38 #[.int .u64 (q : Int), .int .i64 2, .slice A n c, .slice B m d, .int .u32 (s : Int), .int .u32 (o : Int)]
    have b0 := (Below.refl w.heap.size w).alloc (Nat.le_refl _) (.cells #[.int .u64 (q : Int), .int .i64 2, .slice A n c, .slice B m d, .int .u32 (s : Int), .int .u32 (o : Int)] 38)
    go_enter Try.func27, Try.ntmps27
    go_wp2_with fail
    go_ret
    exact ⟨rfl, b0⟩

set_option maxRecDepth 10000 in
theorem mayR_any (q : Nat) (k : Int) (A : Option Addr) (n c : Nat) (B : Option Addr) (m d : Nat) (s o : Nat) (w : World) (hn : n ≤ 9223372036854775807) :
    Calls Try.prog 27 #[recV q k (.slice A n c) (.slice B m d) s o] w fun e w' => e = .returned (.bool (mayR q k n m s o)) ∧ Below w.heap.size w w' := by
  by_cases h1 : k = 1
  · subst h1
    have e : mayR q 1 n m s o = (seqR q && (mayB n && (mayV m && mayL s o))) := by unfold mayR kindR; simp
    rw [e]
    exact mayR_kone q A n c B m d s o w hn
  · have i1 : (k == 1) = false := by simp [h1]
    by_cases h2 : k = 2
    · subst h2
      by_cases h0 : m = 0
      · have e : mayR q 2 n m s o = (seqR q && (mayB n && (mayV m && mayL s o))) := by unfold mayR kindR; simp [h0]
        rw [e]
        exact mayR_ktwo q A n c B m d s o w hn h0
      · have e : mayR q 2 n m s o = false := by unfold mayR kindR; simp [h0]
        have i0 : ((m : Int) == 0) = false := by simp; omega
        rw [e]
        unfold recV
        clear e h0 h1 i1
        have q0 := Blk.new w 38 #[.int .u64 (q : Int), .int .i64 2, .slice A n c, .slice B m d, .int .u32 (s : Int), .int .u32 (o : Int)]
        have b0 := (Below.refl w.heap.size w).alloc (Nat.le_refl _) (.cells #[.int .u64 (q : Int), .int .i64 2, .slice A n c, .slice B m d, .int .u32 (s : Int), .int .u32 (o : Int)] 38)
        go_enter Try.func27, Try.ntmps27
        go_wp2_with fail
        go_ret
        exact ⟨rfl, b0⟩
    · have e : mayR q k n m s o = false := by unfold mayR kindR; simp [h1, h2]
      have i2 : (k == 2) = false := by simp [h2]
      rw [e]
      unfold recV
      clear e h1 h2
      have q0 := Blk.new w 38 #[.int .u64 (q : Int), .int .i64 k, .slice A n c, .slice B m d, .int .u32 (s : Int), .int .u32 (o : Int)]
      have b0 := (Below.refl w.heap.size w).alloc (Nat.le_refl _) (.cells #[.int .u64 (q : Int), .int .i64 k, .slice A n c, .slice B m d, .int .u32 (s : Int), .int .u32 (o : Int)] 38)
      go_enter Try.func27, Try.ntmps27
      go_wp2_with fail
      go_ret
      exact ⟨rfl, b0⟩

end Go.Proofs.Ytnkkieiofpplgaa
