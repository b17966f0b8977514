/- Package record: May, Size, Same. For every record. -/
import Derived.Test.YtfapipamohlniaaDoorKeyM
import Derived.Test.YtfapipamohlniaaDoorLocM
import Derived.Test.YtfapipamohlniaaDoorLocEqM
import Derived.Test.YtfapipamohlniaaDoorLeLaw
namespace Go.Proofs.YtfapipamohlniaaDoor
open Go.RowKit

/-- a record, as a value -/
def recV (q : Nat) (k : Int) (K V : Value) (s o : Nat) : Value := .agg #[.int .u64 (q : Int), .int .i64 k, K, V, .int .u32 (s : Int), .int .u32 (o : Int)]
def kindR (k : Int) (m : Nat) : Bool := decide (k = 1) || (decide (k = 2) && decide (m = 0))
def seqR (q : Nat) : Bool := decide (1 ≤ q) && decide (q ≤ 1099511627776)
def mayR (q : Nat) (k : Int) (n m s o : Nat) : Bool := kindR k m && (seqR q && (mayB n && (mayV m && mayL s o)))

set_option maxRecDepth 10000 in
theorem mayR_kone (q : Nat) (A : Option Addr) (n c : Nat) (B : Option Addr) (m d : Nat) (s o : Nat) (w : World) (hn : n ≤ 9223372036854775807) :
    Calls Tryd.prog 50 #[recV q 1 (.slice A n c) (.slice B m d) s o] w fun e w' => e = .returned (.bool (seqR q && (mayB n && (mayV m && mayL s o)))) ∧ Below w.heap.size w w' := by
  unfold recV
  have H1 := fun W => Lib.hid (mayK_any A n c W hn)
  have H2 := fun W => Lib.hid (mayKV_any B m d W)
  have H3 := fun W => Lib.hid (mayLoc_any s o W)
  unfold locV at H3
  generalize mayB n = x1 at *
  generalize mayV m = x2 at *
  generalize mayL s o = x3 at *
  obtain ⟨y, hy⟩ : ∃ y, y = seqR q := ⟨_, rfl⟩
  rw [← hy]
  unfold seqR at hy
  by_cases g1 : 1 ≤ q
  · by_cases g2 : q ≤ 1099511627776
    · rw [decide_eq_true g1, decide_eq_true g2] at hy
      subst hy
      have q0 := Blk.new w 44 #[.int .u64 (q : Int), .int .i64 1, .slice A n c, .slice B m d, .int .u32 (s : Int), .int .u32 (o : Int)]
      have b0 := (Below.refl w.heap.size w).alloc (Nat.le_refl _) (.cells #[.int .u64 (q : Int), .int .i64 1, .slice A n c, .slice B m d, .int .u32 (s : Int), .int .u32 (o : Int)] 44)
      go_enter Tryd.func50, Tryd.ntmps50
      go_wp2_with fail
      refine (H1 _).out.mono ?_
      rintro e w1 ⟨rfl, rfl⟩
      clear H1
      cases x1
      · go_wp2_with fail
        go_ret
        exact ⟨by simp, b0⟩
      · go_wp2_with fail
        refine (H2 _).out.mono ?_
        rintro e w1 ⟨rfl, rfl⟩
        clear H2
        cases x2
        · go_wp2_with fail
          go_ret
          exact ⟨by simp, b0⟩
        · go_wp2_with fail
          refine (H3 _).out.mono ?_
          rintro e w1 ⟨rfl, b1⟩
          go_wp2_with fail
          go_ret
          exact ⟨by simp, b0.trans (b1.mono b0.size)⟩
    · rw [decide_eq_false g2, Bool.and_false] at hy
      subst hy
      have q0 := Blk.new w 44 #[.int .u64 (q : Int), .int .i64 1, .slice A n c, .slice B m d, .int .u32 (s : Int), .int .u32 (o : Int)]
      have b0 := (Below.refl w.heap.size w).alloc (Nat.le_refl _) (.cells #[.int .u64 (q : Int), .int .i64 1, .slice A n c, .slice B m d, .int .u32 (s : Int), .int .u32 (o : Int)] 44)
      go_enter Tryd.func50, Tryd.ntmps50
      go_wp2_with fail
      go_ret
      exact ⟨rfl, b0⟩
  · rw [decide_eq_false g1, Bool.false_and] at hy
    subst hy
    have q0 := Blk.new w 44 #[.int .u64 (q : Int), .int .i64 1, .slice A n c, .slice B m d, .int .u32 (s : Int), .int .u32 (o : Int)]
    have b0 := (Below.refl w.heap.size w).alloc (Nat.le_refl _) (.cells #[.int .u64 (q : Int), .int .i64 1, .slice A n c, .slice B m d, .int .u32 (s : Int), .int .u32 (o : Int)] 44)
    go_enter Tryd.func50, Tryd.ntmps50
    go_wp2_with fail
    go_ret
    exact ⟨rfl, b0⟩

set_option maxRecDepth 10000 in
theorem mayR_ktwo (q : Nat) (A : Option Addr) (n c : Nat) (B : Option Addr) (m d : Nat) (s o : Nat) (w : World) (hn : n ≤ 9223372036854775807) (h0 : m = 0) :
    Calls Tryd.prog 50 #[recV q 2 (.slice A n c) (.slice B m d) s o] w fun e w' => e = .returned (.bool (seqR q && (mayB n && (mayV m && mayL s o)))) ∧ Below w.heap.size w w' := by
  unfold recV
  have i0 : ((m : Int) == 0) = true := by simp [h0]
  have H1 := fun W => Lib.hid (mayK_any A n c W hn)
  have H2 := fun W => Lib.hid (mayKV_any B m d W)
  have H3 := fun W => Lib.hid (mayLoc_any s o W)
  unfold locV at H3
  generalize mayB n = x1 at *
  generalize mayV m = x2 at *
  generalize mayL s o = x3 at *
  clear h0
  obtain ⟨y, hy⟩ : ∃ y, y = seqR q := ⟨_, rfl⟩
  rw [← hy]
  unfold seqR at hy
  by_cases g1 : 1 ≤ q
  · by_cases g2 : q ≤ 1099511627776
    · rw [decide_eq_true g1, decide_eq_true g2] at hy
      subst hy
      have q0 := Blk.new w 44 #[.int .u64 (q : Int), .int .i64 2, .slice A n c, .slice B m d, .int .u32 (s : Int), .int .u32 (o : Int)]
      have b0 := (Below.refl w.heap.size w).alloc (Nat.le_refl _) (.cells #[.int .u64 (q : Int), .int .i64 2, .slice A n c, .slice B m d, .int .u32 (s : Int), .int .u32 (o : Int)] 44)
      go_enter Tryd.func50, Tryd.ntmps50
      go_wp2_with fail
      refine (H1 _).out.mono ?_
      rintro e w1 ⟨rfl, rfl⟩
      clear H1
      cases x1
      · go_wp2_with fail
        go_ret
        exact ⟨by simp, b0⟩
      · go_wp2_with fail
        refine (H2 _).out.mono ?_
        rintro e w1 ⟨rfl, rfl⟩
        clear H2
        cases x2
        · go_wp2_with fail
          go_ret
          exact ⟨by simp, b0⟩
        · go_wp2_with fail
          refine (H3 _).out.mono ?_
          rintro e w1 ⟨rfl, b1⟩
          go_wp2_with fail
          go_ret
          exact ⟨by simp, b0.trans (b1.mono b0.size)⟩
    · rw [decide_eq_false g2, Bool.and_false] at hy
      subst hy
      have q0 := Blk.new w 44 #[.int .u64 (q : Int), .int .i64 2, .slice A n c, .slice B m d, .int .u32 (s : Int), .int .u32 (o : Int)]
      have b0 := (Below.refl w.heap.size w).alloc (Nat.le_refl _) (.cells #[.int .u64 (q : Int), .int .i64 2, .slice A n c, .slice B m d, .int .u32 (s : Int), .int .u32 (o : Int)] 44)
      go_enter Tryd.func50, Tryd.ntmps50
      go_wp2_with fail
      go_ret
      exact ⟨rfl, b0⟩
  · rw [decide_eq_false g1, Bool.false_and] at hy
    subst hy
    have q0 := Blk.new w 44 #[.int .u64 (q : Int), .int .i64 2, .slice A n c, .slice B m d, .int .u32 (s : Int), .int .u32 (o : Int)]
    have b0 := (Below.refl w.heap.size w).alloc (Nat.le_refl _) (.cells #[.int .u64 (q : Int), .int .i64 2, .slice A n c, .slice B m d, .int .u32 (s : Int), .int .u32 (o : Int)] 44)
    go_enter Tryd.func50, Tryd.ntmps50
    go_wp2_with fail
    go_ret
    exact ⟨rfl, b0⟩

set_option maxRecDepth 10000 in
theorem mayR_any (q : Nat) (k : Int) (A : Option Addr) (n c : Nat) (B : Option Addr) (m d : Nat) (s o : Nat) (w : World) (hn : n ≤ 9223372036854775807) :
    Calls Tryd.prog 50 #[recV q k (.slice A n c) (.slice B m d) s o] w fun e w' => e = .returned (.bool (mayR q k n m s o)) ∧ Below w.heap.size w w' := by
  by_cases h1 : k = 1
  · subst h1
    have e : mayR q 1 n m s o = (seqR q && (mayB n && (mayV m && mayL s o))) := by unfold mayR kindR; simp
    rw [e]
    exact mayR_kone q A n c B m d s o w hn
  · have i1 : (k == 1) = false := by simp [h1]
    by_cases h2 : k = 2
    · subst h2
      by_cases h0 : m = 0
      · have e : mayR q 2 n m s o = (seqR q && (mayB n && (mayV m && mayL s o))) := by unfold mayR kindR; simp [h0]
        rw [e]
        exact mayR_ktwo q A n c B m d s o w hn h0
      · have e : mayR q 2 n m s o = false := by unfold mayR kindR; simp [h0]
        have i0 : ((m : Int) == 0) = false := by simp; omega
        rw [e]
        unfold recV
        clear e h0 h1 i1
        have q0 := Blk.new w 44 #[.int .u64 (q : Int), .int .i64 2, .slice A n c, .slice B m d, .int .u32 (s : Int), .int .u32 (o : Int)]
        have b0 := (Below.refl w.heap.size w).alloc (Nat.le_refl _) (.cells #[.int .u64 (q : Int), .int .i64 2, .slice A n c, .slice B m d, .int .u32 (s : Int), .int .u32 (o : Int)] 44)
        go_enter Tryd.func50, Tryd.ntmps50
        go_wp2_with fail
        go_ret
        exact ⟨rfl, b0⟩
    · have e : mayR q k n m s o = false := by unfold mayR kindR; simp [h1, h2]
      have i2 : (k == 2) = false := by simp [h2]
      rw [e]
      unfold recV
      clear e h1 h2
      have q0 := Blk.new w 44 #[.int .u64 (q : Int), .int .i64 k, .slice A n c, .slice B m d, .int .u32 (s : Int), .int .u32 (o : Int)]
      have b0 := (Below.refl w.heap.size w).alloc (Nat.le_refl _) (.cells #[.int .u64 (q : Int), .int .i64 k, .slice A n c, .slice B m d, .int .u32 (s : Int), .int .u32 (o : Int)] 44)
      go_enter Tryd.func50, Tryd.ntmps50
      go_wp2_with fail
      go_ret
      exact ⟨rfl, b0⟩

theorem sizeR_any (q : Nat) (k : Int) (A : Option Addr) (n c : Nat) (B : Option Addr) (m d : Nat) (s o : Nat) (w : World) (hn : n ≤ 4611686018427387000) (hm : m ≤ 4611686018427387000) :
    Calls Tryd.prog 51 #[recV q k (.slice A n c) (.slice B m d) s o] w fun e w' => e = .returned (.int .i64 ((25 + n + m : Nat) : Int)) ∧ Below w.heap.size w w' := by
  unfold recV
  have q0 := Blk.new w 44 #[.int .u64 (q : Int), .int .i64 k, .slice A n c, .slice B m d, .int .u32 (s : Int), .int .u32 (o : Int)]
  have b0 := (Below.refl w.heap.size w).alloc (Nat.le_refl _) (.cells #[.int .u64 (q : Int), .int .i64 k, .slice A n c, .slice B m d, .int .u32 (s : Int), .int .u32 (o : Int)] 44)
  go_enter Tryd.func51, Tryd.ntmps51
  go_wp2_with fail
  go_ret
  exact ⟨ret_int (by omega), b0⟩

def sameR (q : Nat) (k : Int) (a b : List UInt8) (s o : Nat) (q' : Nat) (k' : Int) (a' b' : List UInt8) (s' o' : Nat) : Bool := decide (q = q') && (decide (k = k') && (decide (s = s' ∧ o = o') && (a == a' && b == b')))

set_option maxRecDepth 10000 in
set_option maxHeartbeats 1000000 in
theorem sameR_any (q : Nat) (k : Int) (a b : List UInt8) (A : Option Addr) (n c : Nat) (B : Option Addr) (m d : Nat) (s o : Nat) (q' : Nat) (k' : Int) (a' b' : List UInt8) (A' : Option Addr) (n' c' : Nat) (B' : Option Addr) (m' d' : Nat) (s' o' : Nat) (w : World)
    (ha : Rd w w.heap.size 1 A n (bcells a)) (hb : Rd w w.heap.size 1 B m (bcells b)) (ha' : Rd w w.heap.size 1 A' n' (bcells a')) (hb' : Rd w w.heap.size 1 B' m' (bcells b')) :
    Calls Tryd.prog 19 #[recV q k (.slice A n c) (.slice B m d) s o, recV q' k' (.slice A' n' c') (.slice B' m' d') s' o'] w fun e w' => e = .returned (.bool (sameR q k a b s o q' k' a' b' s' o')) ∧ Below w.heap.size w w' := by
  have ha := ha.allocs (.cells #[.int .u64 (q : Int), .int .i64 k, .slice A n c, .slice B m d, .int .u32 (s : Int), .int .u32 (o : Int)] 44)
  have hb := hb.allocs (.cells #[.int .u64 (q : Int), .int .i64 k, .slice A n c, .slice B m d, .int .u32 (s : Int), .int .u32 (o : Int)] 44)
  have ha' := ha'.allocs (.cells #[.int .u64 (q : Int), .int .i64 k, .slice A n c, .slice B m d, .int .u32 (s : Int), .int .u32 (o : Int)] 44)
  have hb' := hb'.allocs (.cells #[.int .u64 (q : Int), .int .i64 k, .slice A n c, .slice B m d, .int .u32 (s : Int), .int .u32 (o : Int)] 44)
  have ha := ha.allocs (.cells #[.int .u64 (q' : Int), .int .i64 k', .slice A' n' c', .slice B' m' d', .int .u32 (s' : Int), .int .u32 (o' : Int)] 44)
  have hb := hb.allocs (.cells #[.int .u64 (q' : Int), .int .i64 k', .slice A' n' c', .slice B' m' d', .int .u32 (s' : Int), .int .u32 (o' : Int)] 44)
  have ha' := ha'.allocs (.cells #[.int .u64 (q' : Int), .int .i64 k', .slice A' n' c', .slice B' m' d', .int .u32 (s' : Int), .int .u32 (o' : Int)] 44)
  have hb' := hb'.allocs (.cells #[.int .u64 (q' : Int), .int .i64 k', .slice A' n' c', .slice B' m' d', .int .u32 (s' : Int), .int .u32 (o' : Int)] 44)
  have H1 := Lib.hid (equal_any a a' A n c A' n' c' _ ha ha')
  have H2 := Lib.hid (equal_any b b' B m d B' m' d' _ hb hb')
  have b0 := belowAlloc ((Below.refl w.heap.size w).alloc (Nat.le_refl _) (.cells #[.int .u64 (q : Int), .int .i64 k, .slice A n c, .slice B m d, .int .u32 (s : Int), .int .u32 (o : Int)] 44)) (.cells #[.int .u64 (q' : Int), .int .i64 k', .slice A' n' c', .slice B' m' d', .int .u32 (s' : Int), .int .u32 (o' : Int)] 44)
  clear ha hb ha' hb'
  unfold recV
  unfold sameR
  generalize (a == a') = x1 at *
  generalize (b == b') = x2 at *
  by_cases h1 : q = q'
  · subst h1
    rw [decide_eq_true rfl, Bool.true_and]
    by_cases h2 : k = k'
    · subst h2
      rw [decide_eq_true rfl, Bool.true_and]
      by_cases h3 : s = s' ∧ o = o'
      · obtain ⟨rfl, rfl⟩ := h3
        rw [decide_eq_true ⟨rfl, rfl⟩, Bool.true_and]
        go_enter Tryd.func19, Tryd.ntmps19
        go_wp2_with fail
        refine H1.out.mono ?_
        rintro e w1 ⟨rfl, rfl⟩
        cases x1
        · go_wp2_with fail
          go_ret
          exact ⟨rfl, b0⟩
        · go_wp2_with fail
          refine H2.out.mono ?_
          rintro e w1 ⟨rfl, rfl⟩
          go_wp2_with fail
          go_ret
          exact ⟨by simp, b0⟩
      · rw [decide_eq_false h3, Bool.false_and]
        clear H1 H2
        by_cases h4 : s = s'
        · subst h4
          have i4 : ¬ (o : Int) = (o' : Int) := by omega
          clear h3
          go_enter Tryd.func19, Tryd.ntmps19
          go_wp2_with fail
          go_ret
          exact ⟨rfl, b0⟩
        · have i4 : ¬ (s : Int) = (s' : Int) := by omega
          clear h3 h4
          go_enter Tryd.func19, Tryd.ntmps19
          go_wp2_with fail
          go_ret
          exact ⟨rfl, b0⟩
    · rw [decide_eq_false h2, Bool.false_and]
      have i2 : (k == k') = false := by simp [h2]
      clear H1 H2 h2
      go_enter Tryd.func19, Tryd.ntmps19
      go_wp2_with fail
      go_ret
      exact ⟨rfl, b0⟩
  · rw [decide_eq_false h1, Bool.false_and]
    have i2 : ((q : Int) == (q' : Int)) = false := by simp; omega
    clear H1 H2 h1
    go_enter Tryd.func19, Tryd.ntmps19
    go_wp2_with fail
    go_ret
    exact ⟨rfl, b0⟩
end Go.Proofs.YtfapipamohlniaaDoor
