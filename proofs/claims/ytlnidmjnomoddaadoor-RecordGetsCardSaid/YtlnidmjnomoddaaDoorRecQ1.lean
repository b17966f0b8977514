/- The document's answer, chapter 08: May, Same, lay. For every record. -/
import Derived.Test.YtlnidmjnomoddaaDoorRecK
namespace Go.Proofs.YtlnidmjnomoddaaDoor
open Go.RowKit

theorem within_any (s o : Nat) (w : World) : Calls Tryd.prog 57 #[.int .u64 (s : Int), .int .u64 (o : Int)] w fun e w' => e = .returned (.bool (mayL s o)) ∧ w = w' := by
  obtain ⟨b, hb⟩ : ∃ b, b = mayL s o := ⟨_, rfl⟩
  rw [← hb]
  unfold mayL noneB standsB at hb
  by_cases h0 : s = 0
  · subst h0
    obtain rfl : b = decide (o = 0) := by rw [hb, Bool.eq_iff_iff]; simp
    clear hb
    have i2 : ((o : Int) == 0) = decide (o = 0) := by rw [Bool.eq_iff_iff, beq_iff_eq, decide_eq_true_eq]; omega
    go_enter Tryd.func57, Tryd.ntmps57
    go_wp2
    go_ret
    exact ⟨by simp, rfl⟩
  · have i1 : ((s : Int) == 0) = false := by simp; omega
    by_cases h2 : s ≤ 16777215
    · by_cases h3 : 16 ≤ o
      · obtain rfl : b = decide ((o : Int) ≤ 16777216) := by rw [hb, Bool.eq_iff_iff]; simp; omega
        clear hb
        go_enter Tryd.func57, Tryd.ntmps57
        go_wp2
        go_ret
        exact ⟨by simp, rfl⟩
      · obtain rfl : b = false := by rw [hb]; simp; omega
        clear hb
        go_enter Tryd.func57, Tryd.ntmps57
        go_wp2
        go_ret
        exact ⟨rfl, rfl⟩
    · obtain rfl : b = false := by rw [hb]; simp; omega
      clear hb
      go_enter Tryd.func57, Tryd.ntmps57
      go_wp2
      go_ret
      exact ⟨rfl, rfl⟩

theorem rmayLoc_any (s o : Nat) (hs : s < 4294967296) (ho : o < 4294967296) (w : World) : Calls Tryd.prog 46 #[locV s o] w fun e w' => e = .returned (.bool (mayL s o)) ∧ Below w.heap.size w w' := by
  unfold locV
  have H := fun W => Lib.hid (within_any s o W)
  generalize mayL s o = b at *
  go_enter Tryd.func46, Tryd.ntmps46
  go_wp2_with fail
  refine (H _).out.mono ?_
  rintro e w1 ⟨rfl, rfl⟩
  go_wp2_with fail
  go_ret
  exact ⟨rfl, (Below.refl _ _).alloc (Nat.le_refl _) _⟩


theorem rmayK_any (A : Option Addr) (n c : Nat) (w : World) : Calls Tryd.prog 45 #[.slice A n c] w fun e w' => e = .returned (.bool (mayB n)) ∧ w = w' := by
  by_cases h1 : 1 ≤ n
  · by_cases h2 : n ≤ 64
    · have e : mayB n = true := by unfold mayB; simp; omega
      rw [e]
      clear e
      go_enter Tryd.func45, Tryd.ntmps45
      go_wp2
      go_ret
      exact ⟨by simp <;> omega, rfl⟩
    · have e : mayB n = false := by unfold mayB; simp; omega
      rw [e]
      clear e
      go_enter Tryd.func45, Tryd.ntmps45
      go_wp2
      go_ret
      exact ⟨by simp <;> omega, rfl⟩
  · have e : mayB n = false := by unfold mayB; simp; omega
    rw [e]
    clear e
    go_enter Tryd.func45, Tryd.ntmps45
    go_wp2
    go_ret
    exact ⟨by simp <;> omega, rfl⟩

set_option maxRecDepth 10000 in
theorem rmayR_kone (q : Nat) (A : Option Addr) (n c : Nat) (B : Option Addr) (m d : Nat) (s o : Nat) (hs : s < 4294967296) (ho : o < 4294967296) (w : World) :
    Calls Tryd.prog 17 #[recV q 1 (.slice A n c) (.slice B m d) s o] w fun e w' => e = .returned (.bool (seqR q && (mayB n && (mayV m && mayL s o)))) ∧ Below w.heap.size w w' := by
  unfold recV
  have H1 := fun W => Lib.hid (rmayK_any A n c W)
  have H3 := fun W => Lib.hid (rmayLoc_any s o hs ho W)
  unfold locV at H3
  generalize mayB n = x1 at *
  generalize mayL s o = x3 at *
  obtain ⟨y, hy⟩ : ∃ y, y = seqR q := ⟨_, rfl⟩
  rw [← hy]
  unfold seqR at hy
  unfold mayV
  by_cases g0 : m ≤ 1024
  · rw [decide_eq_true g0, Bool.true_and]
    have i9 : ¬ (1024 : Int) < (m : Int) := by omega
    by_cases g1 : 1 ≤ q
    · have i8 : (0 : Int) < (q : Int) := by omega
      by_cases g2 : q ≤ 1099511627776
      · rw [decide_eq_true g1, decide_eq_true g2] at hy
        subst hy
        have q0 := Blk.new w 28 #[.int .u64 (q : Int), .int .i64 1, .slice A n c, .slice B m d, .int .u32 (s : Int), .int .u32 (o : Int)]
        have b0 := (Below.refl w.heap.size w).alloc (Nat.le_refl _) (.cells #[.int .u64 (q : Int), .int .i64 1, .slice A n c, .slice B m d, .int .u32 (s : Int), .int .u32 (o : Int)] 28)
        go_enter Tryd.func17, Tryd.ntmps17
        go_wp2_with fail
        refine (H1 _).out.mono ?_
        rintro e w1 ⟨rfl, rfl⟩
        clear H1
        cases x1
        · go_wp2_with fail
          go_ret
          exact ⟨by simp, b0⟩
        · go_wp2_with fail
          refine (H3 _).out.mono ?_
          rintro e w1 ⟨rfl, b1⟩
          go_wp2_with fail
          go_ret
          exact ⟨by simp, b0.trans (b1.mono b0.size)⟩
      · rw [decide_eq_false g2, Bool.and_false] at hy
        subst hy
        have q0 := Blk.new w 28 #[.int .u64 (q : Int), .int .i64 1, .slice A n c, .slice B m d, .int .u32 (s : Int), .int .u32 (o : Int)]
        have b0 := (Below.refl w.heap.size w).alloc (Nat.le_refl _) (.cells #[.int .u64 (q : Int), .int .i64 1, .slice A n c, .slice B m d, .int .u32 (s : Int), .int .u32 (o : Int)] 28)
        go_enter Tryd.func17, Tryd.ntmps17
        go_wp2_with fail
        go_ret
        exact ⟨rfl, b0⟩
    · rw [decide_eq_false g1, Bool.false_and] at hy
      subst hy
      have q0 := Blk.new w 28 #[.int .u64 (q : Int), .int .i64 1, .slice A n c, .slice B m d, .int .u32 (s : Int), .int .u32 (o : Int)]
      have b0 := (Below.refl w.heap.size w).alloc (Nat.le_refl _) (.cells #[.int .u64 (q : Int), .int .i64 1, .slice A n c, .slice B m d, .int .u32 (s : Int), .int .u32 (o : Int)] 28)
      go_enter Tryd.func17, Tryd.ntmps17
      go_wp2_with fail
      go_ret
      exact ⟨rfl, b0⟩
  · rw [decide_eq_false g0, Bool.false_and, Bool.and_false, Bool.and_false]
    have i9 : (1024 : Int) < (m : Int) := by omega
    have q0 := Blk.new w 28 #[.int .u64 (q : Int), .int .i64 1, .slice A n c, .slice B m d, .int .u32 (s : Int), .int .u32 (o : Int)]
    have b0 := (Below.refl w.heap.size w).alloc (Nat.le_refl _) (.cells #[.int .u64 (q : Int), .int .i64 1, .slice A n c, .slice B m d, .int .u32 (s : Int), .int .u32 (o : Int)] 28)
    go_enter Tryd.func17, Tryd.ntmps17
    go_wp2_with fail
    go_ret
    exact ⟨rfl, b0⟩

set_option maxRecDepth 10000 in
theorem rmayR_ktwo (q : Nat) (A : Option Addr) (n c : Nat) (B : Option Addr) (m d : Nat) (s o : Nat) (hs : s < 4294967296) (ho : o < 4294967296) (w : World) (h0 : m = 0) :
    Calls Tryd.prog 17 #[recV q 2 (.slice A n c) (.slice B m d) s o] w fun e w' => e = .returned (.bool (seqR q && (mayB n && (mayV m && mayL s o)))) ∧ Below w.heap.size w w' := by
  unfold recV
  subst h0
  have H1 := fun W => Lib.hid (rmayK_any A n c W)
  have H3 := fun W => Lib.hid (rmayLoc_any s o hs ho W)
  unfold locV at H3
  generalize mayB n = x1 at *
  generalize mayL s o = x3 at *
  obtain ⟨y, hy⟩ : ∃ y, y = seqR q := ⟨_, rfl⟩
  rw [← hy]
  unfold seqR at hy
  unfold mayV
  by_cases g0 : 0 ≤ 1024
  · rw [decide_eq_true g0, Bool.true_and]
    have i9 : ¬ (1024 : Int) < 0 := by omega
    by_cases g1 : 1 ≤ q
    · have i8 : (0 : Int) < (q : Int) := by omega
      by_cases g2 : q ≤ 1099511627776
      · rw [decide_eq_true g1, decide_eq_true g2] at hy
        subst hy
        have q0 := Blk.new w 28 #[.int .u64 (q : Int), .int .i64 2, .slice A n c, .slice B 0 d, .int .u32 (s : Int), .int .u32 (o : Int)]
        have b0 := (Below.refl w.heap.size w).alloc (Nat.le_refl _) (.cells #[.int .u64 (q : Int), .int .i64 2, .slice A n c, .slice B 0 d, .int .u32 (s : Int), .int .u32 (o : Int)] 28)
        go_enter Tryd.func17, Tryd.ntmps17
        go_wp2_with fail
        refine (H1 _).out.mono ?_
        rintro e w1 ⟨rfl, rfl⟩
        clear H1
        cases x1
        · go_wp2_with fail
          go_ret
          exact ⟨by simp, b0⟩
        · go_wp2_with fail
          refine (H3 _).out.mono ?_
          rintro e w1 ⟨rfl, b1⟩
          go_wp2_with fail
          go_ret
          exact ⟨by simp, b0.trans (b1.mono b0.size)⟩
      · rw [decide_eq_false g2, Bool.and_false] at hy
        subst hy
        have q0 := Blk.new w 28 #[.int .u64 (q : Int), .int .i64 2, .slice A n c, .slice B 0 d, .int .u32 (s : Int), .int .u32 (o : Int)]
        have b0 := (Below.refl w.heap.size w).alloc (Nat.le_refl _) (.cells #[.int .u64 (q : Int), .int .i64 2, .slice A n c, .slice B 0 d, .int .u32 (s : Int), .int .u32 (o : Int)] 28)
        go_enter Tryd.func17, Tryd.ntmps17
        go_wp2_with fail
        go_ret
        exact ⟨rfl, b0⟩
    · rw [decide_eq_false g1, Bool.false_and] at hy
      subst hy
      have q0 := Blk.new w 28 #[.int .u64 (q : Int), .int .i64 2, .slice A n c, .slice B 0 d, .int .u32 (s : Int), .int .u32 (o : Int)]
      have b0 := (Below.refl w.heap.size w).alloc (Nat.le_refl _) (.cells #[.int .u64 (q : Int), .int .i64 2, .slice A n c, .slice B 0 d, .int .u32 (s : Int), .int .u32 (o : Int)] 28)
      go_enter Tryd.func17, Tryd.ntmps17
      go_wp2_with fail
      go_ret
      exact ⟨rfl, b0⟩
  · rw [decide_eq_false g0, Bool.false_and, Bool.and_false, Bool.and_false]
    have i9 : (1024 : Int) < 0 := by omega
    omega

set_option maxRecDepth 10000 in
theorem rmayR_any (q : Nat) (k : Int) (A : Option Addr) (n c : Nat) (B : Option Addr) (m d : Nat) (s o : Nat) (hs : s < 4294967296) (ho : o < 4294967296) (w : World) :
    Calls Tryd.prog 17 #[recV q k (.slice A n c) (.slice B m d) s o] w fun e w' => e = .returned (.bool (mayR q k n m s o)) ∧ Below w.heap.size w w' := by
  by_cases h1 : k = 1
  · subst h1
    have e : mayR q 1 n m s o = (seqR q && (mayB n && (mayV m && mayL s o))) := by unfold mayR kindR; simp
    rw [e]
    exact rmayR_kone q A n c B m d s o hs ho w
  · have i1 : (k != 1) = true := by simpa using h1
    by_cases h2 : k = 2
    · subst h2
      by_cases h0 : m = 0
      · have e : mayR q 2 n m s o = (seqR q && (mayB n && (mayV m && mayL s o))) := by unfold mayR kindR; simp [h0]
        rw [e]
        exact rmayR_ktwo q A n c B m d s o hs ho w h0
      · have e : mayR q 2 n m s o = false := by unfold mayR kindR; simp [h0]
        have i0 : (0 : Int) < (m : Int) := by omega
        rw [e]
        unfold recV
        clear e h0 h1 i1
        have q0 := Blk.new w 28 #[.int .u64 (q : Int), .int .i64 2, .slice A n c, .slice B m d, .int .u32 (s : Int), .int .u32 (o : Int)]
        have b0 := (Below.refl w.heap.size w).alloc (Nat.le_refl _) (.cells #[.int .u64 (q : Int), .int .i64 2, .slice A n c, .slice B m d, .int .u32 (s : Int), .int .u32 (o : Int)] 28)
        go_enter Tryd.func17, Tryd.ntmps17
        go_wp2_with fail
        go_ret
        exact ⟨rfl, b0⟩
    · have e : mayR q k n m s o = false := by unfold mayR kindR; simp [h1, h2]
      have i2 : (k != 2) = true := by simpa using h2
      rw [e]
      unfold recV
      clear e h1 h2
      have q0 := Blk.new w 28 #[.int .u64 (q : Int), .int .i64 k, .slice A n c, .slice B m d, .int .u32 (s : Int), .int .u32 (o : Int)]
      have b0 := (Below.refl w.heap.size w).alloc (Nat.le_refl _) (.cells #[.int .u64 (q : Int), .int .i64 k, .slice A n c, .slice B m d, .int .u32 (s : Int), .int .u32 (o : Int)] 28)
      go_enter Tryd.func17, Tryd.ntmps17
      go_wp2_with fail
      go_ret
      exact ⟨rfl, b0⟩

set_option maxRecDepth 10000 in
set_option maxHeartbeats 1000000 in
theorem rsameR_any (q : Nat) (k : Int) (a b : List UInt8) (A : Option Addr) (n c : Nat) (B : Option Addr) (m d : Nat) (s o : Nat) (q' : Nat) (k' : Int) (a' b' : List UInt8) (A' : Option Addr) (n' c' : Nat) (B' : Option Addr) (m' d' : Nat) (s' o' : Nat) (w : World)
    (ha : Rd w w.heap.size 1 A n (bcells a)) (hb : Rd w w.heap.size 1 B m (bcells b)) (ha' : Rd w w.heap.size 1 A' n' (bcells a')) (hb' : Rd w w.heap.size 1 B' m' (bcells b')) :
    Calls Tryd.prog 11 #[recV q k (.slice A n c) (.slice B m d) s o, recV q' k' (.slice A' n' c') (.slice B' m' d') s' o'] w fun e w' => e = .returned (.bool (sameR q k a b s o q' k' a' b' s' o')) ∧ Below w.heap.size w w' := by
  have ha := (ha.allocs (.cells #[.int .u64 (q : Int), .int .i64 k, .slice A n c, .slice B m d, .int .u32 (s : Int), .int .u32 (o : Int)] 28)).allocs (.cells #[.int .u64 (q' : Int), .int .i64 k', .slice A' n' c', .slice B' m' d', .int .u32 (s' : Int), .int .u32 (o' : Int)] 28)
  have hb := (hb.allocs (.cells #[.int .u64 (q : Int), .int .i64 k, .slice A n c, .slice B m d, .int .u32 (s : Int), .int .u32 (o : Int)] 28)).allocs (.cells #[.int .u64 (q' : Int), .int .i64 k', .slice A' n' c', .slice B' m' d', .int .u32 (s' : Int), .int .u32 (o' : Int)] 28)
  have ha' := (ha'.allocs (.cells #[.int .u64 (q : Int), .int .i64 k, .slice A n c, .slice B m d, .int .u32 (s : Int), .int .u32 (o : Int)] 28)).allocs (.cells #[.int .u64 (q' : Int), .int .i64 k', .slice A' n' c', .slice B' m' d', .int .u32 (s' : Int), .int .u32 (o' : Int)] 28)
  have hb' := (hb'.allocs (.cells #[.int .u64 (q : Int), .int .i64 k, .slice A n c, .slice B m d, .int .u32 (s : Int), .int .u32 (o : Int)] 28)).allocs (.cells #[.int .u64 (q' : Int), .int .i64 k', .slice A' n' c', .slice B' m' d', .int .u32 (s' : Int), .int .u32 (o' : Int)] 28)
  have C := fun A n c B l W (h : Rd W B 1 A n (bcells l)) => run_conv (P := Tryd.prog) Tryd.underlying22 Tryd.underlying5 Tryd.underlying9 c h
  have f1 := C A n c _ a _ ha
  have f2 := C B m d _ b _ hb
  have f3 := C A' n' c' _ a' _ ha'
  have f4 := C B' m' d' _ b' _ hb'
  have e1 := str_beq a a'
  have e2 := str_beq b b'
  have e3 : ((⟨a.toArray⟩ : ByteArray).toList == (⟨a'.toArray⟩ : ByteArray).toList) = (a == a') := by rw [Lib.toList_data, Lib.toList_data]
  have e4 : ((⟨b.toArray⟩ : ByteArray).toList == (⟨b'.toArray⟩ : ByteArray).toList) = (b == b') := by rw [Lib.toList_data, Lib.toList_data]
  generalize (⟨a.toArray⟩ : ByteArray) = S1 at *
  generalize (⟨b.toArray⟩ : ByteArray) = S2 at *
  generalize (⟨a'.toArray⟩ : ByteArray) = S3 at *
  generalize (⟨b'.toArray⟩ : ByteArray) = S4 at *
  have b0 := belowAlloc ((Below.refl w.heap.size w).alloc (Nat.le_refl _) (.cells #[.int .u64 (q : Int), .int .i64 k, .slice A n c, .slice B m d, .int .u32 (s : Int), .int .u32 (o : Int)] 28)) (.cells #[.int .u64 (q' : Int), .int .i64 k', .slice A' n' c', .slice B' m' d', .int .u32 (s' : Int), .int .u32 (o' : Int)] 28)
  clear ha hb ha' hb' C
  unfold recV
  unfold sameR
  generalize (a == a') = x1 at *
  generalize (b == b') = x2 at *
  by_cases h1 : q = q'
  · subst h1
    rw [decide_eq_true rfl, Bool.true_and]
    by_cases h2 : k = k'
    · subst h2
      rw [decide_eq_true rfl, Bool.true_and]
      by_cases h3 : s = s' ∧ o = o'
      · obtain ⟨rfl, rfl⟩ := h3
        rw [decide_eq_true ⟨rfl, rfl⟩, Bool.true_and]
        cases x1
        · go_enter Tryd.func11, Tryd.ntmps11
          go_wp2_with fail
          go_ret
          exact ⟨rfl, b0⟩
        · cases x2
          · go_enter Tryd.func11, Tryd.ntmps11
            go_wp2_with fail
            go_ret
            exact ⟨rfl, b0⟩
          · go_enter Tryd.func11, Tryd.ntmps11
            go_wp2_with fail
            go_ret
            exact ⟨rfl, b0⟩
      · rw [decide_eq_false h3, Bool.false_and]
        clear e1 e2 e3 e4
        by_cases h4 : s = s'
        · subst h4
          have i4 : ((o : Int) == (o' : Int)) = false := by simp; omega
          clear h3
          go_enter Tryd.func11, Tryd.ntmps11
          go_wp2_with fail
          go_ret
          exact ⟨rfl, b0⟩
        · have i4 : ((s : Int) == (s' : Int)) = false := by simp; omega
          clear h3 h4
          go_enter Tryd.func11, Tryd.ntmps11
          go_wp2_with fail
          go_ret
          exact ⟨rfl, b0⟩
    · rw [decide_eq_false h2, Bool.false_and]
      have i2 : (k == k') = false := by simp [h2]
      clear e1 e2 e3 e4 h2
      go_enter Tryd.func11, Tryd.ntmps11
      go_wp2_with fail
      go_ret
      exact ⟨rfl, b0⟩
  · rw [decide_eq_false h1, Bool.false_and]
    have i2 : ((q : Int) == (q' : Int)) = false := by simp; omega
    clear e1 e2 e3 e4 h1
    go_enter Tryd.func11, Tryd.ntmps11
    go_wp2_with fail
    go_ret
    exact ⟨rfl, b0⟩

def RetOwnB (B0 E n : Nat) (xs : List Value) (w : World) (e : Ending) (w' : World) : Prop := ∃ v, e = .returned v ∧ w'.ownsRow B0 E 1 v n xs ∧ Below B0 w w' ∧ w.heap.size ≤ w'.heap.size
set_option maxRecDepth 10000 in
theorem rlay_any (l : List UInt8) (v : Value) (n : Nat) (x size : Nat) (hx : x < 18446744073709551616) (hsz : size ≤ 8) (w : World) (B0 : Nat) (hB0 : B0 ≤ w.heap.size) (hn : n ≤ 1000000) (h : w.ownsRow B0 5 1 v n (bcells l)) :
    Calls Tryd.prog 40 #[v, .int .u64 (x : Int), .int .i64 (size : Int)] w (RetOwnB B0 5 (n + size) (bcells (l ++ le x size)) w) := by
  obtain ⟨A, c, rfl, hnc⟩ := own_cap h
  go_enter Tryd.func40, Tryd.ntmps40
  go_wp2_with fail
  go_loopw [0, 1, 7] (fun b nn i wr => ∃ j : Nat, j ≤ size ∧ i = .int .i64 (j : Int) ∧ nn = .int .u64 ((x / 256 ^ j : Nat) : Int) ∧ wr.ownsRow B0 5 1 b (n + j) (bcells (l ++ le x j)) ∧ Below B0 w wr ∧ w.heap.size ≤ wr.heap.size) (fun _ _ i _ => size - (intOf i).toNat)
  case atStart => exact ⟨0, by omega, rfl, by simp, by simpa [le] using h, Below.refl _ _, Nat.le_refl _⟩
  case round =>
    obtain ⟨j, hj, rfl, rfl, ho, hb, hs⟩ := hrel
    by_cases hlt : j < size
    · have hle := le_succ x j
      have h256 : x / 2 ^ (8 * j) = x / 256 ^ j := by rw [Nat.pow_mul]
      rw [h256] at hle
      have HL := Lib.hid hle
      obtain ⟨y, hy⟩ : ∃ y, y = x / 256 ^ j := ⟨_, rfl⟩
      have hyl : y < 18446744073709551616 := by rw [hy]; exact Nat.lt_of_le_of_lt (Nat.div_le_self _ _) hx
      have HY := Lib.hid (show y / 256 = x / 256 ^ (j + 1) by rw [hy, Nat.pow_succ, Nat.div_div_eq_div_mul])
      have HB := Lib.hid (show ((UInt8.ofNat y).toNat : Int) = (y : Int) % 256 by rw [UInt8.toNat_ofNat']; omega)
      rw [← hy] at HL ⊢
      clear hy hle h256
      have hs' : B0 ≤ wr.heap.size := by omega
      go_wp2_with (at_builtin; refine wpList_push eltU8 rfl (.tmp 13) (.tmp 17) rfl (W := wr) rfl ho rfl rfl (by simp [Value.oneCell']) (by omega) (by unfold maxLen; omega) hb hs' ?_; intro v' w' hown' hb' hgr x2; clear x2)
      have hsw : w.heap.size ≤ w'.heap.size := by have := hgr.size; omega
      clear hgr
      go_roundw
      case rel =>
        refine ⟨j + 1, by omega, by go_num, by rw [← HY.out]; go_num, ?_, hb', hsw⟩
        rw [HL.out, ← List.append_assoc, bcells_append]
        simp only [bcells, List.map_cons, List.map_nil, HB.out] at hown' ⊢
        exact hown'
      case measure => simp [intOf]; omega
    · obtain rfl : j = size := by omega
      go_wp2_with fail
      go_ret
      exact ⟨_, rfl, ho, hb, hs⟩
end Go.Proofs.YtlnidmjnomoddaaDoor
