/- The document's answer, chapter 08: May, Same, lay. For every record. -/
import Derived.Test.YtfapipamohlniaaDoorRecLaw
import Derived.Test.YtfapipamohlniaaDoorConv
namespace Go.Proofs.YtfapipamohlniaaDoor
open Go.RowKit

theorem within_any (s o : Nat) (w : World) : Calls Tryd.prog 54 #[.int .u64 (s : Int), .int .u64 (o : Int)] w fun e w' => e = .returned (.bool (mayL s o)) ∧ w = w' := by
  obtain ⟨b, hb⟩ : ∃ b, b = mayL s o := ⟨_, rfl⟩
  rw [← hb]
  unfold mayL noneB standsB at hb
  by_cases h0 : s = 0
  · subst h0
    obtain rfl : b = decide (o = 0) := by rw [hb, Bool.eq_iff_iff]; simp
    clear hb
    have i2 : ((o : Int) == 0) = decide (o = 0) := by rw [Bool.eq_iff_iff, beq_iff_eq, decide_eq_true_eq]; omega
    go_enter Tryd.func54, Tryd.ntmps54
    go_wp2
    go_ret
    exact ⟨by simp, rfl⟩
  · have i1 : ((s : Int) == 0) = false := by simp; omega
    by_cases h2 : s ≤ 16777215
    · by_cases h3 : 16 ≤ o
      · obtain rfl : b = decide ((o : Int) ≤ 16777216) := by rw [hb, Bool.eq_iff_iff]; simp; omega
        clear hb
        go_enter Tryd.func54, Tryd.ntmps54
        go_wp2
        go_ret
        exact ⟨by simp, rfl⟩
      · obtain rfl : b = false := by rw [hb]; simp; omega
        clear hb
        go_enter Tryd.func54, Tryd.ntmps54
        go_wp2
        go_ret
        exact ⟨rfl, rfl⟩
    · obtain rfl : b = false := by rw [hb]; simp; omega
      clear hb
      go_enter Tryd.func54, Tryd.ntmps54
      go_wp2
      go_ret
      exact ⟨rfl, rfl⟩

theorem rmayLoc_any (s o : Nat) (hs : s < 4294967296) (ho : o < 4294967296) (w : World) : Calls Tryd.prog 43 #[locV s o] w fun e w' => e = .returned (.bool (mayL s o)) ∧ Below w.heap.size w w' := by
  unfold locV
  have H := fun W => Lib.hid (within_any s o W)
  generalize mayL s o = b at *
  go_enter Tryd.func43, Tryd.ntmps43
  go_wp2_with fail
  refine (H _).out.mono ?_
  rintro e w1 ⟨rfl, rfl⟩
  go_wp2_with fail
  go_ret
  exact ⟨rfl, (Below.refl _ _).alloc (Nat.le_refl _) _⟩


theorem rmayK_any (A : Option Addr) (n c : Nat) (w : World) : Calls Tryd.prog 42 #[.slice A n c] w fun e w' => e = .returned (.bool (mayB n)) ∧ w = w' := by
  by_cases h1 : 1 ≤ n
  · by_cases h2 : n ≤ 64
    · have e : mayB n = true := by unfold mayB; simp; omega
      rw [e]
      clear e
      go_enter Tryd.func42, Tryd.ntmps42
      go_wp2
      go_ret
      exact ⟨by simp <;> omega, rfl⟩
    · have e : mayB n = false := by unfold mayB; simp; omega
      rw [e]
      clear e
      go_enter Tryd.func42, Tryd.ntmps42
      go_wp2
      go_ret
      exact ⟨by simp <;> omega, rfl⟩
  · have e : mayB n = false := by unfold mayB; simp; omega
    rw [e]
    clear e
    go_enter Tryd.func42, Tryd.ntmps42
    go_wp2
    go_ret
    exact ⟨by simp <;> omega, rfl⟩

set_option maxRecDepth 10000 in
theorem rmayR_kone (q : Nat) (A : Option Addr) (n c : Nat) (B : Option Addr) (m d : Nat) (s o : Nat) (hs : s < 4294967296) (ho : o < 4294967296) (w : World) :
    Calls Tryd.prog 32 #[recV q 1 (.slice A n c) (.slice B m d) s o] w fun e w' => e = .returned (.bool (seqR q && (mayB n && (mayV m && mayL s o)))) ∧ Below w.heap.size w w' := by
  unfold recV
  have H1 := fun W => Lib.hid (rmayK_any A n c W)
  have H3 := fun W => Lib.hid (rmayLoc_any s o hs ho W)
  unfold locV at H3
  generalize mayB n = x1 at *
  generalize mayL s o = x3 at *
  obtain ⟨y, hy⟩ : ∃ y, y = seqR q := ⟨_, rfl⟩
  rw [← hy]
  unfold seqR at hy
  unfold mayV
  by_cases g0 : m ≤ 1024
  · rw [decide_eq_true g0, Bool.true_and]
    have i9 : ¬ (1024 : Int) < (m : Int) := by omega
    by_cases g1 : 1 ≤ q
    · have i8 : (0 : Int) < (q : Int) := by omega
      by_cases g2 : q ≤ 1099511627776
      · rw [decide_eq_true g1, decide_eq_true g2] at hy
        subst hy
        have q0 := Blk.new w 44 #[.int .u64 (q : Int), .int .i64 1, .slice A n c, .slice B m d, .int .u32 (s : Int), .int .u32 (o : Int)]
        have b0 := (Below.refl w.heap.size w).alloc (Nat.le_refl _) (.cells #[.int .u64 (q : Int), .int .i64 1, .slice A n c, .slice B m d, .int .u32 (s : Int), .int .u32 (o : Int)] 44)
        go_enter Tryd.func32, Tryd.ntmps32
        go_wp2_with fail
        refine (H1 _).out.mono ?_
        rintro e w1 ⟨rfl, rfl⟩
        clear H1
        cases x1
        · go_wp2_with fail
          go_ret
          exact ⟨by simp, b0⟩
        · go_wp2_with fail
          refine (H3 _).out.mono ?_
          rintro e w1 ⟨rfl, b1⟩
          go_wp2_with fail
          go_ret
          exact ⟨by simp, b0.trans (b1.mono b0.size)⟩
      · rw [decide_eq_false g2, Bool.and_false] at hy
        subst hy
        have q0 := Blk.new w 44 #[.int .u64 (q : Int), .int .i64 1, .slice A n c, .slice B m d, .int .u32 (s : Int), .int .u32 (o : Int)]
        have b0 := (Below.refl w.heap.size w).alloc (Nat.le_refl _) (.cells #[.int .u64 (q : Int), .int .i64 1, .slice A n c, .slice B m d, .int .u32 (s : Int), .int .u32 (o : Int)] 44)
        go_enter Tryd.func32, Tryd.ntmps32
        go_wp2_with fail
        go_ret
        exact ⟨rfl, b0⟩
    · rw [decide_eq_false g1, Bool.false_and] at hy
      subst hy
      have q0 := Blk.new w 44 #[.int .u64 (q : Int), .int .i64 1, .slice A n c, .slice B m d, .int .u32 (s : Int), .int .u32 (o : Int)]
      have b0 := (Below.refl w.heap.size w).alloc (Nat.le_refl _) (.cells #[.int .u64 (q : Int), .int .i64 1, .slice A n c, .slice B m d, .int .u32 (s : Int), .int .u32 (o : Int)] 44)
      go_enter Tryd.func32, Tryd.ntmps32
      go_wp2_with fail
      go_ret
      exact ⟨rfl, b0⟩
  · rw [decide_eq_false g0, Bool.false_and, Bool.and_false, Bool.and_false]
    have i9 : (1024 : Int) < (m : Int) := by omega
    have q0 := Blk.new w 44 #[.int .u64 (q : Int), .int .i64 1, .slice A n c, .slice B m d, .int .u32 (s : Int), .int .u32 (o : Int)]
    have b0 := (Below.refl w.heap.size w).alloc (Nat.le_refl _) (.cells #[.int .u64 (q : Int), .int .i64 1, .slice A n c, .slice B m d, .int .u32 (s : Int), .int .u32 (o : Int)] 44)
    go_enter Tryd.func32, Tryd.ntmps32
    go_wp2_with fail
    go_ret
    exact ⟨rfl, b0⟩

set_option maxRecDepth 10000 in
theorem rmayR_ktwo (q : Nat) (A : Option Addr) (n c : Nat) (B : Option Addr) (m d : Nat) (s o : Nat) (hs : s < 4294967296) (ho : o < 4294967296) (w : World) (h0 : m = 0) :
    Calls Tryd.prog 32 #[recV q 2 (.slice A n c) (.slice B m d) s o] w fun e w' => e = .returned (.bool (seqR q && (mayB n && (mayV m && mayL s o)))) ∧ Below w.heap.size w w' := by
  unfold recV
  subst h0
  have H1 := fun W => Lib.hid (rmayK_any A n c W)
  have H3 := fun W => Lib.hid (rmayLoc_any s o hs ho W)
  unfold locV at H3
  generalize mayB n = x1 at *
  generalize mayL s o = x3 at *
  obtain ⟨y, hy⟩ : ∃ y, y = seqR q := ⟨_, rfl⟩
  rw [← hy]
  unfold seqR at hy
  unfold mayV
  by_cases g0 : 0 ≤ 1024
  · rw [decide_eq_true g0, Bool.true_and]
    have i9 : ¬ (1024 : Int) < 0 := by omega
    by_cases g1 : 1 ≤ q
    · have i8 : (0 : Int) < (q : Int) := by omega
      by_cases g2 : q ≤ 1099511627776
      · rw [decide_eq_true g1, decide_eq_true g2] at hy
        subst hy
        have q0 := Blk.new w 44 #[.int .u64 (q : Int), .int .i64 2, .slice A n c, .slice B 0 d, .int .u32 (s : Int), .int .u32 (o : Int)]
        have b0 := (Below.refl w.heap.size w).alloc (Nat.le_refl _) (.cells #[.int .u64 (q : Int), .int .i64 2, .slice A n c, .slice B 0 d, .int .u32 (s : Int), .int .u32 (o : Int)] 44)
        go_enter Tryd.func32, Tryd.ntmps32
        go_wp2_with fail
        refine (H1 _).out.mono ?_
        rintro e w1 ⟨rfl, rfl⟩
        clear H1
        cases x1
        · go_wp2_with fail
          go_ret
          exact ⟨by simp, b0⟩
        · go_wp2_with fail
          refine (H3 _).out.mono ?_
          rintro e w1 ⟨rfl, b1⟩
          go_wp2_with fail
          go_ret
          exact ⟨by simp, b0.trans (b1.mono b0.size)⟩
      · rw [decide_eq_false g2, Bool.and_false] at hy
        subst hy
        have q0 := Blk.new w 44 #[.int .u64 (q : Int), .int .i64 2, .slice A n c, .slice B 0 d, .int .u32 (s : Int), .int .u32 (o : Int)]
        have b0 := (Below.refl w.heap.size w).alloc (Nat.le_refl _) (.cells #[.int .u64 (q : Int), .int .i64 2, .slice A n c, .slice B 0 d, .int .u32 (s : Int), .int .u32 (o : Int)] 44)
        go_enter Tryd.func32, Tryd.ntmps32
        go_wp2_with fail
        go_ret
        exact ⟨rfl, b0⟩
    · rw [decide_eq_false g1, Bool.false_and] at hy
      subst hy
      have q0 := Blk.new w 44 #[.int .u64 (q : Int), .int .i64 2, .slice A n c, .slice B 0 d, .int .u32 (s : Int), .int .u32 (o : Int)]
      have b0 := (Below.refl w.heap.size w).alloc (Nat.le_refl _) (.cells #[.int .u64 (q : Int), .int .i64 2, .slice A n c, .slice B 0 d, .int .u32 (s : Int), .int .u32 (o : Int)] 44)
      go_enter Tryd.func32, Tryd.ntmps32
      go_wp2_with fail
      go_ret
      exact ⟨rfl, b0⟩
  · rw [decide_eq_false g0, Bool.false_and, Bool.and_false, Bool.and_false]
    have i9 : (1024 : Int) < 0 := by omega
    omega

set_option maxRecDepth 10000 in
theorem rmayR_any (q : Nat) (k : Int) (A : Option Addr) (n c : Nat) (B : Option Addr) (m d : Nat) (s o : Nat) (hs : s < 4294967296) (ho : o < 4294967296) (w : World) :
    Calls Tryd.prog 32 #[recV q k (.slice A n c) (.slice B m d) s o] w fun e w' => e = .returned (.bool (mayR q k n m s o)) ∧ Below w.heap.size w w' := by
  by_cases h1 : k = 1
  · subst h1
    have e : mayR q 1 n m s o = (seqR q && (mayB n && (mayV m && mayL s o))) := by unfold mayR kindR; simp
    rw [e]
    exact rmayR_kone q A n c B m d s o hs ho w
  · have i1 : (k != 1) = true := by simpa using h1
    by_cases h2 : k = 2
    · subst h2
      by_cases h0 : m = 0
      · have e : mayR q 2 n m s o = (seqR q && (mayB n && (mayV m && mayL s o))) := by unfold mayR kindR; simp [h0]
        rw [e]
        exact rmayR_ktwo q A n c B m d s o hs ho w h0
      · have e : mayR q 2 n m s o = false := by unfold mayR kindR; simp [h0]
        have i0 : (0 : Int) < (m : Int) := by omega
        rw [e]
        unfold recV
        clear e h0 h1 i1
        have q0 := Blk.new w 44 #[.int .u64 (q : Int), .int .i64 2, .slice A n c, .slice B m d, .int .u32 (s : Int), .int .u32 (o : Int)]
        have b0 := (Below.refl w.heap.size w).alloc (Nat.le_refl _) (.cells #[.int .u64 (q : Int), .int .i64 2, .slice A n c, .slice B m d, .int .u32 (s : Int), .int .u32 (o : Int)] 44)
        go_enter Tryd.func32, Tryd.ntmps32
        go_wp2_with fail
        go_ret
        exact ⟨rfl, b0⟩
    · have e : mayR q k n m s o = false := by unfold mayR kindR; simp [h1, h2]
      have i2 : (k != 2) = true := by simpa using h2
      rw [e]
      unfold recV
      clear e h1 h2
      have q0 := Blk.new w 44 #[.int .u64 (q : Int), .int .i64 k, .slice A n c, .slice B m d, .int .u32 (s : Int), .int .u32 (o : Int)]
      have b0 := (Below.refl w.heap.size w).alloc (Nat.le_refl _) (.cells #[.int .u64 (q : Int), .int .i64 k, .slice A n c, .slice B m d, .int .u32 (s : Int), .int .u32 (o : Int)] 44)
      go_enter Tryd.func32, Tryd.ntmps32
      go_wp2_with fail
      go_ret
      exact ⟨rfl, b0⟩

def RetOwnB (B0 E n : Nat) (xs : List Value) (w : World) (e : Ending) (w' : World) : Prop := ∃ v, e = .returned v ∧ w'.ownsRow B0 E 1 v n xs ∧ Below B0 w w' ∧ w.heap.size ≤ w'.heap.size
set_option maxRecDepth 10000 in
theorem rlay_any (l : List UInt8) (v : Value) (n : Nat) (x size : Nat) (hx : x < 18446744073709551616) (hsz : size ≤ 8) (w : World) (B0 : Nat) (hB0 : B0 ≤ w.heap.size) (hn : n ≤ 1000000) (h : w.ownsRow B0 5 1 v n (bcells l)) :
    Calls Tryd.prog 33 #[v, .int .u64 (x : Int), .int .i64 (size : Int)] w (RetOwnB B0 5 (n + size) (bcells (l ++ le x size)) w) := by
  obtain ⟨A, c, rfl, hnc⟩ := own_cap h
  go_enter Tryd.func33, Tryd.ntmps33
  go_wp2_with fail
  go_loopw [0, 1, 7] (fun b nn i wr => ∃ j : Nat, j ≤ size ∧ i = .int .i64 (j : Int) ∧ nn = .int .u64 ((x / 256 ^ j : Nat) : Int) ∧ wr.ownsRow B0 5 1 b (n + j) (bcells (l ++ le x j)) ∧ Below B0 w wr ∧ w.heap.size ≤ wr.heap.size) (fun _ _ i _ => size - (intOf i).toNat)
  case atStart => exact ⟨0, by omega, rfl, by simp, by simpa [le] using h, Below.refl _ _, Nat.le_refl _⟩
  case round =>
    obtain ⟨j, hj, rfl, rfl, ho, hb, hs⟩ := hrel
    by_cases hlt : j < size
    · have hle := le_succ x j
      have h256 : x / 2 ^ (8 * j) = x / 256 ^ j := by rw [Nat.pow_mul]
      rw [h256] at hle
      have HL := Lib.hid hle
      obtain ⟨y, hy⟩ : ∃ y, y = x / 256 ^ j := ⟨_, rfl⟩
      have hyl : y < 18446744073709551616 := by rw [hy]; exact Nat.lt_of_le_of_lt (Nat.div_le_self _ _) hx
      have HY := Lib.hid (show y / 256 = x / 256 ^ (j + 1) by rw [hy, Nat.pow_succ, Nat.div_div_eq_div_mul])
      have HB := Lib.hid (show ((UInt8.ofNat y).toNat : Int) = (y : Int) % 256 by rw [UInt8.toNat_ofNat']; omega)
      rw [← hy] at HL ⊢
      clear hy hle h256
      have hs' : B0 ≤ wr.heap.size := by omega
      go_wp2_with (at_builtin; refine wpList_push eltU8 rfl (.tmp 13) (.tmp 17) rfl (W := wr) rfl ho rfl rfl (by simp [Value.oneCell']) (by omega) (by unfold maxLen; omega) hb hs' ?_; intro v' w' hown' hb' hgr x2; clear x2)
      have hsw : w.heap.size ≤ w'.heap.size := by have := hgr.size; omega
      clear hgr
      go_roundw
      case rel =>
        refine ⟨j + 1, by omega, by go_num, by rw [← HY.out]; go_num, ?_, hb', hsw⟩
        rw [HL.out, ← List.append_assoc, bcells_append]
        simp only [bcells, List.map_cons, List.map_nil, HB.out] at hown' ⊢
        exact hown'
      case measure => simp [intOf]; omega
    · obtain rfl : j = size := by omega
      go_wp2_with fail
      go_ret
      exact ⟨_, rfl, ho, hb, hs⟩
end Go.Proofs.YtfapipamohlniaaDoor
