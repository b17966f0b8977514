/- What the law KeyKnown comes to: true. -/
import Derived.Test.YticjecfbjmibaaaPrLaw
import Derived.Test.YticjecfbjmibaaaKey3
import Derived.Test.YticjecfbjmibaaaExec
import Derived.Deep.CutRange
namespace Go.Proofs.Yticjecfbjmibaaa
open Go.RowKit
attribute [local go_sem] Oper.semAt_some

def nameB (n : Nat) : Bool := decide (1 ≤ n) && decide (n ≤ 32)
theorem mayName_any (s : ByteArray) (n : Nat) (hs : s.size = n) (w : World) (hn : n ≤ 1000000) : Calls Try.prog 19 #[.string s] w fun e w' => e = .returned (.bool (nameB n)) ∧ w = w' := by
  by_cases h1 : 1 ≤ n
  · by_cases h2 : n ≤ 32
    · have e : nameB n = true := by unfold nameB; simp; omega
      rw [e]
      go_enter Try.func19, Try.ntmps19
      go_wp2
      go_ret
      exact ⟨by simp <;> omega, rfl⟩
    · have e : nameB n = false := by unfold nameB; simp; omega
      rw [e]
      go_enter Try.func19, Try.ntmps19
      go_wp2
      go_ret
      exact ⟨by simp <;> omega, rfl⟩
  · have e : nameB n = false := by unfold nameB; simp; omega
    rw [e]
    go_enter Try.func19, Try.ntmps19
    go_wp2
    go_ret
    exact ⟨rfl, rfl⟩
set_option maxRecDepth 100000 in
set_option maxHeartbeats 4000000 in
theorem known_walk (w : World) : Calls Try.prog 7 #[] w fun e w' => e = .returned (.bool true) ∧ Below w.heap.size w w' := by
  have HA := Lib.hid (after_no none 0 0 w (by omega) rfl)
  go_enter Try.func7, Try.ntmps7
  go_wp2_with fail
  refine HA.out.mono ?_
  rintro e w1 ⟨v1, rfl, o1, b1⟩
  obtain ⟨A1, c1, rfl⟩ := own_slice o1
  clear HA o1
  have hb := b1
  obtain ⟨i0, hi, hz0, hz1, hz2⟩ := info_parts Try.infoU8
  have hmk : ∀ (m : Nat), m ≤ 100 → ∀ W : World, (Instr.makeSlice 23 (.int .i64 (m : Int)) (.int .i64 (m : Int))).run Try.prog W = .ok (.slice (some ⟨W.heap.size, 0, none⟩) m m) (W.alloc (.cells (madeCells #[.int .u8 0] m) 5)) := fun m hm W => by
    have := run_make_rowN (P := Try.prog) 23 5 i0 (.int .u8 0) Try.underlying23 hi hz0 .i64 .i64 m m (Nat.le_refl _) (by rw [hz2]; omega) (by omega) W
    rw [hz1, Nat.mul_one] at this
    exact this
  have HMK := Lib.hid hmk
  clear hmk hi hz0 hz1 hz2
  have hm65 := HMK.out 65 (by omega) w1
  have hbm := (Below.refl w1.heap.size w1).alloc (Nat.le_refl _) (.cells (madeCells #[.int .u8 0] 65) 5)
  have HM65 := Lib.hid hm65
  clear hm65
  go_upto_region 2 with (fail)
  go_wp2_with (first | (refine wpList_value rfl (exec_make rfl HM65.out) ?_) | fail)
  generalize w1.alloc (.cells (madeCells #[.int .u8 0] 65) 5) = w2 at *
  have hb := belowGo hb hbm
  have HA2 := Lib.hid (after_no (some ⟨w1.heap.size, 0, none⟩) 65 65 w2 (by omega) rfl)
  clear hbm HM65
  go_wp2_with fail
  refine HA2.out.mono ?_
  rintro e w3 ⟨v2, rfl, o2, b3⟩
  obtain ⟨A2, c2, rfl⟩ := own_slice o2
  have hb := belowGo hb b3
  clear HA2 o2 b3 b1
  have r0 : Rd (w3.alloc (.cells #[.int .u8 255] 5)) (w3.alloc (.cells #[.int .u8 255] 5)).heap.size 1 (some ⟨w3.heap.size, 0, none⟩) 1 (bcells [255]) := bcell_rd (Blk.new w3 5 #[.int .u8 255]) rfl rfl (by unfold maxLen; omega)
  have hb := belowAlloc hb (.cells #[.int .u8 255] 5)
  have HA3 := Lib.hid (after_short [255] _ 1 1 (w3.alloc (.cells #[.int .u8 255] 5)) (by omega) (by omega) r0)
  clear r0
  go_wp2_with fail
  refine HA3.out.mono ?_
  rintro e w4 ⟨v3, rfl, o3, b4⟩
  obtain ⟨A3, c3, rfl⟩ := own_slice o3
  have r3 : Rd w4 w4.heap.size 1 A3 2 (bcells [255, 0]) := Rd.of_own o3
  have hb := belowGo hb b4
  clear HA3 o3 b4
  have HP4 := Lib.hid (show Calls Try.prog 17 #[.agg #[.int .u8 1, .int .u64 256, .int .u64 0, .int .u64 0, .int .u64 0, .int .u64 0, .int .u64 0, .int .u64 0, .int .u64 0]] w4 (RetKey w4 1 [256, 0, 0, 0, 0, 0, 0, 0]) from pkey_any 1 [256, 0, 0, 0, 0, 0, 0, 0] (by omega) rfl (by decide) w4)
  go_wp2_with fail
  refine HP4.out.mono ?_
  rintro e w5 ⟨v4, rfl, hv0, hv1, b5⟩
  rw [show pgood 1 [256, 0, 0, 0, 0, 0, 0, 0] = false by decide +kernel] at hv0 hv1 ⊢
  have hv0 := hv0 rfl
  subst hv0
  clear hv1 HP4
  have hb := belowGo hb b5
  have r3 := r3.after b5
  have HP5 := Lib.hid (show Calls Try.prog 17 #[.agg #[.int .u8 65, .int .u64 0, .int .u64 0, .int .u64 0, .int .u64 0, .int .u64 0, .int .u64 0, .int .u64 0, .int .u64 0]] w5 (RetKey w5 65 [0, 0, 0, 0, 0, 0, 0, 0]) from pkey_any 65 [0, 0, 0, 0, 0, 0, 0, 0] (by omega) rfl (by decide) w5)
  go_wp2_with fail
  refine HP5.out.mono ?_
  rintro e w6 ⟨v5, rfl, hv0, hv1, b6⟩
  rw [show pgood 65 [0, 0, 0, 0, 0, 0, 0, 0] = false by decide +kernel] at hv0 hv1 ⊢
  have hv0 := hv0 rfl
  subst hv0
  clear hv1 HP5
  have hb := belowGo hb b6
  have r3 := r3.after b6
  have HP6 := Lib.hid (show Calls Try.prog 17 #[.agg #[.int .u8 0, .int .u64 0, .int .u64 0, .int .u64 0, .int .u64 0, .int .u64 0, .int .u64 0, .int .u64 0, .int .u64 0]] w6 (RetKey w6 0 [0, 0, 0, 0, 0, 0, 0, 0]) from pkey_any 0 [0, 0, 0, 0, 0, 0, 0, 0] (by omega) rfl (by decide) w6)
  go_wp2_with fail
  refine HP6.out.mono ?_
  rintro e w7 ⟨v6, rfl, hv0, hv1, b7⟩
  rw [show pgood 0 [0, 0, 0, 0, 0, 0, 0, 0] = false by decide +kernel] at hv0 hv1 ⊢
  have hv0 := hv0 rfl
  subst hv0
  clear hv1 HP6
  have hb := belowGo hb b7
  have r3 := r3.after b7
  have HP7 := Lib.hid (show Calls Try.prog 17 #[.agg #[.int .u8 2, .int .u64 0, .int .u64 0, .int .u64 0, .int .u64 0, .int .u64 0, .int .u64 0, .int .u64 0, .int .u64 0]] w7 (RetKey w7 2 [0, 0, 0, 0, 0, 0, 0, 0]) from pkey_any 2 [0, 0, 0, 0, 0, 0, 0, 0] (by omega) rfl (by decide) w7)
  go_wp2_with fail
  refine HP7.out.mono ?_
  rintro e w8 ⟨v7, rfl, hv0, hv1, b8⟩
  rw [show pgood 2 [0, 0, 0, 0, 0, 0, 0, 0] = true by decide +kernel] at hv0 hv1 ⊢
  have o7 := hv1 rfl
  clear hv0 hv1 HP7
  have hb := belowGo hb b8
  have r3 := r3.after b8
  obtain ⟨A7, c7, rfl⟩ := own_slice o7
  have r7 : Rd w8 w8.heap.size 1 A7 2 (bcells [0, 0]) := Rd.of_own o7
  clear o7
  have R3 := Lib.hid r3
  have R7 := Lib.hid r7
  have HB := Lib.hid hb
  clear r3 r7 hb
  go_wp2_with fail
  go_loopw [15, 16] (fun b i wr => ∃ k : Nat, k ≤ 40 ∧ i = .int .i64 (k : Int) ∧ b = .bool true ∧ Below w8.heap.size w8 wr) (fun _ i _ => 40 - (intOf i).toNat)
  case atStart => exact ⟨0, by omega, rfl, rfl, Below.refl _ _⟩
  case round =>
    obtain ⟨k, hk, rfl, rfl, hbr⟩ := hrel
    by_cases hlt : k < 40
    · have hmk := HMK.out k (by omega) wr
      have HMk := Lib.hid hmk
      have hbk := belowAlloc hbr (.cells (madeCells #[.int .u8 0] k) 5)
      have hown := own_made wr wr.heap.size 5 (.int .u8 0) k (Nat.le_refl _) (by unfold maxLen; omega)
      generalize wr.alloc (.cells (madeCells #[.int .u8 0] k) 5) = wm at *
      have rk : Rd wm wm.heap.size 1 (some ⟨wr.heap.size, 0, none⟩) k (bcells (List.replicate k 0)) := by
        rw [show bcells (List.replicate k 0) = List.replicate k (Value.int .u8 0) by unfold bcells; rw [List.map_replicate]; rfl]
        exact Rd.of_own hown
      obtain ⟨S, hS⟩ : ∃ S : ByteArray, S = ⟨(List.replicate k (0 : UInt8)).toArray⟩ := ⟨_, rfl⟩
      have hSs : S.size = k := by rw [hS]; simp [ByteArray.size]
      have hcv : (convert 23 9 (.slice (some ⟨wr.heap.size, 0, none⟩) k k)).run Try.prog wm = .ok (.string S) wm := by
        rw [hS]; exact run_conv (P := Try.prog) Try.underlying23 Try.underlying5 Try.underlying9 k rk
      have HN := Lib.hid (mayName_any S k hSs wm (by omega))
      clear hmk hS hSs rk hown
      by_cases h1 : 1 ≤ k
      · by_cases h2 : k ≤ 32
        · rw [show nameB k = true by unfold nameB; simp; omega] at HN
          have i1 : (1 : Int) ≤ (k : Int) := by omega
          have i2 : (k : Int) ≤ 32 := by omega
          go_wp2_with (first | (refine wpList_value rfl (exec_make rfl HMk.out) ?_) | fail)
          refine HN.out.mono ?_
          rintro e wn ⟨rfl, rfl⟩
          go_wp2_with fail
          go_roundw
          case rel => exact ⟨k + 1, by omega, by go_num, rfl, hbk⟩
          case measure => simp [intOf]; omega
        · rw [show nameB k = false by unfold nameB; simp; omega] at HN
          have i1 : (1 : Int) ≤ (k : Int) := by omega
          have i2 : ¬ (k : Int) ≤ 32 := by omega
          go_wp2_with (first | (refine wpList_value rfl (exec_make rfl HMk.out) ?_) | fail)
          refine HN.out.mono ?_
          rintro e wn ⟨rfl, rfl⟩
          go_wp2_with fail
          go_roundw
          case rel => exact ⟨k + 1, by omega, by go_num, by simp; omega, hbk⟩
          case measure => simp [intOf]; omega
      · rw [show nameB k = false by unfold nameB; simp; omega] at HN
        have i1 : ¬ (1 : Int) ≤ (k : Int) := by omega
        go_wp2_with (first | (refine wpList_value rfl (exec_make rfl HMk.out) ?_) | fail)
        refine HN.out.mono ?_
        rintro e wn ⟨rfl, rfl⟩
        go_wp2_with fail
        go_roundw
        case rel => exact ⟨k + 1, by omega, by go_num, rfl, hbk⟩
        case measure => simp [intOf]; omega
    · obtain rfl : k = 40 := by omega
      have r3 := R3.out.after hbr
      have r7 := R7.out.after hbr
      have HB := Lib.hid (belowGo HB.out hbr)
      have f3 : (convert 23 9 (.slice A3 2 c3)).run Try.prog wr = .ok (.string ⟨#[255, 0]⟩) wr := run_conv (P := Try.prog) Try.underlying23 Try.underlying5 Try.underlying9 c3 r3
      have f7 : (convert 23 9 (.slice A7 2 c7)).run Try.prog wr = .ok (.string ⟨#[0, 0]⟩) wr := run_conv (P := Try.prog) Try.underlying23 Try.underlying5 Try.underlying9 c7 r7
      have e3 : ((⟨#[255, 0]⟩ : ByteArray) == ⟨#[255, 0]⟩) = true := by decide +kernel
      have e7 : ((⟨#[0, 0]⟩ : ByteArray) == ⟨#[0, 0]⟩) = true := by decide +kernel
      have HC0 := Lib.hid (keyCmp_any [] [] none 0 0 none 0 0 wr (B := wr.heap.size) (B' := wr.heap.size) (Rd.nil_ _ _ _ _) (Rd.nil_ _ _ _ _))
      rw [show Lib.compareBytes [] [] = 0 by decide +kernel] at HC0
      clear r3 r7 hbr R3 R7 HMK
      go_wp2_with fail
      refine HC0.out.mono ?_
      rintro e wa ⟨rfl, ba⟩
      have HB := Lib.hid (belowGo HB.out ba)
      have r0 : Rd (wa.alloc (.cells #[.int .u8 0] 5)) (wa.alloc (.cells #[.int .u8 0] 5)).heap.size 1 (some ⟨wa.heap.size, 0, none⟩) 1 (bcells [0]) := bcell_rd (Blk.new wa 5 #[.int .u8 0]) rfl rfl (by unfold maxLen; omega)
      have HB2 := Lib.hid (belowAlloc HB.out (.cells #[.int .u8 0] 5))
      have HC1 := Lib.hid (keyCmp_any [] [0] none 0 0 _ 1 1 (wa.alloc (.cells #[.int .u8 0] 5)) (B := (wa.alloc (.cells #[.int .u8 0] 5)).heap.size) (Rd.nil_ _ _ _ _) r0)
      rw [show Lib.compareBytes [] [0] = -1 by decide +kernel] at HC1
      clear HC0 r0 ba
      go_wp2_with fail
      refine HC1.out.mono ?_
      rintro e wb ⟨rfl, bb⟩
      have HB3 := Lib.hid (belowGo HB2.out bb)
      have HH := Lib.hid (hash_any 7 [] none 0 0 wb (by omega) (by omega) (Rd.nil_ _ _ _ _))
      rw [show hashI 7 [] = 7 by decide +kernel] at HH
      clear HC1 bb
      go_wp2_with fail
      refine HH.out.mono ?_
      rintro e wc ⟨rfl, bc⟩
      have HB4 := Lib.hid (belowGo HB3.out bc)
      have HK := Lib.hid (knows_any wc)
      clear HH bc
      go_wp2_with fail
      refine HK.out.mono ?_
      rintro e wd ⟨rfl, bd⟩
      have hb := belowGo HB4.out bd
      go_wp2_with fail
      exact bodyPost_ret (results_tmp rfl _ _ _) rfl ⟨rfl, hb⟩
end Go.Proofs.Yticjecfbjmibaaa
