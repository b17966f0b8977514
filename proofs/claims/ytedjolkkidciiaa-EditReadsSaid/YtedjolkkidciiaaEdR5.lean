/- The document's edits: Same. For any two edits. -/
import Derived.Test.YtedjolkkidciiaaEdEq
import Derived.Test.YtedjolkkidciiaaEd8
import Derived.Deep.CutRange
namespace Go.Proofs.Ytedjolkkidciiaa
open Go.RowKit
attribute [local go_sem] Oper.semAt_some

set_option maxRecDepth 100000 in
set_option maxHeartbeats 8000000 in
theorem rsame_any (d d' : Ed) (hd : d.fits) (hd' : d'.fits) (A : Option Addr) (n c : Nat) (A' : Option Addr) (n' c' : Nat) (w : World) (hln : d.seals.length = n) (hmn : d'.seals.length = n') (r : Rd w w.heap.size 5 A n (slCells d.seals)) (r' : Rd w w.heap.size 5 A' n' (slCells d'.seals)) (hn : n ≤ 1000000) :
    Calls Try.prog 12 #[.agg (edC d ⟨d.name.toArray⟩ (.slice A n c)), .agg (edC d' ⟨d'.name.toArray⟩ (.slice A' n' c'))] w fun e w' => e = .returned (.bool (decide (d = d'))) ∧ Below w.heap.size w w' := by
  obtain ⟨k, nm, q, i, sl⟩ := d
  obtain ⟨k', nm', q', i', sl'⟩ := d'
  obtain ⟨-, -, -, h4⟩ := hd
  obtain ⟨-, -, -, h4'⟩ := hd'
  dsimp only at *
  obtain ⟨S, hS⟩ : ∃ S : ByteArray, S = ⟨nm.toArray⟩ := ⟨_, rfl⟩
  obtain ⟨S', hS'⟩ : ∃ S : ByteArray, S = ⟨nm'.toArray⟩ := ⟨_, rfl⟩
  have hst : S.toList = nm := by rw [hS, ByteArray.toList_mk]
  have hst' : S'.toList = nm' := by rw [hS', ByteArray.toList_mk]
  rw [show edC (Ed.mk k nm q i sl) ⟨nm.toArray⟩ (.slice A n c) = #[.int .i64 k, .string S, .int .u64 (q : Int), .int .u32 (i : Int), .slice A n c] by rw [hS]; rfl, show edC (Ed.mk k' nm' q' i' sl') ⟨nm'.toArray⟩ (.slice A' n' c') = #[.int .i64 k', .string S', .int .u64 (q' : Int), .int .u32 (i' : Int), .slice A' n' c'] by rw [hS']; rfl]
  have hiff : (Ed.mk k nm q i sl = Ed.mk k' nm' q' i' sl') ↔ k = k' ∧ nm = nm' ∧ q = q' ∧ i = i' ∧ sl = sl' := by simp
  have b1 := (Below.refl w.heap.size w).alloc (Nat.le_refl _) (.cells #[.int .i64 k, .string S, .int .u64 (q : Int), .int .u32 (i : Int), .slice A n c] 32)
  have q1 := (Blk.new w 32 #[.int .i64 k, .string S, .int .u64 (q : Int), .int .u32 (i : Int), .slice A n c]).alloc (.cells #[.int .i64 k', .string S', .int .u64 (q' : Int), .int .u32 (i' : Int), .slice A' n' c'] 32)
  have hb := belowAlloc b1 (.cells #[.int .i64 k', .string S', .int .u64 (q' : Int), .int .u32 (i' : Int), .slice A' n' c'] 32)
  have q2 := Blk.newAt (w.alloc (.cells #[.int .i64 k, .string S, .int .u64 (q : Int), .int .u32 (i : Int), .slice A n c] 32)) 32 #[.int .i64 k', .string S', .int .u64 (q' : Int), .int .u32 (i' : Int), .slice A' n' c'] (g := w.heap.size + 1) (by simp)
  have R := Lib.hid ((r.below hb (Nat.le_refl _)).more hb.size)
  have R' := Lib.hid ((r'.below hb (Nat.le_refl _)).more hb.size)
  have HLN := Lib.hid hln
  have HMN := Lib.hid hmn
  have HL := Lib.hid h4
  have HM := Lib.hid h4'
  clear hS hS' r r' hln hmn b1 h4 h4'
  have HIFF := Lib.hid hiff
  obtain ⟨bb, hbb⟩ : ∃ b, b = decide (Ed.mk k nm q i sl = Ed.mk k' nm' q' i' sl') := ⟨_, rfl⟩
  rw [← hbb]
  have HBB := Lib.hid hbb
  clear hiff hbb
  go_enter Try.func12, Try.ntmps12
  go_upto_region 1 with (fail)
  generalize (w.alloc (.cells #[.int .i64 k, .string S, .int .u64 (q : Int), .int .u32 (i : Int), .slice A n c] 32)).alloc (.cells #[.int .i64 k', .string S', .int .u64 (q' : Int), .int .u32 (i' : Int), .slice A' n' c'] 32) = w2 at *
  have a0 : w2.cell? ⟨w.heap.size, 0, none⟩ = some (.int .i64 k) := q1.cell 0
  have a1 : w2.cell? ⟨w.heap.size, 1, none⟩ = some (.string S) := q1.cell 1
  have a2 : w2.cell? ⟨w.heap.size, 2, none⟩ = some (.int .u64 (q : Int)) := q1.cell 2
  have a3 : w2.cell? ⟨w.heap.size, 3, none⟩ = some (.int .u32 (i : Int)) := q1.cell 3
  have a4 : w2.cell? ⟨w.heap.size, 4, none⟩ = some (.slice A n c) := q1.cell 4
  have b0 : w2.cell? ⟨w.heap.size + 1, 0, none⟩ = some (.int .i64 k') := q2.cell 0
  have b1 : w2.cell? ⟨w.heap.size + 1, 1, none⟩ = some (.string S') := q2.cell 1
  have b2 : w2.cell? ⟨w.heap.size + 1, 2, none⟩ = some (.int .u64 (q' : Int)) := q2.cell 2
  have b3 : w2.cell? ⟨w.heap.size + 1, 3, none⟩ = some (.int .u32 (i' : Int)) := q2.cell 3
  have b4 : w2.cell? ⟨w.heap.size + 1, 4, none⟩ = some (.slice A' n' c') := q2.cell 4
  have HB := Lib.hid hb
  have Q1 := Lib.hid q1
  have Q2 := Lib.hid q2
  clear hb q1 q2
  by_cases h1 : k = k'
  rotate_left
  · have HD := Lib.hid (HBB.out.trans (decide_eq_false (fun e => h1 (HIFF.out.1 e).1)))
    clear hst hst'
    go_wp2_with fail
    exact bodyPost_ret (results_tmp rfl _ _ _) rfl ⟨by rw [HD.out]; rfl, HB.out⟩
  subst h1
  by_cases h2 : nm = nm'
  rotate_left
  · have y2 : ¬ S.toList = S'.toList := by rw [hst, hst']; exact h2
    have HD := Lib.hid (HBB.out.trans (decide_eq_false (fun e => h2 (HIFF.out.1 e).2.1)))
    clear hst hst' h2
    go_wp2_with fail
    exact bodyPost_ret (results_tmp rfl _ _ _) rfl ⟨by rw [HD.out]; rfl, HB.out⟩
  have y2 : S.toList = S'.toList := by rw [hst, hst', h2]
  have H2 := Lib.hid h2
  clear hst hst' h2
  by_cases h3 : q = q'
  rotate_left
  · have y3 : ¬ (q : Int) = (q' : Int) := by omega
    have HD := Lib.hid (HBB.out.trans (decide_eq_false (fun e => h3 (HIFF.out.1 e).2.2.1)))
    clear h3
    go_wp2_with fail
    exact bodyPost_ret (results_tmp rfl _ _ _) rfl ⟨by rw [HD.out]; rfl, HB.out⟩
  subst h3
  by_cases h4 : i = i'
  rotate_left
  · have y4 : ¬ (i : Int) = (i' : Int) := by omega
    have HD := Lib.hid (HBB.out.trans (decide_eq_false (fun e => h4 (HIFF.out.1 e).2.2.2.1)))
    clear h4
    go_wp2_with fail
    exact bodyPost_ret (results_tmp rfl _ _ _) rfl ⟨by rw [HD.out]; rfl, HB.out⟩
  subst h4
  by_cases h5 : n = n'
  rotate_left
  · have y5 : ¬ (n : Int) = (n' : Int) := by omega
    have HD := Lib.hid (HBB.out.trans (decide_eq_false (fun e => h5 (by rw [← HLN.out, ← HMN.out, (HIFF.out.1 e).2.2.2.2]))))
    clear h5
    go_wp2_with fail
    exact bodyPost_ret (results_tmp rfl _ _ _) rfl ⟨by rw [HD.out]; rfl, HB.out⟩
  subst h5
  have HBB : Hid (bb = decide (sl = sl')) := Lib.hid (by
    rw [HBB.out, decide_eq_decide, HIFF.out]
    exact ⟨fun h => h.2.2.2.2, fun h => ⟨rfl, H2.out, rfl, rfl, h⟩⟩)
  clear HIFF H2
  go_upto_region 3 with (fail)
  clear a0 a1 a2 a3 b0 b1 b2 b3 a4 b4 y2
  go_wp2_with fail
  go_loopw [5] (fun i wr => ∃ j : Nat, j ≤ n ∧ i = .int .i64 (j : Int) ∧ Below w2.heap.size w2 wr ∧ sl.take j = sl'.take j) (fun i _ => n - (intOf i).toNat)
  case atStart => exact ⟨0, by omega, rfl, Below.refl _ _, rfl⟩
  case round =>
    obtain ⟨j, hj, rfl, hb, htk⟩ := hrel
    have a4 : wr.cell? ⟨w.heap.size, 4, none⟩ = some (.slice A n c) := (Q1.out.after hb).cell 4
    by_cases hlt : j < n
    · have hki : (j : Int) < (n : Int) := by omega
      obtain ⟨p, off, rfl, hpl, hcell⟩ := R.out.2.2 (by omega)
      obtain ⟨p', off', rfl, hpl', hcell'⟩ := R'.out.2.2 (by omega)
      obtain ⟨s, hs⟩ : ∃ s, sl[j]? = some s := ⟨sl[j]'(by have := HLN.out; omega), List.getElem?_eq_getElem _⟩
      obtain ⟨t, ht⟩ : ∃ s, sl'[j]? = some s := ⟨sl'[j]'(by have := HMN.out; omega), List.getElem?_eq_getElem _⟩
      have hsf := HL.out _ (List.mem_of_getElem? hs)
      have htf := HM.out _ (List.mem_of_getElem? ht)
      have ha := slAt hcell hs
      have ha' := slAt hcell' ht
      have hst : sl.take (j + 1) = sl'.take (j + 1) ↔ s = t := by
        rw [List.take_add_one, List.take_add_one, hs, ht, htk]
        simp
      have hne : ¬ s = t → ¬ sl = sl' := fun h e => h (by rw [e, ht] at hs; injection hs with hs; exact hs.symm)
      have HA := Lib.hid (fun W (h : Below w2.heap.size w2 W) => ha.after hpl h)
      have HA' := Lib.hid (fun W (h : Below w2.heap.size w2 W) => ha'.after hpl' h)
      have EQ := Lib.hid (fun W => run_equal_seal s t hsf htf W)
      have QA := Lib.hid (fun W (h : Below w2.heap.size w2 W) => Q1.out.after h)
      have QB := Lib.hid (fun W (h : Below w2.heap.size w2 W) => Q2.out.after h)
      have HST := Lib.hid hst
      have HNE := Lib.hid hne
      clear ha ha' hst hne hs ht hcell hcell' htk hsf htf hpl hpl'
      go_upto_region 6 with (fail)
      have hb : Below w2.heap.size w2 wr.drew := ⟨hb.os, hb.tape, hb.output, hb.size, hb.block⟩
      clear a4
      refine wp_region_plan (fun W => Below w2.heap.size w2 W) [.calms [0, 2, 5, 7], .read 1, .calms [3], .read 4, .read 6, .calms [8], .read 9, .read 10] (by kernel_rfl) (by rfl) (by kernel_rfl) (by kernel_rfl) hb ?_
      refine plan_calms (by simp [calmRow, need]; rfl) ?_
      generalize wr.drew = w5 at *
      go_wp2_with fail
      refine plan_read (by rfl) (.slice (some ⟨p, off, none⟩) n c) (by rfl) (fun W hW => exec_load (p := ⟨w.heap.size, 4, none⟩) rfl rfl (by kernel_rfl) ((QA.out W hW).cell 4)) ?_
      refine plan_calms (by simp [calmRow, need]; rfl) ?_
      go_wp2_with fail
      refine plan_read (by rfl) (.agg s.cells.toArray) (by rfl) (fun W hW => exec_load_mid rfl rfl (HA.out W hW) Try.underlying40 rfl (by kernel_rfl)) ?_
      refine plan_read (by rfl) (.slice (some ⟨p', off', none⟩) n c') (by rfl) (fun W hW => exec_load (p := ⟨w.heap.size + 1, 4, none⟩) rfl rfl (by kernel_rfl) ((QB.out W hW).cell 4)) ?_
      refine plan_calms (by simp [calmRow, need]; rfl) ?_
      go_wp2_with fail
      refine plan_read (by rfl) (.agg t.cells.toArray) (by rfl) (fun W hW => exec_load_mid rfl rfl (HA'.out W hW) Try.underlying40 rfl (by kernel_rfl)) ?_
      refine plan_read (by rfl) (.bool !(decide (s = t))) (by rfl) (fun W hW => exec_bin rfl (run_neq_agg (by kernel_rfl) (EQ.out W))) ?_
      by_cases hq : s = t
      · have HN := Lib.hid (HST.out.2 hq)
        rw [decide_eq_true hq]
        refine plan_end ?_
        clear hq
        go_wp2_with fail
        go_roundw
        case rel => exact ⟨j + 1, by omega, by go_num, hb, HN.out⟩
        case measure => simp [intOf]; omega
      · have HN := Lib.hid (decide_eq_false (HNE.out hq))
        have hbw := belowGo HB.out hb
        rw [decide_eq_false hq]
        refine plan_end ?_
        clear hq
        go_wp2_with fail
        exact bodyPost_ret (results_tmp rfl _ _ _) rfl ⟨by rw [HBB.out, HN.out]; rfl, hbw⟩
    · obtain rfl : j = n := by omega
      have hki : ¬ (j : Int) < (j : Int) := by omega
      have hlm : sl = sl' := by
        rw [List.take_of_length_le (by have := HLN.out; omega), List.take_of_length_le (by have := HMN.out; omega)] at htk
        exact htk
      have HN := Lib.hid (decide_eq_true hlm)
      have hbw := belowGo HB.out hb
      clear htk hlm hb
      go_wp2_with fail
      exact bodyPost_ret (results_tmp rfl _ _ _) rfl ⟨by rw [HBB.out, HN.out]; rfl, hbw⟩
end Go.Proofs.Ytedjolkkidciiaa
