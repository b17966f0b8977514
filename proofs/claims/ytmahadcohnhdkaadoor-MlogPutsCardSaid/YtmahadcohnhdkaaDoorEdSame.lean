/- Package edit: Same; slices.Equal of seals. -/
import Derived.Test.YtmahadcohnhdkaaDoorEdEq
import Derived.Test.YtmahadcohnhdkaaDoorEd8
import Derived.Deep.CutRange
namespace Go.Proofs.YtmahadcohnhdkaaDoor
open Go.RowKit
attribute [local go_sem] Oper.semAt_some

set_option maxRecDepth 100000 in
set_option maxHeartbeats 4000000 in
theorem eqSl_any (l m : List Sl) (hl : ∀ s ∈ l, s.fits) (hm : ∀ s ∈ m, s.fits) (A : Option Addr) (n c : Nat) (A' : Option Addr) (n' c' : Nat) (w : World) (hln : l.length = n) (hmn : m.length = n') (r : Rd w w.heap.size 5 A n (slCells l)) (r' : Rd w w.heap.size 5 A' n' (slCells m)) (hn : n ≤ 1000000) :
    Calls Tryd.prog 31 #[.slice A n c, .slice A' n' c'] w fun e w' => e = .returned (.bool (decide (l = m))) ∧ Below w.heap.size w w' := by
  by_cases hnn : n = n'
  · subst hnn
    have HLN := Lib.hid hln
    have HMN := Lib.hid hmn
    have R := Lib.hid r
    have R' := Lib.hid r'
    have HL := Lib.hid hl
    have HM := Lib.hid hm
    clear hln hmn r r' hl hm
    go_enter Tryd.func31, Tryd.ntmps31
    go_wp2_with fail
    go_loopw [13] (fun i wr => ∃ k : Nat, k ≤ n ∧ i = .int .i64 (k : Int) ∧ Below w.heap.size w wr ∧ l.take k = m.take k) (fun i _ => n - (intOf i).toNat)
    case atStart => exact ⟨0, by omega, rfl, Below.refl _ _, rfl⟩
    case round =>
      obtain ⟨k, hk, rfl, hb, htk⟩ := hrel
      by_cases hlt : k < n
      · have hki : (k : Int) < (n : Int) := by omega
        obtain ⟨p, off, rfl, hpl, hcell⟩ := R.out.2.2 (by omega)
        obtain ⟨p', off', rfl, hpl', hcell'⟩ := R'.out.2.2 (by omega)
        obtain ⟨s, hs⟩ : ∃ s, l[k]? = some s := ⟨l[k]'(by have := HLN.out; omega), List.getElem?_eq_getElem _⟩
        obtain ⟨t, ht⟩ : ∃ s, m[k]? = some s := ⟨m[k]'(by have := HMN.out; omega), List.getElem?_eq_getElem _⟩
        have hsf := HL.out _ (List.mem_of_getElem? hs)
        have htf := HM.out _ (List.mem_of_getElem? ht)
        have ha := slAt hcell hs
        have ha' := slAt hcell' ht
        have hst : l.take (k + 1) = m.take (k + 1) ↔ s = t := by
          rw [List.take_add_one, List.take_add_one, hs, ht, htk]
          simp
        have hne : ¬ s = t → ¬ l = m := fun h e => h (by rw [e, ht] at hs; injection hs with hs; exact hs.symm)
        have HA := Lib.hid (fun W (h : Below w.heap.size w W) => ha.after hpl h)
        have HA' := Lib.hid (fun W (h : Below w.heap.size w W) => ha'.after hpl' h)
        have EQ := Lib.hid (fun W => run_equal_seal s t hsf htf W)
        have HST := Lib.hid hst
        have HNE := Lib.hid hne
        have HTK := Lib.hid htk
        have HB := Lib.hid hb
        clear ha ha' hst hne hs ht hcell hcell' htk hsf htf
        go_wp2_with fail
        have hb : Below w.heap.size w wr.drew := ⟨hb.os, hb.tape, hb.output, hb.size, hb.block⟩
        refine wp_region_plan (fun W => Below w.heap.size w W) [.calms [0, 1, 2, 4, 5, 6], .read 3, .read 7, .read 8] (by kernel_rfl) (by rfl) (by kernel_rfl) (by kernel_rfl) hb ?_
        refine plan_calms (by simp [calmRow, need]; rfl) ?_
        generalize wr.drew = w5 at *
        go_wp2_with fail
        refine plan_read (by rfl) (.agg s.cells.toArray) (by rfl) (fun W hW => exec_load_mid rfl rfl (HA.out W hW) Tryd.underlying67 rfl (by kernel_rfl)) ?_
        refine plan_read (by rfl) (.agg t.cells.toArray) (by rfl) (fun W hW => exec_load_mid rfl rfl (HA'.out W hW) Tryd.underlying67 rfl (by kernel_rfl)) ?_
        refine plan_read (by rfl) (.bool !(decide (s = t))) (by rfl) (fun W hW => exec_bin rfl (run_neq_agg (by kernel_rfl) (EQ.out W))) ?_
        by_cases hq : s = t
        · have HN := Lib.hid (HST.out.2 hq)
          rw [decide_eq_true hq]
          refine plan_end ?_
          clear hq
          go_wp2_with fail
          go_roundw
          case rel => exact ⟨k + 1, by omega, by go_num, hb, HN.out⟩
          case measure => simp [intOf]; omega
        · have HN := Lib.hid (decide_eq_false (HNE.out hq))
          rw [decide_eq_false hq]
          refine plan_end ?_
          clear hq
          go_wp2_with fail
          exact bodyPost_ret (results_tmp rfl _ _ _) rfl ⟨by rw [HN.out]; rfl, hb⟩
      · obtain rfl : k = n := by omega
        have hki : ¬ (k : Int) < (k : Int) := by omega
        have hlm : l = m := by
          rw [List.take_of_length_le (by have := HLN.out; omega), List.take_of_length_le (by have := HMN.out; omega)] at htk
          exact htk
        have HN := Lib.hid (decide_eq_true hlm)
        clear htk hlm
        go_wp2_with fail
        exact bodyPost_ret (results_tmp rfl _ _ _) rfl ⟨by rw [HN.out]; rfl, hb⟩
  · have hni : ¬ (n : Int) = (n' : Int) := by omega
    have hd : decide (l = m) = false := decide_eq_false (fun e => hnn (by rw [← hln, ← hmn, e]))
    rw [hd]
    have HN := Lib.hid hnn
    clear hd hln hmn hnn
    go_enter Tryd.func31, Tryd.ntmps31
    go_wp2_with fail
    exact bodyPost_ret (results_tmp rfl _ _ _) rfl ⟨rfl, Below.refl _ _⟩

set_option maxRecDepth 100000 in
set_option maxHeartbeats 8000000 in
theorem same_any (d d' : Ed) (hd : d.fits) (hd' : d'.fits) (A : Option Addr) (n c : Nat) (A' : Option Addr) (n' c' : Nat) (w : World) (hln : d.seals.length = n) (hmn : d'.seals.length = n') (r : Rd w w.heap.size 5 A n (slCells d.seals)) (r' : Rd w w.heap.size 5 A' n' (slCells d'.seals)) (hn : n ≤ 1000000) :
    Calls Tryd.prog 17 #[.agg (edC d ⟨d.name.toArray⟩ (.slice A n c)), .agg (edC d' ⟨d'.name.toArray⟩ (.slice A' n' c'))] w fun e w' => e = .returned (.bool (decide (d = d'))) ∧ Below w.heap.size w w' := by
  obtain ⟨k, nm, q, i, sl⟩ := d
  obtain ⟨k', nm', q', i', sl'⟩ := d'
  obtain ⟨-, -, -, h4⟩ := hd
  obtain ⟨-, -, -, h4'⟩ := hd'
  dsimp only at *
  obtain ⟨S, hS⟩ : ∃ S : ByteArray, S = ⟨nm.toArray⟩ := ⟨_, rfl⟩
  obtain ⟨S', hS'⟩ : ∃ S : ByteArray, S = ⟨nm'.toArray⟩ := ⟨_, rfl⟩
  have hst : S.toList = nm := by rw [hS, ByteArray.toList_mk]
  have hst' : S'.toList = nm' := by rw [hS', ByteArray.toList_mk]
  rw [show edC (Ed.mk k nm q i sl) ⟨nm.toArray⟩ (.slice A n c) = #[.int .i64 k, .string S, .int .u64 (q : Int), .int .u32 (i : Int), .slice A n c] by rw [hS]; rfl, show edC (Ed.mk k' nm' q' i' sl') ⟨nm'.toArray⟩ (.slice A' n' c') = #[.int .i64 k', .string S', .int .u64 (q' : Int), .int .u32 (i' : Int), .slice A' n' c'] by rw [hS']; rfl]
  have hiff : (Ed.mk k nm q i sl = Ed.mk k' nm' q' i' sl') ↔ k = k' ∧ nm = nm' ∧ q = q' ∧ i = i' ∧ sl = sl' := by simp
  have b1 := (Below.refl w.heap.size w).alloc (Nat.le_refl _) (.cells #[.int .i64 k, .string S, .int .u64 (q : Int), .int .u32 (i : Int), .slice A n c] 31)
  have q1 := (Blk.new w 31 #[.int .i64 k, .string S, .int .u64 (q : Int), .int .u32 (i : Int), .slice A n c]).alloc (.cells #[.int .i64 k', .string S', .int .u64 (q' : Int), .int .u32 (i' : Int), .slice A' n' c'] 31)
  have hb := belowAlloc b1 (.cells #[.int .i64 k', .string S', .int .u64 (q' : Int), .int .u32 (i' : Int), .slice A' n' c'] 31)
  have q2 := Blk.newAt (w.alloc (.cells #[.int .i64 k, .string S, .int .u64 (q : Int), .int .u32 (i : Int), .slice A n c] 31)) 31 #[.int .i64 k', .string S', .int .u64 (q' : Int), .int .u32 (i' : Int), .slice A' n' c'] (g := w.heap.size + 1) (by simp)
  have HQ := Lib.hid (eqSl_any sl sl' h4 h4' A n c A' n' c' _ hln hmn ((r.below hb (Nat.le_refl _)).more hb.size) ((r'.below hb (Nat.le_refl _)).more hb.size) hn)
  clear hS hS' r r' hln hmn b1 h4 h4'
  have HIFF := Lib.hid hiff
  obtain ⟨bb, hbb⟩ : ∃ b, b = decide (Ed.mk k nm q i sl = Ed.mk k' nm' q' i' sl') := ⟨_, rfl⟩
  rw [← hbb]
  have HBB := Lib.hid hbb
  clear hiff hbb
  go_enter Tryd.func17, Tryd.ntmps17
  go_upto_region 1 with (fail)
  generalize (w.alloc (.cells #[.int .i64 k, .string S, .int .u64 (q : Int), .int .u32 (i : Int), .slice A n c] 31)).alloc (.cells #[.int .i64 k', .string S', .int .u64 (q' : Int), .int .u32 (i' : Int), .slice A' n' c'] 31) = w2 at *
  have a0 : w2.cell? ⟨w.heap.size, 0, none⟩ = some (.int .i64 k) := q1.cell 0
  have a1 : w2.cell? ⟨w.heap.size, 1, none⟩ = some (.string S) := q1.cell 1
  have a2 : w2.cell? ⟨w.heap.size, 2, none⟩ = some (.int .u64 (q : Int)) := q1.cell 2
  have a3 : w2.cell? ⟨w.heap.size, 3, none⟩ = some (.int .u32 (i : Int)) := q1.cell 3
  have a4 : w2.cell? ⟨w.heap.size, 4, none⟩ = some (.slice A n c) := q1.cell 4
  have b0 : w2.cell? ⟨w.heap.size + 1, 0, none⟩ = some (.int .i64 k') := q2.cell 0
  have b1 : w2.cell? ⟨w.heap.size + 1, 1, none⟩ = some (.string S') := q2.cell 1
  have b2 : w2.cell? ⟨w.heap.size + 1, 2, none⟩ = some (.int .u64 (q' : Int)) := q2.cell 2
  have b3 : w2.cell? ⟨w.heap.size + 1, 3, none⟩ = some (.int .u32 (i' : Int)) := q2.cell 3
  have b4 : w2.cell? ⟨w.heap.size + 1, 4, none⟩ = some (.slice A' n' c') := q2.cell 4
  clear q1 q2
  have HB := Lib.hid hb
  clear hb
  by_cases h1 : k = k'
  · subst h1
    by_cases h2 : nm = nm'
    · have y2 : S.toList = S'.toList := by rw [hst, hst', h2]
      have H2 := Lib.hid h2
      clear hst hst' h2
      by_cases h3 : q = q'
      · subst h3
        by_cases h4 : i = i'
        · subst h4
          have hdd : decide (Ed.mk k nm q i sl = Ed.mk k nm' q i sl') = decide (sl = sl') := by
            rw [decide_eq_decide, HIFF.out]
            exact ⟨fun h => h.2.2.2.2, fun h => ⟨rfl, H2.out, rfl, rfl, h⟩⟩
          have HD := Lib.hid (HBB.out.trans hdd)
          clear hdd
          go_wp2_with fail
          refine HQ.out.mono ?_
          rintro e w3 ⟨rfl, b3'⟩
          have hb := belowGo HB.out b3'
          go_wp2_with fail
          exact bodyPost_ret (results_tmp rfl _ _ _) rfl ⟨by rw [HD.out]; rfl, hb⟩
        · have y4 : ¬ (i : Int) = (i' : Int) := by omega
          have HD := Lib.hid (HBB.out.trans (decide_eq_false (fun e => h4 (HIFF.out.1 e).2.2.2.1)))
          clear h4
          go_wp2_with fail
          exact bodyPost_ret (results_tmp rfl _ _ _) rfl ⟨by rw [HD.out]; rfl, HB.out⟩
      · have y3 : ¬ (q : Int) = (q' : Int) := by omega
        have HD := Lib.hid (HBB.out.trans (decide_eq_false (fun e => h3 (HIFF.out.1 e).2.2.1)))
        clear h3
        go_wp2_with fail
        exact bodyPost_ret (results_tmp rfl _ _ _) rfl ⟨by rw [HD.out]; rfl, HB.out⟩
    · have y2 : ¬ S.toList = S'.toList := by rw [hst, hst']; exact h2
      have HD := Lib.hid (HBB.out.trans (decide_eq_false (fun e => h2 (HIFF.out.1 e).2.1)))
      clear hst hst' h2
      go_wp2_with fail
      exact bodyPost_ret (results_tmp rfl _ _ _) rfl ⟨by rw [HD.out]; rfl, HB.out⟩
  · have HD := Lib.hid (HBB.out.trans (decide_eq_false (fun e => h1 (HIFF.out.1 e).1)))
    clear hst hst'
    go_wp2_with fail
    exact bodyPost_ret (results_tmp rfl _ _ _) rfl ⟨by rw [HD.out]; rfl, HB.out⟩
end Go.Proofs.YtmahadcohnhdkaaDoor
