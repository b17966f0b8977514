/- Package link: Ahead, Head, Len, Last, Wrong. For all links. -/
import Derived.Test.YtnkkieiofpplgaaLk1
import Derived.Test.YtnkkieiofpplgaaMid
import Derived.Deep.WholeRow
namespace Go.Proofs.Ytnkkieiofpplgaa
open Go.RowKit
attribute [local go_sem] Oper.semAt_some

set_option maxRecDepth 100000 in
set_option maxHeartbeats 2000000 in
theorem aheadlk_any {B g bh ba : Nat} {v : Value} {S : LS} (l : Nat × Nat) (hl : LOk l) (w : World) (h : Lk w B g bh ba v S) :
    Calls Try.prog 14 #[.pointer (some ⟨g, 0, none⟩), locP l] w fun e w' => e = .returned (.tuple #[locP ((mget S.ahead l).getD (0, 0)), .bool (mget S.ahead l).isSome]) ∧ Below w.heap.size w w' := by
  obtain ⟨r, hr⟩ : ∃ r, r = (mget S.ahead l).getD (0, 0) := ⟨_, rfl⟩
  obtain ⟨is, his⟩ : ∃ r, r = (mget S.ahead l).isSome := ⟨_, rfl⟩
  rw [← hr, ← his]
  have HV := Lib.hid (show ((mget S.ahead l).map locP).getD (locP (0, 0)) = locP r from by rw [hr]; cases mget S.ahead l <;> rfl)
  have HIS := Lib.hid his
  have HZ := Lib.hid (fun W => (zero_of_info (P := Try.prog) (t := 34) (n := 2) (v := locP (0, 0)) (by kernel_rfl)).1 W)
  have b0 := belowAlloc (belowAlloc (Below.refl w.heap.size w) (.cells #[.int .u32 (l.1 : Int), .int .u32 (l.2 : Int)] 34)) (.cells #[.int .u32 0, .int .u32 0] 34)
  have q3 := (Blk.new w 34 #[.int .u32 (l.1 : Int), .int .u32 (l.2 : Int)]).alloc (.cells #[.int .u32 0, .int .u32 0] 34)
  have q4 := Blk.newAt (w.alloc (.cells #[.int .u32 (l.1 : Int), .int .u32 (l.2 : Int)] 34)) 34 #[.int .u32 0, .int .u32 0] (g := w.heap.size + 1) (by simp)
  have H := Lib.hid (h.after b0)
  clear hr his
  unfold locP locV
  go_enter Try.func14, Try.ntmps14
  go_upto_region 1 with fail
  generalize (w.alloc (.cells #[.int .u32 (l.1 : Int), .int .u32 (l.2 : Int)] 34)).alloc (.cells #[.int .u32 0, .int .u32 0] 34) = w1 at *
  go_wp2_with fail
  refine (nonelk_any w1 H.out).mono ?_
  rintro e w2 ⟨rfl, rfl⟩
  go_wp2_with fail
  have hcur : Below w1.heap.size w1 w1.drew := ⟨rfl, rfl, rfl, Nat.le_refl _, fun _ _ => rfl⟩
  refine wp_region_plan (fun W => Below w1.heap.size w1 W) [.calms [0], .read 1, .calms [2], .read 3, .read 4, .read 5, .calms [6, 7, 8], .act 9, .act 10, .calms [11]] (by kernel_rfl) (by rfl) (by kernel_rfl) (by kernel_rfl) hcur ?_
  generalize w1.drew = w2 at *
  have HC := Lib.hid hcur
  have Q3 := Lib.hid q3
  have Q4 := Lib.hid q4
  have HK : ∀ W, Below w1.heap.size w1 W → W.cell? ⟨g, 1, none⟩ = some (.map (some ba)) ∧ (Instr.lookup 69 (.map (some ba)) (locP l) true).run Try.prog W = .ok (.tuple #[locP r, .bool is]) W := fun W hW => by
    obtain ⟨-, -, -, -, q, -, ma, -⟩ := H.out.after hW
    refine ⟨q.cell 1, ?_⟩
    rw [ma.look locP_inj loc_keyed Try.underlying69 (HZ.out W) hl (loc_key hl).choose_spec true, HV.out, HIS.out]
    rfl
  have HK := Lib.hid HK
  clear q3 q4 hcur HZ
  refine plan_calms (by simp [calmRow, need]; rfl) ?_
  go_wp2_with fail
  refine plan_read (by rfl) (.pointer (some ⟨g, 0, none⟩)) (by rfl) (fun W hW => exec_nil rfl rfl) ?_
  refine plan_calms (by simp [calmRow, need]; rfl) ?_
  go_wp2_with fail
  refine plan_read (by rfl) (.map (some ba)) (by rfl) (fun W hW => exec_load rfl rfl (by kernel_rfl) (HK.out W hW).1) ?_
  refine plan_read (by rfl) (locP l) (by rfl) (fun W hW => exec_load_blk rfl rfl (Q3.out.after hW) Try.underlying34 rfl (by kernel_rfl)) ?_
  refine plan_read (by rfl) (.tuple #[locP r, .bool is]) (by rfl) (fun W hW => exec_lookup rfl (HK.out W hW).2) ?_
  refine plan_calms (by simp [calmRow, need]; rfl) ?_
  go_wp2_with fail
  refine plan_act (by rfl) ?_
  go_wp2_with fail
  refine ⟨belowAlloc HC.out _, ?_⟩
  refine plan_last (by rfl) (by kernel_rfl) ?_
  unfold locP locV
  go_wp2_with fail
  refine plan_calms (by simp [calmRow, need]; rfl) ?_
  go_wp2_with fail
  refine plan_end ?_
  have Q4 := Lib.hid ((Q4.out.after HC.out).alloc (.cells #[.int .u32 (r.1 : Int), .int .u32 (r.2 : Int)] 34))
  have Q6 := Lib.hid (Blk.new w2 34 #[.int .u32 (r.1 : Int), .int .u32 (r.2 : Int)])
  have HB := Lib.hid (belowGo b0 (belowAlloc HC.out (.cells #[.int .u32 (r.1 : Int), .int .u32 (r.2 : Int)] 34)))
  generalize w2.alloc (.cells #[.int .u32 (r.1 : Int), .int .u32 (r.2 : Int)] 34) = w3 at *
  obtain ⟨g6, hg6⟩ : ∃ g, g = w2.heap.size := ⟨_, rfl⟩
  rw [← hg6] at Q6 ⊢
  have Q4' := Lib.hid (Q4.out.row #[.int .u32 (r.1 : Int), .int .u32 (r.2 : Int)])
  have HB' := Lib.hid (row_below HB.out (show w.heap.size ≤ w.heap.size + 1 by omega) #[.int .u32 (r.1 : Int), .int .u32 (r.2 : Int)])
  clear hg6 HK HC b0
  go_wp2_with (first
    | (refine wpList_value rfl (exec_load_blk rfl rfl Q6.out Try.underlying34 rfl (by kernel_rfl)) ?_)
    | (refine wpList_storeB rfl 34 (.tmp 4) (.tmp 20) rfl rfl rfl Q4.out (by kernel_rfl) (by rfl) (by simp [Value.oneCell']) ?_)
    | fail)
  exact bodyPost_ret (results_cell2 rfl rfl (res_load Q4'.out Try.underlying34 rfl (by kernel_rfl))) rfl ⟨rfl, HB'.out⟩
/-- a key's head, if there is one -/
def LS.head (S : LS) (l : List UInt8) : Option (Nat × Nat × Nat × Int) := if mayB l.length then mget S.heads l else none
theorem mayB_KOk {l : List UInt8} (h : mayB l.length = true) : KOk l := by
  unfold mayB at h
  simp at h
  exact ⟨h.1, h.2⟩
set_option maxRecDepth 100000 in
set_option maxHeartbeats 4000000 in
theorem headlk_any {B g bh ba : Nat} {v : Value} {S : LS} (l : List UInt8) (A : Option Addr) (n c : Nat) (w : World) (h : Lk w B g bh ba v S) (hnc : n ≤ c) (hnn : n ≤ 1000000) (hr : Rd w w.heap.size 1 A n (bcells l)) :
    Calls Try.prog 10 #[.pointer (some ⟨g, 0, none⟩), .slice A n c] w fun e w' => e = .returned (.tuple #[hdV ((S.head l).getD (0, 0, 0, 0)), .bool (S.head l).isSome]) ∧ Below w.heap.size w w' := by
  have hl := hr.1
  rw [bcells_len, Nat.mul_one] at hl
  obtain ⟨r, hr0⟩ : ∃ r, r = (S.head l).getD (0, 0, 0, 0) := ⟨_, rfl⟩
  obtain ⟨is, his⟩ : ∃ r, r = (S.head l).isSome := ⟨_, rfl⟩
  rw [← hr0, ← his]
  have HR0 := Lib.hid hr0
  have HIS := Lib.hid his
  have b0 := belowAlloc (Below.refl w.heap.size w) (.cells #[.int .u32 0, .int .u32 0, .int .u64 0, .int .i64 0] 42)
  have q4 := Blk.new w 42 #[.int .u32 0, .int .u32 0, .int .u64 0, .int .i64 0]
  have H := Lib.hid (h.after b0)
  have R := Lib.hid ((hr.below b0 (Nat.le_refl _)).more b0.size)
  have HMB := fun W => Lib.hid (mayK_any A n c W (by omega))
  obtain ⟨mb, hmb⟩ : ∃ b, b = mayB n := ⟨_, rfl⟩
  rw [← hmb] at HMB
  rw [← hl] at hmb
  clear hr0 his h hr
  go_enter Try.func10, Try.ntmps10
  go_upto_region 1 with fail
  generalize w.alloc (.cells #[.int .u32 0, .int .u32 0, .int .u64 0, .int .i64 0] 42) = w1 at *
  cases mb with
  | false =>
    have hn : S.head l = none := by unfold LS.head; rw [← hmb]; rfl
    have h1 : r = (0, 0, 0, 0) := by rw [HR0.out, hn]; rfl
    have h2 : is = false := by rw [HIS.out, hn]; rfl
    subst h1 h2
    have Q4 := Lib.hid q4
    have HB := Lib.hid (row_below b0 (Nat.le_refl _) #[.int .u32 0, .int .u32 0, .int .u64 0, .int .i64 0])
    have Q4' := Lib.hid (q4.row #[.int .u32 0, .int .u32 0, .int .u64 0, .int .i64 0])
    clear hn hmb q4 b0
    go_wp2_with fail
    refine (nonelk_any w1 H.out).mono ?_
    rintro e w2 ⟨rfl, rfl⟩
    go_wp2_with fail
    refine (HMB _).out.mono ?_
    rintro e w2 ⟨rfl, rfl⟩
    go_wp2_with (first
      | (refine wpList_storeB rfl 42 (.tmp 4) (.tmp 15) rfl rfl rfl Q4.out (by kernel_rfl) (by rfl) (by simp [Value.oneCell']) ?_)
      | fail)
    exact bodyPost_ret (results_cell2 rfl rfl (res_load Q4'.out Try.underlying42 rfl (by kernel_rfl))) rfl ⟨rfl, HB.out⟩
  | true =>
    have kok := mayB_KOk hmb.symm
    have hk : S.head l = mget S.heads l := by unfold LS.head; rw [← hmb]; rfl
    have HV := Lib.hid (show ((mget S.heads l).map hdV).getD (hdV (0, 0, 0, 0)) = hdV r from by rw [HR0.out, hk]; cases mget S.heads l <;> rfl)
    have HIS2 := Lib.hid (show is = (mget S.heads l).isSome from by rw [HIS.out, hk])
    have hpv : (Value.agg (prC l)) = kpv l := by rw [prC_pc l (mayB_ok kok)]; rfl
    have HPV := Lib.hid hpv
    have HZ := Lib.hid (fun W => (zero_of_info (P := Try.prog) (t := 42) (n := 4) (v := hdV (0, 0, 0, 0)) (by kernel_rfl)).1 W)
    have Q4 := Lib.hid q4
    have B0 := Lib.hid b0
    have KOF := Lib.hid (fun W (hW : Below w1.heap.size w1 W) => of_any l A n c W hnc hnn ((R.out.below hW (Nat.le_refl _)).more hW.size))
    rw [hpv] at KOF
    have HK : ∀ W, Below w1.heap.size w1 W → W.cell? ⟨g, 0, none⟩ = some (.map (some bh)) ∧ (Instr.lookup 68 (.map (some bh)) (kpv l) true).run Try.prog W = .ok (.tuple #[hdV r, .bool is]) W := fun W hW => by
      obtain ⟨-, -, -, -, q, mh, -, -⟩ := H.out.after hW
      refine ⟨q.cell 0, ?_⟩
      rw [mh.look kpv_inj print_keyed Try.underlying68 (HZ.out W) kok (kpv_key kok).choose_spec true, HV.out, HIS2.out]
      rfl
    have HK := Lib.hid HK
    clear hk hpv kok hmb q4 b0 HV HIS2 HZ HIS HR0
    go_wp2_with fail
    refine (nonelk_any w1 H.out).mono ?_
    rintro e w2 ⟨rfl, rfl⟩
    go_wp2_with fail
    refine (HMB _).out.mono ?_
    rintro e w2 ⟨rfl, rfl⟩
    go_upto_region 3 with fail
    go_cut [6, 7] from 16 to 25 (fun v6 v7 wx => ∃ g6, v6 = .pointer (some ⟨g6, 0, none⟩) ∧ v7 = .bool is ∧ Blk wx g6 42 (headC r) ∧ Below w1.heap.size w1 wx)
    case first =>
      have hcur : Below w1.heap.size w1 w1.drew := ⟨rfl, rfl, rfl, Nat.le_refl _, fun _ _ => rfl⟩
      refine wp_region_tree (fun W => Below w1.heap.size w1 W) (row [.calms [0, 4], .read 1, .calms [2], .read 3] (.fork 5 (row [.read 6, .calms [7, 8, 9], .act 10, .act 11, .calms [12]] .done) 10 (row [.act 5, .act 6, .calms [7, 8, 9], .act 11, .calms [12]] .done))) (by kernel_rfl) (by rfl) (by kernel_rfl) (by kernel_rfl) hcur ?_
      generalize w1.drew = w2 at *
      have HC := Lib.hid hcur
      clear hcur
      refine plan_calms (by simp [calmRow, need]; rfl) ?_
      go_wp2_with fail
      refine plan_read (by rfl) (.pointer (some ⟨g, 0, none⟩)) (by rfl) (fun W hW => exec_nil rfl rfl) ?_
      refine plan_calms (by simp [calmRow, need]; rfl) ?_
      go_wp2_with fail
      refine plan_read (by rfl) (.map (some bh)) (by rfl) (fun W hW => exec_load rfl rfl (by kernel_rfl) (HK.out W hW).1) ?_
      refine plan_fork (by rfl) (by rfl) ?_ ?_
      · go_wp2_with fail
        refine (KOF.out w2 HC.out).mono ?_
        rintro e w3 ⟨rfl, b3⟩
        have HC := Lib.hid (belowGo HC.out b3)
        clear b3
        go_wp2_with fail
        refine ⟨HC.out, ?_⟩
        refine plan_read (by rfl) (.tuple #[hdV r, .bool is]) (by rfl) (fun W hW => exec_lookup rfl (HK.out W hW).2) ?_
        refine plan_calms (by simp [calmRow, need]; rfl) ?_
        go_wp2_with fail
        refine plan_act (by rfl) ?_
        go_wp2_with fail
        refine ⟨belowAlloc HC.out _, ?_⟩
        refine plan_last (by rfl) (by kernel_rfl) ?_
        unfold hdV headC
        go_wp2_with fail
        refine plan_calms (by simp [calmRow, need]; rfl) ?_
        go_wp2_with fail
        refine plan_end ?_
        go_wp2_with fail
        go_meet
        case rel => exact ⟨w3.heap.size, rfl, rfl, Blk.new w3 _ _, belowAlloc HC.out _⟩
      · go_wp2_with fail
        have q6 := Blk.new w2 42 #[.int .u32 0, .int .u32 0, .int .u64 0, .int .i64 0]
        have hg0 := HC.out.size
        have HC := Lib.hid (belowAlloc HC.out (.cells #[.int .u32 0, .int .u32 0, .int .u64 0, .int .i64 0] 42))
        obtain ⟨g6, hg6⟩ : ∃ g, g = w2.heap.size := ⟨_, rfl⟩
        have hg1 : w1.heap.size ≤ g6 := by rw [hg6]; exact hg0
        clear hg0
        generalize w2.alloc (.cells #[.int .u32 0, .int .u32 0, .int .u64 0, .int .i64 0] 42) = w3 at *
        rw [← hg6] at q6 ⊢
        clear hg6
        refine ⟨HC.out, ?_⟩
        refine plan_act (by rfl) ?_
        go_wp2_with fail
        refine (KOF.out w3 HC.out).mono ?_
        rintro e w4 ⟨rfl, b4⟩
        have HC := Lib.hid (belowGo HC.out b4)
        have Q6 := Lib.hid (q6.after b4)
        clear b4 q6
        go_wp2_with fail
        refine ⟨HC.out, ?_⟩
        refine plan_act (by rfl) ?_
        refine wpList_value rfl (exec_lookup rfl (HK.out _ HC.out).2) ?_
        go_wp2_with fail
        refine ⟨HC.out, ?_⟩
        refine plan_calms (by simp [calmRow, need]; rfl) ?_
        go_wp2_with fail
        refine plan_last (by rfl) (by kernel_rfl) ?_
        unfold hdV headC
        refine wpList_storeB rfl 42 (.tmp 6) (.tmp 24) rfl rfl rfl Q6.out (by kernel_rfl) (by rfl) (by simp [Value.oneCell']) ?_
        go_wp2_with fail
        refine plan_calms (by simp [calmRow, need]; rfl) ?_
        go_wp2_with fail
        refine plan_end ?_
        go_wp2_with fail
        go_meet
        case rel => exact ⟨g6, rfl, rfl, Q6.out.row _, row_below HC.out hg1 _⟩
    obtain ⟨g6, rfl, rfl, q6, hb6⟩ := hcut
    have Q6 := Lib.hid q6
    have Q4 := Lib.hid (Q4.out.after hb6)
    have HB := Lib.hid (belowGo B0.out hb6)
    have Q4' := Lib.hid (Q4.out.row (headC r))
    have HB' := Lib.hid (row_below HB.out (Nat.le_refl _) (headC r))
    clear q6 hb6 KOF HK B0 R
    go_wp2_with (first
      | (refine wpList_value rfl (exec_load_blk rfl rfl Q6.out Try.underlying42 rfl (by kernel_rfl)) ?_)
      | (refine wpList_storeB rfl 42 (.tmp 4) (.tmp 26) rfl rfl rfl Q4.out (by kernel_rfl) (by rfl) (by simp [headC, Value.oneCell']) ?_)
      | fail)
    exact bodyPost_ret (results_cell2 rfl rfl (res_load Q4'.out Try.underlying42 rfl (by kernel_rfl))) rfl ⟨rfl, HB'.out⟩
end Go.Proofs.Ytnkkieiofpplgaa
