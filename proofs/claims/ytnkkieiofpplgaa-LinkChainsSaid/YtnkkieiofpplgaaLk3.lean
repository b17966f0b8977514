/- Package link: Add. For all links and all that may be found. -/
import Derived.Test.YtnkkieiofpplgaaLkSt
namespace Go.Proofs.Ytnkkieiofpplgaa
open Go.RowKit
attribute [local go_sem] Oper.semAt_some

def LS.before (S : LS) (l : List UInt8) : Nat × Nat := ((mget S.heads l).map fun h => (h.1, h.2.1)).getD (0, 0)
def LS.put (S : LS) (at_ : Nat × Nat) (q : Nat) (k : Int) (l : List UInt8) (pv : Nat × Nat) : LS :=
  ⟨mput l (at_.1, at_.2, q, k) S.heads, mput at_ (S.before l) S.ahead, if S.before l = pv then S.wrong else S.wrong ++ [at_], q⟩
def LS.bad (S : LS) (at_ : Nat × Nat) (q : Nat) (k : Int) (n m : Nat) (pv : Nat × Nat) : Bool := !(mayR q k n m pv.1 pv.2) || (decide (q ≤ S.last) || (!(mayL at_.1 at_.2) || noneB at_.1 at_.2))
def LS.code (S : LS) (at_ : Nat × Nat) (q : Nat) (k : Int) (n m : Nat) (pv : Nat × Nat) : Nat := if S.bad at_ q k n m pv then 1 else if (mget S.ahead at_).isSome then 9 else 0
def LS.add (S : LS) (at_ : Nat × Nat) (q : Nat) (k : Int) (l : List UInt8) (m : Nat) (pv : Nat × Nat) : LS := if S.code at_ q k l.length m pv = 0 then S.put at_ q k l pv else S
def RetAdd (w : World) (B g bh ba : Nat) (v : Value) (S' : LS) (code : Nat) (e : Ending) (w' : World) : Prop :=
  ∃ v', e = .returned (.int .i64 (code : Int)) ∧ Lk w' B g bh ba v' S' ∧ Kp (lkF g bh ba v) w w' ∧ (∀ j, v'.ownBlock = some j → v.ownBlock = some j ∨ w.heap.size ≤ j)

set_option maxRecDepth 100000 in
theorem field_head0 (a b c d : Value) (W : World) : (Instr.field 42 (.agg #[a, b, c, d]) 0).run Try.prog W = .ok (.agg #[a, b]) W := by kernel_rfl
set_option maxRecDepth 100000 in
set_option maxHeartbeats 8000000 in
theorem addlk_any {B g bh ba : Nat} {v : Value} {S : LS} (at_ : Nat × Nat) (sz : Int) (q : Nat) (k : Int) (l : List UInt8) (A : Option Addr) (n c : Nat) (Bv : Option Addr) (m d : Nat) (pv : Nat × Nat) (w : World) (h : Lk w B g bh ba v S) (hat : LOk at_) (hnc : n ≤ c) (hnn : n ≤ 1000000) (hr : Rd w w.heap.size 1 A n (bcells l)) (hwl : S.wrong.length ≤ 1000000) :
    Calls Try.prog 9 #[.pointer (some ⟨g, 0, none⟩), .agg #[.int .u32 (at_.1 : Int), .int .u32 (at_.2 : Int), .int .i64 sz, .int .u64 (q : Int), .int .i64 k, .slice A n c, .slice Bv m d, .int .u32 (pv.1 : Int), .int .u32 (pv.2 : Int)]] w (RetAdd w B g bh ba v (S.add at_ q k l m pv) (S.code at_ q k l.length m pv)) := by
  have hl := hr.1
  rw [bcells_len, Nat.mul_one] at hl
  obtain ⟨bad, hbad⟩ : ∃ b, b = S.bad at_ q k l.length m pv := ⟨_, rfl⟩
  have HBAD := Lib.hid hbad
  rw [hl] at hbad
  obtain ⟨mr, hmr⟩ : ∃ b, b = mayR q k n m pv.1 pv.2 := ⟨_, rfl⟩
  obtain ⟨ml, hml⟩ : ∃ b, b = mayL at_.1 at_.2 := ⟨_, rfl⟩
  obtain ⟨nb, hnb⟩ : ∃ b, b = noneB at_.1 at_.2 := ⟨_, rfl⟩
  have HB0 : Hid (bad = (!mr || (decide (q ≤ S.last) || (!ml || nb)))) := Lib.hid (by rw [hbad, hmr, hml, hnb]; rfl)
  have HMR := Lib.hid hmr
  have MR := Lib.hid (fun W (h : n ≤ 9223372036854775807) => mayR_any q k A n c Bv m d pv.1 pv.2 W h)
  have ML := Lib.hid (fun W => mayLoc_any at_.1 at_.2 W)
  have NB := Lib.hid (fun W => noneL_any at_.1 at_.2 W)
  rw [← hmr] at MR
  rw [← hml] at ML
  rw [← hnb] at NB
  clear hmr hml hnb hbad
  have b0 := belowAlloc (Below.refl w.heap.size w) (.cells #[.int .u32 (at_.1 : Int), .int .u32 (at_.2 : Int), .int .i64 sz, .int .u64 (q : Int), .int .i64 k, .slice A n c, .slice Bv m d, .int .u32 (pv.1 : Int), .int .u32 (pv.2 : Int)] 40)
  have q3 := Blk.new w 40 #[.int .u32 (at_.1 : Int), .int .u32 (at_.2 : Int), .int .i64 sz, .int .u64 (q : Int), .int .i64 k, .slice A n c, .slice Bv m d, .int .u32 (pv.1 : Int), .int .u32 (pv.2 : Int)]
  have H := Lib.hid h
  have HR := Lib.hid hr
  have HL := Lib.hid hl
  have HLO := Lib.hid h.lt
  clear h hr hl
  go_enter Try.func9, Try.ntmps9
  go_upto_region 1 with fail
  have HGS : Hid (w.heap.size < (w.alloc (.cells #[.int .u32 (at_.1 : Int), .int .u32 (at_.2 : Int), .int .i64 sz, .int .u64 (q : Int), .int .i64 k, .slice A n c, .slice Bv m d, .int .u32 (pv.1 : Int), .int .u32 (pv.2 : Int)] 40)).heap.size) := Lib.hid (by simp)
  generalize w.alloc (.cells #[.int .u32 (at_.1 : Int), .int .u32 (at_.2 : Int), .int .i64 sz, .int .u64 (q : Int), .int .i64 k, .slice A n c, .slice Bv m d, .int .u32 (pv.1 : Int), .int .u32 (pv.2 : Int)] 40) = w1 at *
  have Q3 := Lib.hid q3
  have H1 := Lib.hid (H.out.after b0)
  have B0 := Lib.hid b0
  clear q3 b0
  go_wp2_with fail
  refine (nonelk_any w1 H1.out).mono ?_
  rintro e w2 ⟨rfl, rfl⟩
  have b1 := belowAlloc (Below.refl w1.heap.size w1) (.cells #[.int .u64 (q : Int), .int .i64 k, .slice A n c, .slice Bv m d, .int .u32 (pv.1 : Int), .int .u32 (pv.2 : Int)] 38)
  have q5 := Blk.new w1 38 #[.int .u64 (q : Int), .int .i64 k, .slice A n c, .slice Bv m d, .int .u32 (pv.1 : Int), .int .u32 (pv.2 : Int)]
  have hat3 : At w1 w.heap.size 3 [.int .u64 (q : Int), .int .i64 k, .slice A n c, .slice Bv m d, .int .u32 (pv.1 : Int), .int .u32 (pv.2 : Int)] := fun j v hv => by
    rw [Q3.out.cell]
    match j, hv with
    | 0, hv => exact hv
    | 1, hv => exact hv
    | 2, hv => exact hv
    | 3, hv => exact hv
    | 4, hv => exact hv
    | 5, hv => exact hv
    | j + 6, hv => simp at hv
  have HAT3 := Lib.hid hat3
  clear hat3
  go_upto_region 4 with (first
    | (refine wpList_value rfl (exec_load_mid rfl rfl HAT3.out Try.underlying38 rfl (by kernel_rfl)) ?_)
    | fail)
  have HB1 := Lib.hid b1
  have Q5 := Lib.hid q5
  have Q3 := Lib.hid (Q3.out.alloc (.cells #[.int .u64 (q : Int), .int .i64 k, .slice A n c, .slice Bv m d, .int .u32 (pv.1 : Int), .int .u32 (pv.2 : Int)] 38))
  have H1 := Lib.hid (H1.out.after b1)
  have hs3 := Q3.out.lt
  have hs12 : w1.heap.size + 1 = (w1.alloc (.cells #[.int .u64 (q : Int), .int .i64 k, .slice A n c, .slice Bv m d, .int .u32 (pv.1 : Int), .int .u32 (pv.2 : Int)] 38)).heap.size := by simp
  obtain ⟨g3, hg3⟩ : ∃ g, g = w.heap.size := ⟨_, rfl⟩
  have HG3 : Hid (w.heap.size ≤ g3) := Lib.hid (by rw [hg3]; exact Nat.le_refl _)
  obtain ⟨g5, hg5⟩ : ∃ g, g = w1.heap.size := ⟨_, rfl⟩
  have hlt35 : g3 < g5 := by
    rw [hg3, hg5]
    have := B0.out.size
    have := HGS.out
    omega
  have HAT3 : Hid (At _ _ _ _) := Lib.hid (fun j u hj => (HB1.out.cell (p := ⟨w.heap.size, 3 + j, none⟩) (by rw [← hg5, ← hg3]; exact hlt35)).trans (HAT3.out j u hj))
  generalize w1.alloc (.cells #[.int .u64 (q : Int), .int .i64 k, .slice A n c, .slice Bv m d, .int .u32 (pv.1 : Int), .int .u32 (pv.2 : Int)] 38) = w2 at *
  rw [← hg3] at Q3 HAT3 ⊢
  rw [← hg5] at Q5 ⊢
  have HB2 := Lib.hid (belowGo B0.out HB1.out)
  have HG5 : Hid (w.heap.size ≤ g5) := Lib.hid (by have := HG3.out; omega)
  clear b1 q5 hs3 hs12 hg3 hg5 B0
  have HC := Lib.hid (fun W (h : Below w2.heap.size w2 W) => (show W.cell? ⟨g, 3, none⟩ = some (.int .u64 (S.last : Int)) ∧ W.cell? ⟨g5, 0, none⟩ = some (.int .u64 (q : Int)) from ⟨(H1.out.after h).2.2.2.2.1.cell 3, (Q5.out.after h).cell 0⟩))
  have HAT := Lib.hid (fun W (h : Below w2.heap.size w2 W) => (show At W g3 0 [.int .u32 (at_.1 : Int), .int .u32 (at_.2 : Int)] from fun j u hu => by
    rw [(Q3.out.after h).cell]
    match j, hu with
    | 0, hu => exact hu
    | 1, hu => exact hu
    | j + 2, hu => simp at hu))
  go_cut [36] from 14 to 36 (fun v36 wx => v36 = .bool bad ∧ Below w2.heap.size w2 wx)
  case first =>
    have hcur : Below w2.heap.size w2 w2.drew := ⟨rfl, rfl, rfl, Nat.le_refl _, fun _ _ => rfl⟩
    refine wp_region_plan (fun W => Below w2.heap.size w2 W) [.act 0, .act 1, .calms [2, 3, 4, 6], .read 5, .act 7, .calms [8], .act 9, .calms [10, 11, 12, 13], .act 14, .act 15, .calms [16, 17, 18, 19], .act 20, .act 21, .calms [22]] (by kernel_rfl) (by rfl) (by kernel_rfl) (by kernel_rfl) hcur ?_
    generalize w2.drew = w3 at *
    have HCU := Lib.hid hcur
    clear hcur
    refine plan_act (by rfl) ?_
    refine wpList_value rfl (exec_load_blk rfl rfl (Q5.out.after HCU.out) Try.underlying38 rfl (by kernel_rfl)) ?_
    go_wp2_with fail
    refine ⟨HCU.out, ?_⟩
    refine plan_act (by rfl) ?_
    go_wp2_with fail
    refine (MR.out w3 (by omega)).mono ?_
    rintro e w4 ⟨rfl, b4⟩
    have HCU := Lib.hid (belowGo HCU.out b4)
    clear b4 MR
    obtain ⟨c3, c0⟩ := HC.out w4 HCU.out
    cases mr with
    | false =>
      go_wp2_with fail
      refine ⟨HCU.out, ?_⟩
      refine plan_calms (by simp [calmRow, need]; rfl) ?_
      go_wp2_with fail
      refine plan_skipS (some 19) (by rfl) (by rfl) (by rfl) ?_
      refine plan_skipA (some 21) (by rfl) (by rfl) (by rfl) HCU.out ?_
      refine plan_calms (by simp [calmRow, need]; rfl) ?_
      go_wp2_with fail
      refine plan_skipA (some 23) (by rfl) (by rfl) (by rfl) HCU.out ?_
      refine plan_calms (by simp [calmRow, need, chk]; rfl) ?_
      go_wp2_with fail
      refine plan_skipA (some 28) (by rfl) (by rfl) (by rfl) HCU.out ?_
      refine plan_skipA (some 29) (by rfl) (by rfl) (by rfl) HCU.out ?_
      refine plan_calms (by simp [calmRow, need]; rfl) ?_
      go_wp2_with fail
      refine plan_skipA (some 34) (by rfl) (by rfl) (by rfl) HCU.out ?_
      refine plan_skipA (some 35) (by rfl) (by rfl) (by rfl) HCU.out ?_
      refine plan_calms (by simp [calmRow, need]; rfl) ?_
      go_wp2_with fail
      refine plan_end ?_
      go_wp2_with fail
      go_meet
      case rel => exact ⟨by rw [HB0.out]; rfl, HCU.out⟩
    | true =>
      by_cases hq : q ≤ S.last
      · have hqi : (q : Int) ≤ (S.last : Int) := by omega
        have hqd : decide (q ≤ S.last) = true := decide_eq_true hq
        have HQ := Lib.hid (decide_eq_true hq)
        clear hq
        go_wp2_with fail
        refine ⟨HCU.out, ?_⟩
        refine plan_calms (by simp [calmRow, need]; rfl) ?_
        go_wp2_with fail
        refine plan_read (by rfl) (.int .u64 (q : Int)) (by rfl) (fun W hW => exec_load rfl rfl (by kernel_rfl) (HC.out W hW).2) ?_
        refine plan_act (by rfl) ?_
        go_wp2_with fail
        refine ⟨HCU.out, ?_⟩
        refine plan_calms (by simp [calmRow, need]; rfl) ?_
        go_wp2_with fail
        refine plan_act (by rfl) ?_
        go_wp2_with fail
        refine ⟨HCU.out, ?_⟩
        refine plan_calms (by simp [calmRow, need, chk]; rfl) ?_
        go_wp2_with fail
        refine plan_skipA (some 28) (by rfl) (by rfl) (by rfl) HCU.out ?_
        refine plan_skipA (some 29) (by rfl) (by rfl) (by rfl) HCU.out ?_
        refine plan_calms (by simp [calmRow, need]; rfl) ?_
        go_wp2_with fail
        refine plan_skipA (some 34) (by rfl) (by rfl) (by rfl) HCU.out ?_
        refine plan_skipA (some 35) (by rfl) (by rfl) (by rfl) HCU.out ?_
        refine plan_calms (by simp [calmRow, need]; rfl) ?_
        go_wp2_with fail
        refine plan_end ?_
        go_wp2_with fail
        go_meet
        case rel => exact ⟨by rw [HB0.out, HQ.out]; rfl, HCU.out⟩
      · have hqi : ¬ (q : Int) ≤ (S.last : Int) := by omega
        have hqd : decide (q ≤ S.last) = false := decide_eq_false hq
        have HQ := Lib.hid (decide_eq_false hq)
        clear hq
        cases ml with
        | false =>
          go_wp2_with fail
          refine ⟨HCU.out, ?_⟩
          refine plan_calms (by simp [calmRow, need]; rfl) ?_
          go_wp2_with fail
          refine plan_read (by rfl) (.int .u64 (q : Int)) (by rfl) (fun W hW => exec_load rfl rfl (by kernel_rfl) (HC.out W hW).2) ?_
          refine plan_act (by rfl) ?_
          go_wp2_with fail
          refine ⟨HCU.out, ?_⟩
          refine plan_calms (by simp [calmRow, need]; rfl) ?_
          go_wp2_with fail
          refine plan_act (by rfl) ?_
          go_wp2_with fail
          refine ⟨HCU.out, ?_⟩
          refine plan_calms (by simp [calmRow, need, chk]; rfl) ?_
          go_wp2_with fail
          refine plan_last (by rfl) (by kernel_rfl) ?_
          refine wpList_value rfl (exec_load_mid rfl rfl (HAT.out _ HCU.out) Try.underlying34 rfl (by kernel_rfl)) ?_
          go_wp2_with fail
          refine plan_last (by rfl) (by kernel_rfl) ?_
          go_wp2_with fail
          refine (ML.out _).mono ?_
          rintro e w5 ⟨rfl, b5⟩
          have HCU := Lib.hid (belowGo HCU.out b5)
          clear b5 ML
          go_wp2_with fail
          refine plan_calms (by simp [calmRow, need]; rfl) ?_
          go_wp2_with fail
          refine plan_skipA (some 34) (by rfl) (by rfl) (by rfl) HCU.out ?_
          refine plan_skipA (some 35) (by rfl) (by rfl) (by rfl) HCU.out ?_
          refine plan_calms (by simp [calmRow, need]; rfl) ?_
          go_wp2_with fail
          refine plan_end ?_
          go_wp2_with fail
          go_meet
          case rel => exact ⟨by rw [HB0.out, HQ.out]; rfl, HCU.out⟩
        | true =>
          go_wp2_with fail
          refine ⟨HCU.out, ?_⟩
          refine plan_calms (by simp [calmRow, need]; rfl) ?_
          go_wp2_with fail
          refine plan_read (by rfl) (.int .u64 (q : Int)) (by rfl) (fun W hW => exec_load rfl rfl (by kernel_rfl) (HC.out W hW).2) ?_
          refine plan_act (by rfl) ?_
          go_wp2_with fail
          refine ⟨HCU.out, ?_⟩
          refine plan_calms (by simp [calmRow, need]; rfl) ?_
          go_wp2_with fail
          refine plan_act (by rfl) ?_
          go_wp2_with fail
          refine ⟨HCU.out, ?_⟩
          refine plan_calms (by simp [calmRow, need, chk]; rfl) ?_
          go_wp2_with fail
          refine plan_last (by rfl) (by kernel_rfl) ?_
          refine wpList_value rfl (exec_load_mid rfl rfl (HAT.out _ HCU.out) Try.underlying34 rfl (by kernel_rfl)) ?_
          go_wp2_with fail
          refine plan_last (by rfl) (by kernel_rfl) ?_
          go_wp2_with fail
          refine (ML.out _).mono ?_
          rintro e w5 ⟨rfl, b5⟩
          have HCU := Lib.hid (belowGo HCU.out b5)
          clear b5 ML
          go_wp2_with fail
          refine plan_calms (by simp [calmRow, need]; rfl) ?_
          go_wp2_with fail
          refine plan_last (by rfl) (by kernel_rfl) ?_
          refine wpList_value rfl (exec_load_mid rfl rfl (HAT.out _ HCU.out) Try.underlying34 rfl (by kernel_rfl)) ?_
          go_wp2_with fail
          refine plan_last (by rfl) (by kernel_rfl) ?_
          go_wp2_with fail
          refine (NB.out _).mono ?_
          rintro e w6 ⟨rfl, b6⟩
          have HCU := Lib.hid (belowGo HCU.out b6)
          clear b6 NB
          go_wp2_with fail
          refine plan_calms (by simp [calmRow, need]; rfl) ?_
          go_wp2_with fail
          refine plan_end ?_
          go_wp2_with fail
          go_meet
          case rel => exact ⟨by rw [HB0.out, HQ.out]; rfl, HCU.out⟩
  obtain ⟨rfl, hb4⟩ := hcut
  have HB2 := Lib.hid (belowGo HB2.out hb4)
  have H1 := Lib.hid (H1.out.after hb4)
  have Q3 := Lib.hid (Q3.out.after hb4)
  have Q5 := Lib.hid (Q5.out.after hb4)
  have HAT := Lib.hid (fun W (h : Below wc.heap.size wc W) => HAT.out W (belowGo hb4 h))
  clear hb4 HC HB0 HB1 HAT3 MR ML NB HMR
  cases bad with
  | true =>
    have hc : S.code at_ q k l.length m pv = 1 := by unfold LS.code; rw [← HBAD.out]; rfl
    have ha : S.add at_ q k l m pv = S := by unfold LS.add; rw [if_neg (by rw [hc]; decide)]
    have HCD := Lib.hid hc
    have HA := Lib.hid ha
    clear hc ha
    go_wp2_with fail
    refine bodyPost_ret (results_tmp rfl _ _ _) rfl ⟨v, by rw [HCD.out]; rfl, by rw [HA.out]; exact H1.out, Kp.of_new HB2.out, fun j hj => .inl hj⟩
  | false =>
    obtain ⟨is, his⟩ : ∃ r, r = (mget S.ahead at_).isSome := ⟨_, rfl⟩
    have HZ := Lib.hid (fun W => (zero_of_info (P := Try.prog) (t := 34) (n := 2) (v := locP (0, 0)) (by kernel_rfl)).1 W)
    obtain ⟨r0, hr0⟩ : ∃ r, r = (mget S.ahead at_).getD (0, 0) := ⟨_, rfl⟩
    have HV := Lib.hid (show ((mget S.ahead at_).map locP).getD (locP (0, 0)) = locP r0 from by rw [hr0]; cases mget S.ahead at_ <;> rfl)
    have HIS := Lib.hid his
    have HK : ∀ W, Below wc.heap.size wc W → W.cell? ⟨g, 1, none⟩ = some (.map (some ba)) ∧ (Instr.lookup 69 (.map (some ba)) (locP at_) true).run Try.prog W = .ok (.tuple #[locP r0, .bool is]) W := fun W hW => by
      obtain ⟨-, -, -, -, qq, -, ma, -⟩ := H1.out.after hW
      refine ⟨qq.cell 1, ?_⟩
      rw [ma.look locP_inj loc_keyed Try.underlying69 (HZ.out W) hat (loc_key hat).choose_spec true, HV.out, HIS.out]
      rfl
    have HK := Lib.hid HK
    clear his hr0
    go_upto_region 6 with fail
    have hcur : Below wc.heap.size wc wc.drew := ⟨rfl, rfl, rfl, Nat.le_refl _, fun _ _ => rfl⟩
    refine wp_region_plan (fun W => Below wc.heap.size wc W) [.calms [0, 4], .read 1, .calms [2], .read 3, .read 5, .read 6, .calms [7, 8, 9], .act 10, .act 11, .calms [12]] (by kernel_rfl) (by rfl) (by kernel_rfl) (by kernel_rfl) hcur ?_
    generalize wc.drew = w3 at *
    have HC := Lib.hid hcur
    clear hcur
    refine plan_calms (by simp [calmRow, need]; rfl) ?_
    go_wp2_with fail
    refine plan_read (by rfl) (.pointer (some ⟨g, 0, none⟩)) (by rfl) (fun W hW => exec_nil rfl rfl) ?_
    refine plan_calms (by simp [calmRow, need]; rfl) ?_
    go_wp2_with fail
    refine plan_read (by rfl) (.map (some ba)) (by rfl) (fun W hW => exec_load rfl rfl (by kernel_rfl) (HK.out W hW).1) ?_
    refine plan_read (by rfl) (locP at_) (by rfl) (fun W hW => exec_load_mid rfl rfl (HAT.out W hW) Try.underlying34 rfl (by kernel_rfl)) ?_
    refine plan_read (by rfl) (.tuple #[locP r0, .bool is]) (by rfl) (fun W hW => exec_lookup rfl (HK.out W hW).2) ?_
    refine plan_calms (by simp [calmRow, need]; rfl) ?_
    go_wp2_with fail
    refine plan_act (by rfl) ?_
    go_wp2_with fail
    refine ⟨belowAlloc HC.out _, ?_⟩
    refine plan_last (by rfl) (by kernel_rfl) ?_
    unfold locP locV
    go_wp2_with fail
    refine plan_calms (by simp [calmRow, need]; rfl) ?_
    go_wp2_with fail
    refine plan_end ?_
    have hb4 := belowAlloc HC.out (.cells #[.int .u32 (r0.1 : Int), .int .u32 (r0.2 : Int)] 34)
    generalize w3.alloc (.cells #[.int .u32 (r0.1 : Int), .int .u32 (r0.2 : Int)] 34) = w4 at *
    have HB2 := Lib.hid (belowGo HB2.out hb4)
    have H1 := Lib.hid (H1.out.after hb4)
    have Q3 := Lib.hid (Q3.out.after hb4)
    have Q5 := Lib.hid (Q5.out.after hb4)
    have HAT := Lib.hid (fun W (h : Below w4.heap.size w4 W) => HAT.out W (belowGo hb4 h))
    clear hb4 HC HK HV HZ
    cases is with
    | true =>
      have hc : S.code at_ q k l.length m pv = 9 := by unfold LS.code; rw [← HBAD.out, ← HIS.out]; rfl
      have ha : S.add at_ q k l m pv = S := by unfold LS.add; rw [if_neg (by rw [hc]; decide)]
      have HCD := Lib.hid hc
      have HA := Lib.hid ha
      clear hc ha
      go_wp2_with fail
      refine bodyPost_ret (results_tmp rfl _ _ _) rfl ⟨v, by rw [HCD.out]; rfl, by rw [HA.out]; exact H1.out, Kp.of_new HB2.out, fun j hj => .inl hj⟩
    | false =>
      have hc : S.code at_ q k l.length m pv = 0 := by unfold LS.code; rw [← HBAD.out, ← HIS.out]; rfl
      have ha : S.add at_ q k l m pv = S.put at_ q k l pv := by unfold LS.add; rw [if_pos hc]
      have HCD := Lib.hid hc
      have HA := Lib.hid ha
      have hkok : KOk l := by
        have hb := HBAD.out
        unfold LS.bad at hb
        have hm : mayR q k l.length m pv.1 pv.2 = true := by
          cases hm : mayR q k l.length m pv.1 pv.2 with
          | true => rfl
          | false => rw [hm] at hb; simp at hb
        unfold mayR at hm
        simp only [Bool.and_eq_true] at hm
        exact mayB_KOk hm.2.2.1
      clear hc ha
      have hpv : (Value.agg (prC l)) = kpv l := by rw [prC_pc l (mayB_ok hkok)]; rfl
      have hsz : (prC l).size = 9 := by rw [prC_pc l (mayB_ok hkok)]; simp [pcA, pws]
      have hoz : (prC l).all (·.oneCell') = true := by rw [prC_pc l (mayB_ok hkok)]; unfold pcA; simp [Value.oneCell']
      have KOF := Lib.hid (of_any l A n c w4 hnc hnn ((HR.out.below HB2.out (Nat.le_refl _)).more HB2.out.size))
      have HPV := Lib.hid hpv
      have HSZ := Lib.hid hsz
      have HOZ := Lib.hid hoz
      generalize prC l = PV at *
      clear hpv hsz hoz
      have c2 : w4.cell? ⟨g5, 2, none⟩ = some (.slice A n c) := Q5.out.cell 2
      go_wp2_with fail
      refine KOF.out.mono ?_
      rintro e w5 ⟨rfl, b5⟩
      have HB2 := Lib.hid (belowGo HB2.out b5)
      have H1 := Lib.hid (H1.out.after b5)
      have Q3 := Lib.hid (Q3.out.after b5)
      have Q5 := Lib.hid (Q5.out.after b5)
      have HAT := Lib.hid (fun W (h : Below w5.heap.size w5 W) => HAT.out W (belowGo b5 h))
      have hs5 := HB2.out.size
      have qn := Blk.new w5 80 #[.int .u8 0, .int .u64 0, .int .u64 0, .int .u64 0, .int .u64 0, .int .u64 0, .int .u64 0, .int .u64 0, .int .u64 0]
      have QN := Lib.hid qn
      have Q8 := Lib.hid (qn.row PV)
      have b6 := row_below (belowAlloc (Below.refl w5.heap.size w5) (.cells #[.int .u8 0, .int .u64 0, .int .u64 0, .int .u64 0, .int .u64 0, .int .u64 0, .int .u64 0, .int .u64 0, .int .u64 0] 80)) (Nat.le_refl _) PV
      clear KOF b5 c2 qn
      go_upto_region 10 with (first
        | (refine wpList_storeB rfl 80 (.tmp 8) (.tmp 50) rfl rfl rfl QN.out (by rw [HSZ.out]; kernel_rfl) (by rw [HSZ.out]; rfl) HOZ.out ?_)
        | fail)
      have HB2 := Lib.hid (belowGo HB2.out b6)
      have H1 := Lib.hid (H1.out.after b6)
      have Q3 := Lib.hid (Q3.out.after b6)
      have Q5 := Lib.hid (Q5.out.after b6)
      have HAT := Lib.hid (fun W (h : Below _ _ W) => HAT.out W (belowGo b6 h))
      generalize (w5.alloc (.cells #[.int .u8 0, .int .u64 0, .int .u64 0, .int .u64 0, .int .u64 0, .int .u64 0, .int .u64 0, .int .u64 0, .int .u64 0] 80)).setRow w5.heap.size PV = w6 at *
      obtain ⟨g8, hg8⟩ : ∃ g, g = w5.heap.size := ⟨_, rfl⟩
      rw [← hg8] at Q8 ⊢
      have HG8 : Hid (w.heap.size ≤ g8) := Lib.hid (by rw [hg8]; exact hs5)
      clear QN b6 hg8 hs5
      obtain ⟨h0, hh0⟩ : ∃ r, r = (mget S.heads l).getD (0, 0, 0, 0) := ⟨_, rfl⟩
      have HZ := Lib.hid (fun W => (zero_of_info (P := Try.prog) (t := 42) (n := 4) (v := hdV (0, 0, 0, 0)) (by kernel_rfl)).1 W)
      have HV := Lib.hid (show ((mget S.heads l).map hdV).getD (hdV (0, 0, 0, 0)) = hdV h0 from by rw [hh0]; cases mget S.heads l <;> rfl)
      have HBF : Hid (S.before l = (h0.1, h0.2.1)) := Lib.hid (by unfold LS.before; rw [hh0]; cases mget S.heads l <;> rfl)
      have HK : ∀ W, Below w6.heap.size w6 W → W.cell? ⟨g, 0, none⟩ = some (.map (some bh)) ∧ (Instr.lookup 68 (.map (some bh)) (.agg PV) false).run Try.prog W = .ok (.agg #[.int .u32 (h0.1 : Int), .int .u32 (h0.2.1 : Int), .int .u64 (h0.2.2.1 : Int), .int .i64 h0.2.2.2]) W := fun W hW => by
        obtain ⟨-, -, -, -, qq, mh, -, -⟩ := H1.out.after hW
        refine ⟨qq.cell 0, ?_⟩
        rw [HPV.out, mh.look kpv_inj print_keyed Try.underlying68 (HZ.out W) hkok (kpv_key hkok).choose_spec false, HV.out]
        rfl
      have HK := Lib.hid HK
      clear hh0
      have hcur : Below w6.heap.size w6 w6.drew := ⟨rfl, rfl, rfl, Nat.le_refl _, fun _ _ => rfl⟩
      refine wp_region_plan (fun W => Below w6.heap.size w6 W) [.calms [0], .read 1, .calms [2], .read 3, .read 4, .read 5, .calms [6], .act 7, .act 8] (by kernel_rfl) (by rfl) (by kernel_rfl) (by kernel_rfl) hcur ?_
      generalize w6.drew = w7 at *
      have HC := Lib.hid hcur
      clear hcur
      refine plan_calms (by simp [calmRow, need]; rfl) ?_
      go_wp2_with fail
      refine plan_read (by rfl) (.pointer (some ⟨g, 0, none⟩)) (by rfl) (fun W hW => exec_nil rfl rfl) ?_
      refine plan_calms (by simp [calmRow, need]; rfl) ?_
      go_wp2_with fail
      refine plan_read (by rfl) (.map (some bh)) (by rfl) (fun W hW => exec_load rfl rfl (by kernel_rfl) (HK.out W hW).1) ?_
      refine plan_read (by rfl) (.agg PV) (by rfl) (fun W hW => exec_load_blk rfl rfl (Q8.out.after hW) Try.underlying80 rfl (by rw [HSZ.out]; kernel_rfl)) ?_
      refine plan_read (by rfl) (.agg #[.int .u32 (h0.1 : Int), .int .u32 (h0.2.1 : Int), .int .u64 (h0.2.2.1 : Int), .int .i64 h0.2.2.2]) (by rfl) (fun W hW => exec_lookup rfl (HK.out W hW).2) ?_
      refine plan_calms (by simp [calmRow, need]; rfl) ?_
      have hfd := field_head0
      go_wp2_with fail
      clear hfd
      refine plan_act (by rfl) ?_
      go_wp2_with fail
      refine ⟨belowAlloc HC.out _, ?_⟩
      refine plan_last (by rfl) (by kernel_rfl) ?_
      go_wp2_with fail
      refine plan_end ?_
      obtain ⟨b1, hb1⟩ : ∃ b, b = h0.1 := ⟨_, rfl⟩
      obtain ⟨b2, hb2⟩ : ∃ b, b = h0.2.1 := ⟨_, rfl⟩
      rw [← hb1, ← hb2] at HBF ⊢
      have b8 := belowAlloc HC.out (.cells #[.int .u32 (b1 : Int), .int .u32 (b2 : Int)] 34)
      have Q9 := Lib.hid (Blk.new w7 34 #[.int .u32 (b1 : Int), .int .u32 (b2 : Int)])
      generalize w7.alloc (.cells #[.int .u32 (b1 : Int), .int .u32 (b2 : Int)] 34) = w8 at *
      obtain ⟨g9, hg9⟩ : ∃ g, g = w7.heap.size := ⟨_, rfl⟩
      have HG9 : Hid (w.heap.size ≤ g9) := Lib.hid (by rw [hg9]; exact (belowGo HB2.out HC.out).size)
      rw [← hg9] at Q9 ⊢
      have HB2 := Lib.hid (belowGo HB2.out b8)
      have H1 := Lib.hid (H1.out.after b8)
      have Q3 := Lib.hid (Q3.out.after b8)
      have Q5 := Lib.hid (Q5.out.after b8)
      have Q8 := Lib.hid (Q8.out.after b8)
      have HAT5 : Hid (At w8 g5 4 [.int .u32 (pv.1 : Int), .int .u32 (pv.2 : Int)]) := Lib.hid (fun j u hu => by
        rw [Q5.out.cell]
        match j, hu with
        | 0, hu => exact hu
        | 1, hu => exact hu
        | j + 2, hu => simp at hu)
      clear HK HC HV HZ hg9 b8 hb1 hb2 HAT
      have EQ := Lib.hid (equal_loc b1 b2 pv.1 pv.2 w8)
      obtain ⟨ne, hne⟩ : ∃ b, b = !(decide (b1 = pv.1 ∧ b2 = pv.2)) := ⟨_, rfl⟩
      have HNE := Lib.hid hne
      clear hne
      go_upto_if 61 with (first
        | (refine wpList_value rfl (exec_load_blk rfl rfl Q9.out Try.underlying34 rfl (by kernel_rfl)) ?_)
        | (refine wpList_value rfl (exec_load_mid rfl rfl HAT5.out Try.underlying34 rfl (by kernel_rfl)) ?_)
        | (refine wpList_value (v := .bool ne) rfl (exec_bin rfl (by rw [HNE.out]; exact run_neq_agg (by kernel_rfl) EQ.out)) ?_)
        | fail)
      go_simp
      go_cut [] from 61 to 72 (fun wx => ∃ v', Lk wx B g bh ba v' ⟨S.heads, S.ahead, if ne = true then S.wrong ++ [at_] else S.wrong, S.last⟩ ∧ Kp (lkF g bh ba v) w wx ∧ (∀ j, v'.ownBlock = some j → v.ownBlock = some j ∨ w.heap.size ≤ j) ∧ Blk wx g3 40 #[.int .u32 (at_.1 : Int), .int .u32 (at_.2 : Int), .int .i64 sz, .int .u64 (q : Int), .int .i64 k, .slice A n c, .slice Bv m d, .int .u32 (pv.1 : Int), .int .u32 (pv.2 : Int)] ∧ Blk wx g5 38 #[.int .u64 (q : Int), .int .i64 k, .slice A n c, .slice Bv m d, .int .u32 (pv.1 : Int), .int .u32 (pv.2 : Int)] ∧ Blk wx g8 80 PV ∧ Blk wx g9 34 #[.int .u32 (b1 : Int), .int .u32 (b2 : Int)])
      case first =>
        cases ne with
        | false =>
          go_wp2_with fail
          go_meet
          case rel => exact ⟨v, H1.out, Kp.of_new HB2.out, fun j hj => .inl hj, Q3.out, Q5.out, Q8.out, Q9.out⟩
        | true =>
          have HAT : Hid (∀ W, Below w8.heap.size w8 W → At W g3 0 [.int .u32 (at_.1 : Int), .int .u32 (at_.2 : Int)]) := Lib.hid (fun W h j u hu => by
            rw [(Q3.out.after h).cell]
            match j, hu with
            | 0, hu => exact hu
            | 1, hu => exact hu
            | j + 2, hu => simp at hu)
          have hcur : Below w8.heap.size w8 w8.drew := ⟨rfl, rfl, rfl, Nat.le_refl _, fun _ _ => rfl⟩
          have H9 := Lib.hid (H1.out.after hcur)
          have HB9 := Lib.hid (belowGo HB2.out hcur)
          have Q3 := Lib.hid (Q3.out.after hcur)
          have Q5 := Lib.hid (Q5.out.after hcur)
          have Q8 := Lib.hid (Q8.out.after hcur)
          have Q9 := Lib.hid (Q9.out.after hcur)
          obtain ⟨Aw, cw, rfl, -⟩ := own_cap H1.out.2.2.2.2.2.2.2
          have HK := Lib.hid (fun W (hW : Below w8.heap.size w8 W) => (show W.cell? ⟨g, 2, none⟩ = some (.slice Aw S.wrong.length cw) from (H1.out.after hW).2.2.2.2.1.cell 2))
          go_upto_region 12 with fail
          refine wp_region_plan (fun W => Below w8.heap.size w8 W) [.calms [0, 1, 5], .read 2, .calms [3], .read 4, .act 6, .act 7, .act 8, .act 9, .calms [10], .act 11] (by kernel_rfl) (by rfl) (by kernel_rfl) (by kernel_rfl) hcur ?_
          generalize w8.drew = w9 at *
          have HC := Lib.hid hcur
          have HS9 := Lib.hid HB9.out.size
          clear hcur
          refine plan_calms (by simp [calmRow, need]; rfl) ?_
          go_wp2_with fail
          refine plan_read (by rfl) (.pointer (some ⟨g, 0, none⟩)) (by rfl) (fun W hW => exec_nil rfl rfl) ?_
          refine plan_calms (by simp [calmRow, need]; rfl) ?_
          go_wp2_with fail
          refine plan_read (by rfl) (.slice Aw S.wrong.length cw) (by rfl) (fun W hW => exec_load rfl rfl (by kernel_rfl) (HK.out W hW)) ?_
          refine plan_act (by rfl) ?_
          refine wpList_value rfl (exec_load_mid rfl rfl (HAT.out _ HC.out) Try.underlying34 rfl (by kernel_rfl)) ?_
          go_wp2_with fail
          refine ⟨HC.out, ?_⟩
          refine plan_act (by rfl) ?_
          go_wp2_with fail
          refine ⟨belowAlloc HC.out _, ?_⟩
          refine plan_last (by rfl) (by kernel_rfl) ?_
          refine wpList_push eltLoc rfl (.tmp 66) (.tmp 69) rfl (W := w9) rfl H9.out.2.2.2.2.2.2.2 rfl rfl (by simp [Value.oneCell']) (by omega) (by unfold maxLen; omega) (Below.refl _ _) (Nat.le_trans H9.out.1 (Nat.le_of_lt H9.out.2.2.2.2.1.lt)) ?_
          intro v6 w6' o6 b6 g6 x6
          obtain ⟨A6, c6, rfl, -⟩ := own_cap o6
          obtain ⟨hlk, hkp⟩ := H9.out.push at_ g6 o6
          have qg : Blk w6' g 71 _ := H9.out.2.2.2.2.1.kp (Kp.grown g6) (fun hm => own_blk_ne H9.out.2.2.2.2.1 H9.out.2.2.2.2.2.2.2 (by decide) (List.mem_singleton.1 hm))
          have cg := qg.cell 2
          have fg := qg.frozen 2
          have HLK := Lib.hid hlk
          have HKP := Lib.hid hkp
          have X6 : Hid (∀ j, Value.ownBlock (.slice A6 (S.wrong.length + 1) c6) = some j → Value.ownBlock (.slice Aw S.wrong.length cw) = some j ∨ w.heap.size ≤ j) := Lib.hid (fun j hj => by
            rcases x6 with x6 | x6
            · exact .inl (x6.symm.trans hj)
            · right
              have hj := x6.symm.trans hj
              injection hj with hj
              have := HS9.out
              omega)
          have NO : Hid (∀ g', w.heap.size ≤ g' → some g' ∉ lkF g bh ba (.slice Aw S.wrong.length cw)) := Lib.hid (fun g' hg' hm => by have := HLO.out _ hm; omega)
          clear o6 b6 g6 x6 qg hlk hkp
          go_wp2_with fail
          refine plan_last (by rfl) (by kernel_rfl) ?_
          go_wp2_with fail
          refine plan_calms (by simp [calmRow, need]; rfl) ?_
          go_wp2_with fail
          refine plan_last (by rfl) (by kernel_rfl) ?_
          go_wp2_with fail
          refine plan_end ?_
          clear cg fg
          have K3 := Lib.hid (Q3.out.kp HKP.out (NO.out _ HG3.out))
          have K5 := Lib.hid (Q5.out.kp HKP.out (NO.out _ HG5.out))
          have K8 := Lib.hid (Q8.out.kp HKP.out (NO.out _ HG8.out))
          have K9 := Lib.hid (Q9.out.kp HKP.out (NO.out _ HG9.out))
          have HKP := Lib.hid ((Kp.of_new HB9.out).same HKP.out)
          generalize w6'.setCell ⟨g, 2, none⟩ (.slice A6 (S.wrong.length + 1) c6) = w10 at *
          go_wp2_with fail
          go_meet
          case rel => exact ⟨_, HLK.out, HKP.out, X6.out, K3.out, K5.out, K8.out, K9.out⟩
      obtain ⟨v', hlk, hkp, hx, q3, q5, q8, q9⟩ := hcut
      have hwr : (if ne = true then S.wrong ++ [at_] else S.wrong) = if S.before l = pv then S.wrong else S.wrong ++ [at_] := by
        rw [HBF.out, HNE.out]
        by_cases hb : b1 = pv.1 ∧ b2 = pv.2
        · have : (b1, b2) = pv := Prod.ext hb.1 hb.2
          simp [hb.1, hb.2]
        · have : ¬ (b1, b2) = pv := fun e => hb (by rw [← e]; exact ⟨rfl, rfl⟩)
          simp [hb, this]
      rw [hwr] at hlk
      clear hwr EQ HAT5 H1 Q3 Q5 Q8 Q9 HB2
      have NO : Hid (∀ g', w.heap.size ≤ g' → some g' ∉ lkF g bh ba v) := Lib.hid (fun g' hg' hm => by have := HLO.out _ hm; omega)
      have AT := Lib.hid (fun W (Q3 : Blk W g3 40 #[.int .u32 (at_.1 : Int), .int .u32 (at_.2 : Int), .int .i64 sz, .int .u64 (q : Int), .int .i64 k, .slice A n c, .slice Bv m d, .int .u32 (pv.1 : Int), .int .u32 (pv.2 : Int)]) => (show At W g3 0 [.int .u32 (at_.1 : Int), .int .u32 (at_.2 : Int)] from fun j u hu => by
        rw [Q3.cell]
        match j, hu with
        | 0, hu => exact hu
        | 1, hu => exact hu
        | j + 2, hu => simp at hu))
      have hcur : Below wc.heap.size wc wc.drew := ⟨rfl, rfl, rfl, Nat.le_refl _, fun _ _ => rfl⟩
      obtain ⟨o13, hr13, hlk13, hkp13⟩ := (hlk.after hcur).setAhead at_ (b1, b2) hat
      have HR13 := Lib.hid hr13
      have K13 := Lib.hid (lkF_step (hkp.go hcur) hx hkp13)
      have H13 := Lib.hid (hlk.after hcur)
      have Q3 := Lib.hid (q3.after hcur)
      have Q5 := Lib.hid (q5.after hcur)
      have Q8 := Lib.hid (q8.after hcur)
      have Q9 := Lib.hid (q9.after hcur)
      have P3 := Lib.hid (H13.out.blkA Q3.out o13)
      have P5 := Lib.hid (H13.out.blkA Q5.out o13)
      have P8 := Lib.hid (H13.out.blkA Q8.out o13)
      have L13 := Lib.hid hlk13
      have HX := Lib.hid hx
      have HK := Lib.hid (fun W (hW : Below wc.heap.size wc W) => (show W.cell? ⟨g, 1, none⟩ = some (.map (some ba)) ∧ Blk W g3 40 #[.int .u32 (at_.1 : Int), .int .u32 (at_.2 : Int), .int .i64 sz, .int .u64 (q : Int), .int .i64 k, .slice A n c, .slice Bv m d, .int .u32 (pv.1 : Int), .int .u32 (pv.2 : Int)] from ⟨(hlk.after hW).2.2.2.2.1.cell 1, q3.after hW⟩))
      clear hlk hkp hkp13 q3 q5 q8 q9 hr13 hlk13 hx NO
      go_upto_region 13 with fail
      refine wp_region_plan (fun W => Below wc.heap.size wc W) [.calms [0, 4], .read 1, .calms [2], .read 3, .read 5, .act 6, .act 7] (by kernel_rfl) (by rfl) (by kernel_rfl) (by kernel_rfl) hcur ?_
      generalize wc.drew = w9 at *
      have HC := Lib.hid hcur
      clear hcur
      refine plan_calms (by simp [calmRow, need]; rfl) ?_
      go_wp2_with fail
      refine plan_read (by rfl) (.pointer (some ⟨g, 0, none⟩)) (by rfl) (fun W hW => exec_nil rfl rfl) ?_
      refine plan_calms (by simp [calmRow, need]; rfl) ?_
      go_wp2_with fail
      refine plan_read (by rfl) (.map (some ba)) (by rfl) (fun W hW => exec_load rfl rfl (by kernel_rfl) (HK.out W hW).1) ?_
      refine plan_read (by rfl) (locP at_) (by rfl) (fun W hW => exec_load_mid rfl rfl (AT.out W (HK.out W hW).2) Try.underlying34 rfl (by kernel_rfl)) ?_
      refine plan_act (by rfl) ?_
      refine wpList_value rfl (exec_load_blk rfl rfl Q9.out Try.underlying34 rfl (by kernel_rfl)) ?_
      go_wp2_with fail
      refine ⟨HC.out, ?_⟩
      refine plan_last (by rfl) (by kernel_rfl) ?_
      refine wpList_skip rfl (exec_update rfl HR13.out) ?_
      go_wp2_with fail
      refine plan_end ?_
      clear Q3 Q5 Q8 Q9 HR13 HC HK H13
      generalize ChangeMaps.setBlock w9 ba o13 = w10 at *
      have hcur : Below w10.heap.size w10 w10.drew := ⟨rfl, rfl, rfl, Nat.le_refl _, fun _ _ => rfl⟩
      obtain ⟨o14, hr14, hlk14, hkp14⟩ := (L13.out.after hcur).setHead l (at_.1, at_.2, q, k) hkok
      rw [← HPV.out] at hr14
      have HR14 := Lib.hid hr14
      have K14 := Lib.hid (lkF_step (K13.out.go hcur) HX.out hkp14)
      have L14 := Lib.hid hlk14
      have H14 := Lib.hid (L13.out.after hcur)
      have Q5 := Lib.hid (P5.out.after hcur)
      have Q8 := Lib.hid (P8.out.after hcur)
      have R5 := Lib.hid (H14.out.blkH Q5.out o14)
      have HK := Lib.hid (fun W (hW : Below w10.heap.size w10 W) => (show W.cell? ⟨g, 0, none⟩ = some (.map (some bh)) ∧ Blk W g3 40 #[.int .u32 (at_.1 : Int), .int .u32 (at_.2 : Int), .int .i64 sz, .int .u64 (q : Int), .int .i64 k, .slice A n c, .slice Bv m d, .int .u32 (pv.1 : Int), .int .u32 (pv.2 : Int)] ∧ W.cell? ⟨g5, 0, none⟩ = some (.int .u64 (q : Int)) from ⟨(L13.out.after hW).2.2.2.2.1.cell 0, P3.out.after hW, (P5.out.after hW).cell 0⟩))
      clear hr14 hlk14 hkp14 K13
      go_simp
      go_upto_region 14 with fail
      refine wp_region_plan (fun W => Below w10.heap.size w10 W) [.calms [0, 5, 7, 9], .read 1, .calms [2], .read 3, .read 4, .read 6, .read 8, .act 10, .act 11, .act 12] (by kernel_rfl) (by rfl) (by kernel_rfl) (by kernel_rfl) hcur ?_
      generalize w10.drew = w11 at *
      have HC := Lib.hid hcur
      clear hcur
      refine plan_calms (by simp [calmRow, need]; rfl) ?_
      go_wp2_with fail
      refine plan_read (by rfl) (.pointer (some ⟨g, 0, none⟩)) (by rfl) (fun W hW => exec_nil rfl rfl) ?_
      refine plan_calms (by simp [calmRow, need]; rfl) ?_
      go_wp2_with fail
      refine plan_read (by rfl) (.map (some bh)) (by rfl) (fun W hW => exec_load rfl rfl (by kernel_rfl) (HK.out W hW).1) ?_
      refine plan_read (by rfl) (.agg PV) (by rfl) (fun W hW => exec_load_blk rfl rfl (P8.out.after hW) Try.underlying80 rfl (by rw [HSZ.out]; kernel_rfl)) ?_
      refine plan_read (by rfl) (.agg #[.int .u32 (at_.1 : Int), .int .u32 (at_.2 : Int)]) (by rfl) (fun W hW => exec_load_mid rfl rfl (AT.out W (HK.out W hW).2.1) Try.underlying34 rfl (by kernel_rfl)) ?_
      refine plan_read (by rfl) (.int .u64 (q : Int)) (by rfl) (fun W hW => exec_load rfl rfl (by kernel_rfl) (HK.out W hW).2.2) ?_
      refine plan_act (by rfl) ?_
      have c51 : w11.cell? ⟨g5, 1, none⟩ = some (.int .i64 k) := Q5.out.cell 1
      go_wp2_with fail
      refine ⟨HC.out, ?_⟩
      refine plan_act (by rfl) ?_
      refine wpList_value (v := .agg #[.int .u32 (at_.1 : Int), .int .u32 (at_.2 : Int), .int .u64 (q : Int), .int .i64 k]) rfl (exec_build rfl (by kernel_rfl)) ?_
      go_wp2_with fail
      refine ⟨HC.out, ?_⟩
      refine plan_last (by rfl) (by kernel_rfl) ?_
      refine wpList_skip rfl (exec_update rfl HR14.out) ?_
      go_wp2_with fail
      refine plan_end ?_
      clear c51 Q5 Q8 HR14 HC HK H14 P3 P5 P8 L13
      generalize ChangeMaps.setBlock w11 bh o14 = w12 at *
      go_simp
      have c50 : w12.cell? ⟨g5, 0, none⟩ = some (.int .u64 (q : Int)) := R5.out.cell 0
      have cg := L14.out.2.2.2.2.1.cell 3
      have fg := L14.out.2.2.2.2.1.frozen 3
      obtain ⟨hlk15, hkp15⟩ := L14.out.setLast q
      have L15 := Lib.hid hlk15
      have K15 := Lib.hid (lkF_step K14.out HX.out hkp15)
      clear hlk15 hkp15
      go_wp2_with fail
      refine bodyPost_ret (results_tmp rfl _ _ _) rfl ⟨v', by rw [HCD.out]; rfl, ?_, K15.out, HX.out⟩
      rw [HA.out]
      have := L15.out
      rw [← HBF.out] at this
      exact this
end Go.Proofs.Ytnkkieiofpplgaa
