/- Package plan: Of's closure lay. For every plan under way, every item that may be. -/
import Derived.Test.YtkkhojealihghaaPlLay
namespace Go.Proofs.Ytkkhojealihghaa
open Go.RowKit
open Go.ChangeMaps (setBlock)
attribute [local go_sem] Oper.semAt_some

theorem Try.infoSeal : (Try.prog.info? 70).map (fun i => (i.zero, i.size, i.bytes)) = some (some (.agg #[.int .u32 0, .int .u32 0, .int .u32 0, .int .u64 0, .int .u64 0]), 5, 32) := by kernel_rfl
theorem eltSeal : Elt Try.prog 31 70 (.agg #[.int .u32 0, .int .u32 0, .int .u32 0, .int .u64 0, .int .u64 0]) 5 32 := ⟨Try.underlying31, Try.infoSeal, rfl, by omega⟩
theorem Try.infoStep : (Try.prog.info? 43).map (fun i => (i.zero, i.size, i.bytes)) = some (some (.agg #[.int .i64 0, .int .u32 0, .int .u32 0, .int .u32 0, .int .u32 0]), 5, 24) := by kernel_rfl
theorem eltStep : Elt Try.prog 30 43 (.agg #[.int .i64 0, .int .u32 0, .int .u32 0, .int .u32 0, .int .u32 0]) 5 24 := ⟨Try.underlying30, Try.infoStep, rfl, by omega⟩
def RetLay (w : World) (B gp ga bm : Nat) (R0 : Ro) (st : PSt) (e : Ending) (w' : World) : Prop := e = .returned (.tuple #[]) ∧ (∃ vs vl, Pm w' B gp ga bm R0 vs vl st) ∧ Below B w w'
/-- what is small in a plan -/
structure Sm (limit first : Nat) (st : PSt) : Prop where
  limit : limit ≤ 16777216
  first : first ≤ 16777215
  seals : st.seals.length ≤ 1000
  steps : st.steps.length ≤ 1000
  each : ∀ s ∈ st.seals, s.id ≤ 16778215 ∧ s.z ≤ 16777216 ∧ s.m ≤ 1000

theorem Try.szLoc : (Try.prog.info? 41).map (·.size) = some 2 := by kernel_rfl
theorem kp_row (w : World) (g : Nat) (cs : Array Value) : Kp [some g] w (w.setRow g cs) := ⟨rfl, rfl, rfl, by rw [row_size]; exact Nat.le_refl _, fun j _ hn => row_other (by simpa using hn) cs⟩
/-- the map's place is written -/
theorem Pm.putAhead {w : World} {B gp ga bm : Nat} {R0 : Ro} {vs vl : Value} {st : PSt} (h : Pm w B gp ga bm R0 vs vl st) (o : Obj) {D : List (List UInt8 × (Nat × Nat))} (m : Mt Try.prog 88 (setBlock w bm o) bm KOk kpv locP D) : Pm (setBlock w bm o) B gp ga bm R0 vs vl ⟨st.steps, st.seals, D⟩ := by
  have k := Kp.setBlock w bm o
  exact ⟨h.lo, h.blk.kp k fun hm => mpb_ne h.map.1 h.blk (by simpa using hm : gp = bm).symm, h.steps.kp k fun j hj hm => mpo_ne h.map.1 h.steps ((List.mem_singleton.1 hm).symm.trans hj.symm), h.seals.kp k fun j hj hm => mpo_ne h.map.1 h.seals ((List.mem_singleton.1 hm).symm.trans hj.symm), h.box.kp k fun hm => mpb_ne h.map.1 h.box (by simpa using hm : ga = bm).symm, m, h.rest.kp k fun j hj hm => mpo_ne h.map.1 h.rest ((List.mem_singleton.1 hm).symm.trans hj.symm)⟩
theorem se_set (R : List Se) (s s' : Se) {k j : Nat} (hk : R.length = k) (hj : j < 5) (v : Value) (hs : s'.cells = s.cells.set j v) : (seCells (R ++ [s])).set (k * 5 + j) v = seCells (R ++ [s']) := by
  subst hk
  rw [seCells_snoc, seCells_snoc, List.set_append_right _ _ (by rw [seCells_len]; omega), seCells_len, hs, Nat.add_sub_cancel_left]
/-- the last seal is written -/
theorem Pm.setSeal {w : World} {B gp ga bm gv c k j : Nat} {R0 : Ro} {vs : Value} {S : List Sp} {R : List Se} {s s' : Se} {D : List (List UInt8 × (Nat × Nat))} (h : Pm w B gp ga bm R0 vs (.slice (some ⟨gv, 0, none⟩) (k + 1) c) ⟨S, R ++ [s], D⟩) (hk : R.length = k) (hj : j < 5) (v : Value) (hs : s'.cells = s.cells.set j v) :
    Pm (w.setCell ⟨gv, k * 5 + j, none⟩ v) B gp ga bm R0 vs (.slice (some ⟨gv, 0, none⟩) (k + 1) c) ⟨S, R ++ [s'], D⟩ := by
  have ks := Kp.set w ⟨gv, k * 5 + j, none⟩ v
  have hl : (R ++ [s]).length = k + 1 := by rw [List.length_append, List.length_singleton, hk]
  have hl' : (R ++ [s']).length = k + 1 := by rw [List.length_append, List.length_singleton, hk]
  have h0 := h.seals
  simp only [hl] at h0
  have h1 := (World.ownsRow.stored h0 (k * 5 + j) v).1
  rw [se_set R s s' hk hj v hs] at h1
  refine ⟨h.lo, h.blk.kp ks fun hm => own_blk_ne h.blk h.seals (by decide) (List.mem_singleton.1 hm), h.steps.kp ks fun i hi hm => ?_, ?_, h.box.kp ks fun hm => own_blk_ne h.box h.seals (by decide) (List.mem_singleton.1 hm), h.map.kp ks fun hm => mpo_ne h.map.1 h.seals (List.mem_singleton.1 hm), h.rest.kp ks fun i hi hm => ?_⟩
  · have h2 : some i = some gv := List.mem_singleton.1 hm
    rcases own_own_ne h.seals h.steps (by decide) with h3 | h3
    · rw [h3] at hi; cases hi
    · exact h3 (hi.trans h2)
  · simp only [hl']
    exact h1
  · have h2 : some i = some gv := List.mem_singleton.1 hm
    rcases own_own_ne h.seals h.rest (by decide) with h3 | h3
    · rw [h3] at hi; cases hi
    · exact h3 (hi.trans h2)
theorem Pm.sealCell {w : World} {B gp ga bm gv c k : Nat} {R0 : Ro} {vs : Value} {S : List Sp} {R : List Se} {s : Se} {D : List (List UInt8 × (Nat × Nat))} (h : Pm w B gp ga bm R0 vs (.slice (some ⟨gv, 0, none⟩) (k + 1) c) ⟨S, R ++ [s], D⟩) (hk : R.length = k) (j : Nat) (hj : j < 5) {v : Value} (hv : s.cells[j]? = some v) : w.cell? ⟨gv, k * 5 + j, none⟩ = some v ∧ w.frozen? ⟨gv, k * 5 + j, none⟩ = false := by
  have hl : (R ++ [s]).length = k + 1 := by rw [List.length_append, List.length_singleton, hk]
  have h0 := h.seals
  simp only [hl] at h0
  refine ⟨?_, World.ownsRow.frozenAt h0 _⟩
  have := Ow.cell h0 (j := k * 5 + j) (x := v) rfl (by omega) (by rw [seCells_snoc, List.getElem?_append_right (by rw [seCells_len, hk]; omega), seCells_len, hk, Nat.add_sub_cancel_left]; exact hv)
  rwa [Nat.zero_add] at this

set_option maxRecDepth 100000 in
set_option maxHeartbeats 8000000 in
theorem lay_any {w : World} {B gp ga bm gi gl gf : Nat} {R0 : Ro} {vs vl : Value} {st : PSt} (X : List ItX) (A : Option Addr) (n c limit first i : Nat) (x : ItX) (h : Pm w B gp ga bm R0 vs vl st) (sm : Sm limit first st)
    (qi : Blk w gi 25 #[.slice A n c]) (ql : Blk w gl 3 #[.int .i64 (limit : Int)]) (qf : Blk w gf 37 #[.int .u32 (first : Int)]) (hgi : gi < B) (hgl : gl < B) (hgf : gf < B)
    (hn : X.length = n) (hnm : n ≤ 1000) (hr : Rd w w.heap.size 4 A n (itCells X)) (hx0 : X[i]? = some x) (hxo : Rd w B 1 x.A x.it.l.length (bcells x.it.l) ∧ x.it.l.length ≤ x.c) (hk : KOk x.it.l) (hz0 : 25 ≤ x.it.z) (hz1 : x.it.z ≤ 1113) :
    Calls Try.prog 25 #[.int .i64 (i : Int), .pointer (some ⟨gi, 0, none⟩), .pointer (some ⟨gp, 0, none⟩), .pointer (some ⟨gl, 0, none⟩), .pointer (some ⟨gf, 0, none⟩), .pointer (some ⟨ga, 0, none⟩)] w (RetLay w B gp ga bm R0 (st.lay limit first x.it i)) := by
  have hin : i < n := by rw [← hn]; exact (List.getElem?_eq_some_iff.1 hx0).1
  obtain ⟨p, off, rfl, hpl, hcell⟩ := hr.2.2 (by omega)
  have HAT : Hid (∀ W, Below w.heap.size w W → At W p (off + i * 4) [.slice x.A x.it.l.length x.c, .int .u64 (x.it.q : Int), .int .i64 x.it.k, .int .i64 x.it.z]) := Lib.hid (fun W hW => itAtM (X := X) (fun k u hu => (hW.cell (p := ⟨p, off + k, none⟩) hpl).trans (hcell k u hu)) hx0)
  obtain ⟨z, hzz⟩ : ∃ z : Nat, x.it.z = (z : Int) := ⟨x.it.z.toNat, by omega⟩
  have HZZ := Lib.hid hzz
  have hz25 : 25 ≤ z := by omega
  have hz11 : z ≤ 1113 := by omega
  rw [hzz] at HAT
  have i1 : (i : Int) < (n : Int) := by omega
  have ci := qi.cell 0
  have PM := Lib.hid h
  have SM := Lib.hid sm
  have QL := Lib.hid ql
  have QF := Lib.hid qf
  have HXO := Lib.hid hxo
  have HK := Lib.hid hk
  have HG := Lib.hid (show gi < B ∧ gl < B ∧ gf < B from ⟨hgi, hgl, hgf⟩)
  have q7 := Blk.new w 47 #[.slice x.A x.it.l.length x.c, .int .u64 (x.it.q : Int), .int .i64 x.it.k, .int .i64 (z : Int)]
  have b7 := belowAlloc (Below.refl w.heap.size w) (.cells #[.slice x.A x.it.l.length x.c, .int .u64 (x.it.q : Int), .int .i64 x.it.k, .int .i64 (z : Int)] 47)
  clear h sm ql qf hxo hk hgi hgl hgf hcell hr hx0 hzz hz0 hz1 hn hnm qi
  go_enter Try.func25, Try.ntmps25
  go_upto_region 1 with (first
    | (refine wpList_value rfl (exec_load_mid rfl rfl (HAT.out _ (Below.refl _ _)) Try.underlying47 rfl (by kernel_rfl)) ?_)
    | fail)
  clear ci
  generalize w.alloc (.cells #[.slice x.A x.it.l.length x.c, .int .u64 (x.it.q : Int), .int .i64 x.it.k, .int .i64 (z : Int)] 47) = w1 at *
  obtain ⟨g7, hg7⟩ : ∃ g, g = w.heap.size := ⟨_, rfl⟩
  rw [← hg7] at q7 ⊢
  have HG7 := Lib.hid hg7
  have Q7 := Lib.hid q7
  have B7 := Lib.hid b7
  have PM1 := Lib.hid (PM.out.after b7)
  obtain ⟨Al, cl, rfl, hcl⟩ := own_cap PM.out.seals
  obtain ⟨nl, hnl⟩ : ∃ n, n = st.seals.length := ⟨_, rfl⟩
  have HNL := Lib.hid hnl
  have cp1 : w1.cell? ⟨gp, 1, none⟩ = some (.slice Al nl cl) := by rw [hnl]; exact PM1.out.blk.cell 1
  clear q7 b7 hg7 hcl hnl
  go_upto_region 2 with fail
  obtain ⟨bo, hbo⟩ : ∃ b : Bool, b = decide (st.seals.getLast? = none ∨ ∃ s, st.seals.getLast? = some s ∧ (limit : Int) < (s.z : Int) + (z : Int)) := ⟨_, rfl⟩
  have HBO := Lib.hid hbo
  clear hbo
  have HM2 : Hid (n ≤ n) := Lib.hid (Nat.le_refl _)
  clear HM2
  go_cut [8, 35] from 17 to 34 (fun v8 v35 wx => v8 = .int .i64 (nl : Int) ∧ v35 = .bool bo ∧ Below w1.heap.size w1 wx)
  case first =>
    rcases Nat.eq_zero_or_pos nl with h0 | h0
    · have hs0 : st.seals = [] := List.eq_nil_of_length_eq_zero (by rw [← HNL.out]; exact h0)
      have hb : bo = true := by rw [HBO.out, hs0]; rfl
      subst h0
      subst hb
      clear hs0
      have hcur : Below w1.heap.size w1 w1.drew := ⟨rfl, rfl, rfl, Nat.le_refl _, fun _ _ => rfl⟩
      refine wp_region_plan (fun W => Below w1.heap.size w1 W) [.calms [0, 1, 2, 3, 5, 6, 11], .read 4, .calms [7, 8], .read 9, .calms [10], .read 12, .calms [13], .act 14, .calms [15, 16]] (by kernel_rfl) (by rfl) (by kernel_rfl) (by kernel_rfl) hcur ?_
      generalize w1.drew = w2 at *
      have HCU := Lib.hid hcur
      clear hcur
      refine plan_calms (by simp [calmRow, need, chk]; rfl) ?_
      go_wp2_with fail
      refine plan_skipS (some 23) (by rfl) (by rfl) (by rfl) ?_
      refine plan_calms (by simp [calmRow, need]; rfl) ?_
      go_wp2_with fail
      refine plan_skipS (some 28) (by rfl) (by rfl) (by rfl) ?_
      refine plan_calms (by simp [calmRow, need, chk]; rfl) ?_
      go_wp2_with fail
      refine plan_skipS (some 31) (by rfl) (by rfl) (by rfl) ?_
      refine plan_calms (by simp [calmRow, need, chk]; rfl) ?_
      go_wp2_with fail
      refine plan_skipA (some 33) (by rfl) (by rfl) (by rfl) HCU.out ?_
      refine plan_calms (by simp [calmRow, need, chk]; rfl) ?_
      go_wp2_with fail
      refine plan_end ?_
      go_wp2_with fail
      go_meet
      case rel => exact ⟨rfl, rfl, HCU.out⟩
    · obtain ⟨m, rfl⟩ : ∃ m, nl = m + 1 := ⟨nl - 1, by omega⟩
      obtain ⟨s, hs⟩ : ∃ s, st.seals.getLast? = some s := ⟨_, List.getLast?_eq_some_getLast (by intro e; have := HNL.out; rw [e] at this; simp at this)⟩
      have hsm : st.seals[m]? = some s := by rw [List.getLast?_eq_getElem?, ← HNL.out, Nat.add_sub_cancel] at hs; exact hs
      have hb : bo = decide ((limit : Int) < (s.z : Int) + (z : Int)) := by rw [HBO.out, hs]; simp
      have hse := PM1.out.seals
      rw [← HNL.out] at hse
      obtain ⟨gv, c9, he, -, -⟩ := own_ptr hse (by omega)
      injection he with he he2 he3
      subst he he3
      have HLS : Hid (∀ W, Below w1.heap.size w1 W → W.cell? ⟨gv, m * 5 + 1, none⟩ = some (.int .u32 (s.z : Int))) := Lib.hid (fun W hW => by
        have h9 := flatMap_get Se.cells 5 (fun _ => rfl) st.seals m 1 (by omega)
        have h10 : (seCells st.seals)[m * 5 + 1]? = some (.int .u32 (s.z : Int)) := by unfold seCells; rw [h9, hsm]; rfl
        have := Ow.cell (Ow.after hse hW) rfl (by omega) h10
        rwa [Nat.zero_add] at this)
      have hsz := (SM.out.each s (List.mem_of_getElem? hsm)).2.1
      have hm1 := SM.out.seals
      rw [← HNL.out] at hm1
      have hwm : wrap64 (m : Int) = (m : Int) := by unfold wrap64; omega
      have hmi : (m : Int) < (m : Int) + 1 := by omega
      have hz0 : ¬ ((m : Int) + 1 = 0) := by omega
      have HBQ := Lib.hid hb
      have hz0b : ((m : Int) + 1 == 0) = false := by rw [beq_eq_false_iff_ne]; omega
      have HLT := SM.out.limit
      clear hs hsm hb hse he2 h0
      have hcur : Below w1.heap.size w1 w1.drew := ⟨rfl, rfl, rfl, Nat.le_refl _, fun _ _ => rfl⟩
      refine wp_region_plan (fun W => Below w1.heap.size w1 W) [.calms [0, 1, 2, 3, 5, 6, 11], .read 4, .calms [7, 8], .read 9, .calms [10], .read 12, .calms [13], .act 14, .calms [15, 16]] (by kernel_rfl) (by rfl) (by kernel_rfl) (by kernel_rfl) hcur ?_
      generalize w1.drew = w2 at *
      have HCU := Lib.hid hcur
      clear hcur
      refine plan_calms (by simp [calmRow, need, chk]; rfl) ?_
      go_wp2_with fail
      refine plan_read (by rfl) (.slice (some ⟨gv, 0, none⟩) (m + 1) cl) (by rfl) (fun W hW => exec_load rfl rfl (by kernel_rfl) (by have := (PM1.out.blk.after hW).cell 1; rw [← HNL.out] at this; exact this)) ?_
      refine plan_calms (by simp [calmRow, need]; rfl) ?_
      go_wp2_with fail
      refine plan_read (by rfl) (.int .u32 (s.z : Int)) (by rfl) (fun W hW => exec_load rfl rfl (by kernel_rfl) (HLS.out W hW)) ?_
      refine plan_calms (by simp [calmRow, need, chk]; rfl) ?_
      go_wp2_with fail
      refine plan_read (by rfl) (.int .i64 (z : Int)) (by rfl) (fun W hW => exec_load rfl rfl (by kernel_rfl) ((Q7.out.after hW).cell 3)) ?_
      refine plan_calms (by simp [calmRow, need, chk]; rfl) ?_
      go_wp2_with fail
      refine plan_act (by rfl) ?_
      refine wpList_value (v := .int .i64 (limit : Int)) rfl (exec_load rfl rfl (by kernel_rfl) (((QL.out.after B7.out).after HCU.out).cell 0)) ?_
      go_wp2_with fail
      refine ⟨HCU.out, ?_⟩
      refine plan_calms (by simp [calmRow, need, chk]; rfl) ?_
      go_wp2_with fail
      refine plan_end ?_
      go_wp2_with fail
      go_meet
      case rel => exact ⟨by simp, by rw [HBQ.out], HCU.out⟩
  obtain ⟨rfl, rfl, hb2⟩ := hcut
  obtain ⟨w2, hw2⟩ : ∃ W, W = wc := ⟨_, rfl⟩
  subst hw2
  have PM2 := Lib.hid (PM1.out.after hb2)
  have Q72 := Lib.hid (Q7.out.after hb2)
  have HB2 := Lib.hid (belowGo B7.out hb2)
  obtain ⟨OP, hop⟩ : ∃ l, l = st.open_ limit first x.it := ⟨_, rfl⟩
  have HOP := Lib.hid hop
  have hopb : OP = if bo then st.seals ++ [⟨first + nl, 16, 0, x.it.q, 0⟩] else st.seals := by
    rw [hop, HBO.out]
    unfold PSt.open_
    cases hl : st.seals.getLast? with
    | none =>
      have : st.seals = [] := by simpa using hl
      have hn0 : nl = 0 := by rw [HNL.out, this]; rfl
      rw [this, hn0]
      simp
    | some s =>
      rw [HZZ.out, HNL.out]
      by_cases hlt : (limit : Int) < (s.z : Int) + (z : Int)
      · simp [hlt]
      · simp [hlt]
  have HOPB := Lib.hid hopb
  have hBs : B ≤ w.heap.size := Nat.le_trans PM.out.lo.1 (Nat.le_of_lt PM.out.blk.lt)
  have HBW := Lib.hid (HB2.out.mono hBs)
  have hfirst := SM.out.first
  have hnl1 : nl ≤ 1000 := by rw [HNL.out]; exact SM.out.seals
  clear hb2 hop hopb cp1
  go_upto_if 35 with fail
  go_cut [8] from 35 to 49 (fun v8 wx => ∃ vl', v8 = .int .i64 (OP.length : Int) ∧ Pm wx B gp ga bm R0 vs vl' ⟨st.steps, OP, st.ahead⟩ ∧ Blk wx g7 47 #[.slice x.A x.it.l.length x.c, .int .u64 (x.it.q : Int), .int .i64 x.it.k, .int .i64 (z : Int)] ∧ Below B w wx)
  case first =>
    cases bo with
    | false =>
      have HOF : Hid (OP = st.seals) := Lib.hid (by rw [HOPB.out]; rfl)
      go_wp2_with fail
      go_meet
      case rel => exact ⟨.slice Al nl cl, by rw [HOF.out, HNL.out], by rw [HOF.out, HNL.out]; exact PM2.out, Q72.out, HBW.out⟩
    | true =>
      have HOT : Hid (OP = st.seals ++ [⟨first + nl, 16, 0, x.it.q, 0⟩]) := Lib.hid (by rw [HOPB.out]; rfl)
      have cp1 : w2.cell? ⟨gp, 1, none⟩ = some (.slice Al nl cl) := by rw [HNL.out]; exact PM2.out.blk.cell 1
      have cf := (QF.out.after HB2.out).cell 0
      have c71 := Q72.out.cell 1
      obtain ⟨fn, hfn⟩ : ∃ k, k = first + nl := ⟨_, rfl⟩
      have EFN : Hid ((first : Int) + (nl : Int) = (fn : Int)) := Lib.hid (by omega)
      have HFN := Lib.hid hfn
      clear hfn
      have own2 : Ow w2 B 70 5 (.slice Al nl cl) nl (seCells st.seals) := by rw [HNL.out]; exact PM2.out.seals
      have OWN2 : Hid (Ow _ _ _ _ _ _ _) := Lib.hid own2
      clear own2
      go_wp2_with (first
        | (at_builtin
           go_loud (refine wpList_push eltSeal rfl (.tmp 37) (.tmp 45) rfl (W := w2) rfl OWN2.out rfl rfl (by simp [Value.oneCell']) (by omega) (by unfold maxLen; omega) HBW.out (Nat.le_trans hBs HBW.out.size) ?_
                    intro v6 w6 o6 b6 g6 x6
                    obtain ⟨A6, c6, rfl, -⟩ := own_cap o6
                    rw [EFN.out] at o6
                    have g6' := g6
                    have o6' := o6
                    rw [HNL.out] at g6' o6'
                    have pm6 := PM2.out.pushSeal ⟨fn, 16, 0, x.it.q, 0⟩ g6' o6'
                    rw [← HNL.out] at pm6
                    have PM6 := Lib.hid pm6
                    have qp : Blk w6 gp 33 #[vs, .slice Al st.seals.length cl] := PM2.out.blk.kp (Kp.grown g6') fun hm => own_blk_ne PM2.out.blk PM2.out.seals (by decide) (List.mem_singleton.1 hm)
                    have cg := qp.cell 1
                    have fg := qp.frozen 1
                    have q7a : Blk w6 g7 47 #[.slice x.A x.it.l.length x.c, .int .u64 (x.it.q : Int), .int .i64 x.it.k, .int .i64 (z : Int)] := Q72.out.kp (Kp.grown g6) fun hm => own_blk_ne Q72.out OWN2.out (by decide) (List.mem_singleton.1 hm)
                    have Q76 := Lib.hid (q7a.kp (Kp.set w6 ⟨gp, 1, none⟩ (.slice A6 (nl + 1) c6)) fun hm => by
                      have h1 : g7 = gp := by simpa using hm
                      have h2 := PM.out.blk.lt
                      have h3 := HG7.out
                      omega)
                    have HB6 := Lib.hid (b6.setCell (p := ⟨gp, 1, none⟩) PM.out.lo.1 (.slice A6 (nl + 1) c6))
                    clear o6 b6 g6 x6 g6' o6' qp q7a cp1 cf c71 pm6))
        | fail)
      go_meet
      case rel => exact ⟨.slice A6 (nl + 1) c6, by rw [HOT.out, List.length_append, List.length_singleton, ← HNL.out]; go_num, by rw [HOT.out, ← HFN.out]; exact PM6.out, Q76.out, HB6.out⟩
  obtain ⟨vl2, rfl, pm3, q73, hb3⟩ := hcut
  obtain ⟨w3, hw3⟩ : ∃ W, W = wc := ⟨_, rfl⟩
  subst hw3
  obtain ⟨s, hs⟩ : ∃ s, OP.getLast? = some s := by
    refine ⟨_, List.getLast?_eq_some_getLast (fun e => ?_)⟩
    have h1 := HOPB.out
    cases bo with
    | true => rw [if_pos rfl] at h1; rw [e] at h1; simp at h1
    | false =>
      rw [if_neg (by simp)] at h1
      have h2 := HBO.out
      rw [← h1, e] at h2
      simp at h2
  obtain ⟨k, hk⟩ : ∃ k, OP.length = k + 1 := by
    cases h : OP with
    | nil => rw [h] at hs; simp at hs
    | cons y r => exact ⟨r.length, rfl⟩
  obtain ⟨R9, hR9⟩ := List.getLast?_eq_some_iff.1 hs
  have HR9 := Lib.hid hR9
  have hsk : OP[k]? = some s := by rw [List.getLast?_eq_getElem?, hk, Nat.add_sub_cancel] at hs; exact hs
  have hse := pm3.seals
  simp only [] at hse
  obtain ⟨gv, c9, he, -, -⟩ := own_ptr hse (by omega)
  subst he
  have hopl : OP.length ≤ 1001 := by
    rw [HOPB.out]
    have := SM.out.seals
    cases bo <;> simp <;> omega
  have hsb : s.id ≤ 16778215 ∧ s.z ≤ 16777216 ∧ s.m ≤ 1000 := by
    have hmem : s ∈ OP := List.mem_of_getElem? hsk
    rw [HOPB.out] at hmem
    cases bo with
    | false => exact SM.out.each s (by simpa using hmem)
    | true =>
      rw [if_pos rfl] at hmem
      rcases List.mem_append.1 hmem with h | h
      · exact SM.out.each s h
      · rw [List.mem_singleton.1 h]
        exact ⟨by show first + nl ≤ _; omega, by show 16 ≤ _; omega, by show 0 ≤ _; omega⟩
  have HSB := Lib.hid hsb
  have HOPL := Lib.hid hopl
  have HLS : Hid (∀ j v, s.cells[j]? = some v → j < 5 → ∀ W, Below w3.heap.size w3 W → W.cell? ⟨gv, k * 5 + j, none⟩ = some v) := Lib.hid (fun j v hj hj5 W hW => by
    have h9 := flatMap_get Se.cells 5 (fun _ => rfl) OP k j hj5
    have h10 : (seCells OP)[k * 5 + j]? = some v := by unfold seCells; rw [h9, hsk]; exact hj
    have := Ow.cell (Ow.after hse hW) rfl (by rw [hk]; omega) h10
    rwa [Nat.zero_add] at this)
  have PM3 := Lib.hid pm3
  have Q73 := Lib.hid q73
  have HB3 := Lib.hid hb3
  have HOK := Lib.hid hk
  have HLAY : Hid (st.lay limit first x.it i = ⟨st.steps ++ [⟨i, (s.id, s.z), (mget st.ahead x.it.l).getD (0, 0)⟩], R9 ++ [⟨s.id, s.z + z, s.m + 1, s.f, x.it.q⟩], mput x.it.l (s.id, s.z) st.ahead⟩) := Lib.hid (by
    unfold PSt.lay
    rw [← HOP.out]
    simp only [HZZ.out, Option.getD_some, Int.toNat_natCast, HR9.out, List.dropLast_concat, List.getLast?_append, List.getLast?_singleton, Option.some_or, Option.getD_some])
  have HDL : Hid (R9.length = k) := Lib.hid (by rw [hR9, List.length_append, List.length_singleton] at hk; omega)
  have cp1 : w3.cell? ⟨gp, 1, none⟩ = some (.slice (some ⟨gv, 0, none⟩) (k + 1) c9) := by rw [← hk]; exact pm3.blk.cell 1
  have hwk : wrap64 (k : Int) = (k : Int) := by unfold wrap64; omega
  have hki : (k : Int) < (k : Int) + 1 := by omega
  clear hsk hse hopl hsb pm3 q73 hb3 PM2 Q72 HB2 HBW PM1 hBs hfirst hnl1
  rw [hk, show ((k + 1 : Nat) : Int) = (k : Int) + 1 by omega]
  clear hk hs hR9
  go_upto_region 6 with fail
  have HXR : Hid (Rd w3 w3.heap.size 1 x.A x.it.l.length (bcells x.it.l)) := Lib.hid ((HXO.out.1.below HB3.out (Nat.le_refl _)).more (Nat.le_trans PM3.out.lo.1 (Nat.le_of_lt PM3.out.blk.lt)))
  have HOF : Hid (∀ W, Below w3.heap.size w3 W → Calls Try.prog 26 #[.slice x.A x.it.l.length x.c] W fun e w' => e = .returned (.agg (prC x.it.l)) ∧ Below W.heap.size W w') := Lib.hid (fun W hW => of_any x.it.l x.A x.it.l.length x.c W HXO.out.2 (by have := HK.out.2; omega) (HXR.out.after hW))
  have hpc : prC x.it.l = pcA x.it.l.length (pws x.it.l) := prC_pc x.it.l (mayB_ok HK.out)
  have hsz : (pcA x.it.l.length (pws x.it.l)).size = 9 := by unfold pcA; simp [pws_len]
  have hone : (pcA x.it.l.length (pws x.it.l)).all (·.oneCell') = true := by unfold pcA; simp [Value.oneCell']
  have hkv : kpv x.it.l = .agg (pcA x.it.l.length (pws x.it.l)) := rfl
  obtain ⟨A9, hA9⟩ : ∃ A, A = pcA x.it.l.length (pws x.it.l) := ⟨_, rfl⟩
  rw [← hA9] at hpc hsz hone hkv
  have HPC := Lib.hid hpc
  have HSZ := Lib.hid hsz
  have HONE := Lib.hid hone
  have HKV := Lib.hid hkv
  clear hpc hsz hone hkv hA9
  rw [hwk]
  go_cut [10, 11] from 55 to 66 (fun v10 v11 wx => ∃ g10 g11 : Nat, v10 = .pointer (some ⟨g10, 0, none⟩) ∧ v11 = .pointer (some ⟨g11, 0, none⟩) ∧ Below w3.heap.size w3 wx ∧ Blk wx g10 41 #[.int .u32 (s.id : Int), .int .u32 (s.z : Int)] ∧ Blk wx g11 88 A9)
  case first =>
    have hcur : Below w3.heap.size w3 w3.drew := ⟨rfl, rfl, rfl, Nat.le_refl _, fun _ _ => rfl⟩
    refine wp_region_tree (fun W => Below w3.heap.size w3 W) (row [.calms [0, 4, 9], .read 1, .calms [2], .read 3, .read 5, .calms [6], .read 7, .read 8, .read 10] (.fork3 11 (row [] (.fork 12 (row [.act 13, .act 14, .act 15] .done) 13 (row [.act 12, .act 14, .act 15] .done))) 12 (row [] (.fork 11 (row [.act 13, .act 14, .act 15] .done) 13 (row [.act 11, .act 14, .act 15] .done))) 13 (row [] (.fork 11 (row [.act 12, .act 14, .act 15] .done) 12 (row [.act 11, .act 14, .act 15] .done))))) (by kernel_rfl) (by rfl) (by kernel_rfl) (by kernel_rfl) hcur ?_
    generalize w3.drew = wd at *
    have HCU := Lib.hid hcur
    clear hcur
    refine plan_calms (by simp [calmRow, need]; rfl) ?_
    go_wp2_with fail
    refine plan_read (by rfl) (.pointer (some ⟨gv, k * 5, none⟩)) (by rfl) (fun W hW => exec_nil rfl rfl) ?_
    refine plan_calms (by simp [calmRow, need]; rfl) ?_
    go_wp2_with fail
    refine plan_read (by rfl) (.int .u32 (s.id : Int)) (by rfl) (fun W hW => exec_load rfl rfl (by kernel_rfl) (HLS.out 0 _ rfl (by omega) W hW)) ?_
    refine plan_read (by rfl) (.pointer (some ⟨gv, k * 5, none⟩)) (by rfl) (fun W hW => exec_nil rfl rfl) ?_
    refine plan_calms (by simp [calmRow, need]; rfl) ?_
    go_wp2_with fail
    refine plan_read (by rfl) (.int .u32 (s.z : Int)) (by rfl) (fun W hW => exec_load rfl rfl (by kernel_rfl) (HLS.out 1 _ rfl (by omega) W hW)) ?_
    refine plan_read (by rfl) (.agg #[.int .u32 (s.id : Int), .int .u32 (s.z : Int)]) (by rfl) (fun W hW => exec_build rfl (by kernel_rfl)) ?_
    refine plan_read (by rfl) (.slice x.A x.it.l.length x.c) (by rfl) (fun W hW => exec_load rfl rfl (by kernel_rfl) ((Q73.out.after hW).cell 0)) ?_
    refine plan_fork3 (by rfl) (by rfl) (by rfl) ?_ ?_ ?_
    · go_wp2_with fail
      refine (HOF.out wd HCU.out).mono ?_
      rintro e y1 ⟨he, bb⟩
      rw [HPC.out] at he
      subst he
      have HCU := Lib.hid (belowGo HCU.out bb)
      clear bb
      go_wp2_with fail
      refine ⟨HCU.out, ?_⟩
      refine plan_fork (by rfl) (by rfl) ?_ ?_
      · go_wp2_with fail
        have bb := belowAlloc (Below.refl y1.heap.size y1) (.cells #[.int .u32 0, .int .u32 0] 41)
        have qq := Blk.new y1 41 #[.int .u32 0, .int .u32 0]
        generalize y1.alloc (.cells #[.int .u32 0, .int .u32 0] 41) = y2 at *
        obtain ⟨g10, hg10⟩ : ∃ g, g = y1.heap.size := ⟨_, rfl⟩
        rw [← hg10] at qq ⊢
        have Q10 := Lib.hid qq
        have Lg10 : Hid (w3.heap.size ≤ g10) := Lib.hid (by rw [hg10]; exact HCU.out.size)
        have HCU := Lib.hid (belowGo HCU.out bb)
        clear bb qq hg10
        go_wp2_with fail
        refine ⟨HCU.out, ?_⟩
        refine plan_act (by rfl) ?_
        go_wp2_with fail
        have bb := belowAlloc (Below.refl y2.heap.size y2) (.cells #[.int .u8 0, .int .u64 0, .int .u64 0, .int .u64 0, .int .u64 0, .int .u64 0, .int .u64 0, .int .u64 0, .int .u64 0] 88)
        have qq := Blk.new y2 88 #[.int .u8 0, .int .u64 0, .int .u64 0, .int .u64 0, .int .u64 0, .int .u64 0, .int .u64 0, .int .u64 0, .int .u64 0]
        generalize y2.alloc (.cells #[.int .u8 0, .int .u64 0, .int .u64 0, .int .u64 0, .int .u64 0, .int .u64 0, .int .u64 0, .int .u64 0, .int .u64 0] 88) = y3 at *
        obtain ⟨g11, hg11⟩ : ∃ g, g = y2.heap.size := ⟨_, rfl⟩
        rw [← hg11] at qq ⊢
        have Q10 := Lib.hid (Q10.out.after bb)
        have Q11 := Lib.hid qq
        have Lg11 : Hid (w3.heap.size ≤ g11) := Lib.hid (by rw [hg11]; exact HCU.out.size)
        have HCU := Lib.hid (belowGo HCU.out bb)
        clear bb qq hg11
        go_wp2_with fail
        refine ⟨HCU.out, ?_⟩
        refine plan_last (by rfl) (by kernel_rfl) ?_
        go_wp2_with (first
          | (refine wpList_storeB rfl 41 (.tmp 10) (.tmp 63) rfl rfl rfl Q10.out Try.szLoc rfl (by simp [Value.oneCell']) ?_)
          | fail)
        have HNE := Lib.hid (Q11.out.ne_ Q10.out (by decide))
        have q10 := Q10.out.row #[.int .u32 (s.id : Int), .int .u32 (s.z : Int)]
        have q11 := Q11.out.kp (kp_row y3 g10 #[.int .u32 (s.id : Int), .int .u32 (s.z : Int)]) (fun hm => HNE.out (by simpa using hm))
        have bc := row_below HCU.out Lg10.out #[.int .u32 (s.id : Int), .int .u32 (s.z : Int)]
        generalize y3.setRow g10 #[.int .u32 (s.id : Int), .int .u32 (s.z : Int)] = y8 at *
        have Q10 := Lib.hid q10
        have Q11 := Lib.hid q11
        have HCU := Lib.hid bc
        clear q10 q11 bc
        refine plan_last (by rfl) (by kernel_rfl) ?_
        go_wp2_with (first
          | (refine wpList_storeB rfl 88 (.tmp 11) (.tmp 66) rfl rfl rfl Q11.out (by rw [HSZ.out]; kernel_rfl) (by rw [HSZ.out]; rfl) HONE.out ?_)
          | fail)
        have q11 := Q11.out.row A9
        have q10 := Q10.out.kp (kp_row y8 g11 A9) (fun hm => (Ne.symm HNE.out) (by simpa using hm))
        have bc := row_below HCU.out Lg11.out A9
        generalize y8.setRow g11 A9 = y9 at *
        refine plan_end ?_
        go_wp2_with fail
        go_meet
        case rel => exact ⟨g10, g11, rfl, rfl, bc, q10, q11⟩
      · go_wp2_with fail
        have bb := belowAlloc (Below.refl y1.heap.size y1) (.cells #[.int .u8 0, .int .u64 0, .int .u64 0, .int .u64 0, .int .u64 0, .int .u64 0, .int .u64 0, .int .u64 0, .int .u64 0] 88)
        have qq := Blk.new y1 88 #[.int .u8 0, .int .u64 0, .int .u64 0, .int .u64 0, .int .u64 0, .int .u64 0, .int .u64 0, .int .u64 0, .int .u64 0]
        generalize y1.alloc (.cells #[.int .u8 0, .int .u64 0, .int .u64 0, .int .u64 0, .int .u64 0, .int .u64 0, .int .u64 0, .int .u64 0, .int .u64 0] 88) = y2 at *
        obtain ⟨g11, hg11⟩ : ∃ g, g = y1.heap.size := ⟨_, rfl⟩
        rw [← hg11] at qq ⊢
        have Q11 := Lib.hid qq
        have Lg11 : Hid (w3.heap.size ≤ g11) := Lib.hid (by rw [hg11]; exact HCU.out.size)
        have HCU := Lib.hid (belowGo HCU.out bb)
        clear bb qq hg11
        go_wp2_with fail
        refine ⟨HCU.out, ?_⟩
        refine plan_act (by rfl) ?_
        go_wp2_with fail
        have bb := belowAlloc (Below.refl y2.heap.size y2) (.cells #[.int .u32 0, .int .u32 0] 41)
        have qq := Blk.new y2 41 #[.int .u32 0, .int .u32 0]
        generalize y2.alloc (.cells #[.int .u32 0, .int .u32 0] 41) = y3 at *
        obtain ⟨g10, hg10⟩ : ∃ g, g = y2.heap.size := ⟨_, rfl⟩
        rw [← hg10] at qq ⊢
        have Q11 := Lib.hid (Q11.out.after bb)
        have Q10 := Lib.hid qq
        have Lg10 : Hid (w3.heap.size ≤ g10) := Lib.hid (by rw [hg10]; exact HCU.out.size)
        have HCU := Lib.hid (belowGo HCU.out bb)
        clear bb qq hg10
        go_wp2_with fail
        refine ⟨HCU.out, ?_⟩
        refine plan_last (by rfl) (by kernel_rfl) ?_
        go_wp2_with (first
          | (refine wpList_storeB rfl 41 (.tmp 10) (.tmp 63) rfl rfl rfl Q10.out Try.szLoc rfl (by simp [Value.oneCell']) ?_)
          | fail)
        have HNE := Lib.hid (Q11.out.ne_ Q10.out (by decide))
        have q10 := Q10.out.row #[.int .u32 (s.id : Int), .int .u32 (s.z : Int)]
        have q11 := Q11.out.kp (kp_row y3 g10 #[.int .u32 (s.id : Int), .int .u32 (s.z : Int)]) (fun hm => HNE.out (by simpa using hm))
        have bc := row_below HCU.out Lg10.out #[.int .u32 (s.id : Int), .int .u32 (s.z : Int)]
        generalize y3.setRow g10 #[.int .u32 (s.id : Int), .int .u32 (s.z : Int)] = y8 at *
        have Q10 := Lib.hid q10
        have Q11 := Lib.hid q11
        have HCU := Lib.hid bc
        clear q10 q11 bc
        refine plan_last (by rfl) (by kernel_rfl) ?_
        go_wp2_with (first
          | (refine wpList_storeB rfl 88 (.tmp 11) (.tmp 66) rfl rfl rfl Q11.out (by rw [HSZ.out]; kernel_rfl) (by rw [HSZ.out]; rfl) HONE.out ?_)
          | fail)
        have q11 := Q11.out.row A9
        have q10 := Q10.out.kp (kp_row y8 g11 A9) (fun hm => (Ne.symm HNE.out) (by simpa using hm))
        have bc := row_below HCU.out Lg11.out A9
        generalize y8.setRow g11 A9 = y9 at *
        refine plan_end ?_
        go_wp2_with fail
        go_meet
        case rel => exact ⟨g10, g11, rfl, rfl, bc, q10, q11⟩
    · go_wp2_with fail
      have bb := belowAlloc (Below.refl wd.heap.size wd) (.cells #[.int .u32 0, .int .u32 0] 41)
      have qq := Blk.new wd 41 #[.int .u32 0, .int .u32 0]
      generalize wd.alloc (.cells #[.int .u32 0, .int .u32 0] 41) = y1 at *
      obtain ⟨g10, hg10⟩ : ∃ g, g = wd.heap.size := ⟨_, rfl⟩
      rw [← hg10] at qq ⊢
      have Q10 := Lib.hid qq
      have Lg10 : Hid (w3.heap.size ≤ g10) := Lib.hid (by rw [hg10]; exact HCU.out.size)
      have HCU := Lib.hid (belowGo HCU.out bb)
      clear bb qq hg10
      go_wp2_with fail
      refine ⟨HCU.out, ?_⟩
      refine plan_fork (by rfl) (by rfl) ?_ ?_
      · go_wp2_with fail
        refine (HOF.out y1 HCU.out).mono ?_
        rintro e y2 ⟨he, bb⟩
        rw [HPC.out] at he
        subst he
        have HCU := Lib.hid (belowGo HCU.out bb)
        have Q10 := Lib.hid (Q10.out.after bb)
        clear bb
        go_wp2_with fail
        refine ⟨HCU.out, ?_⟩
        refine plan_act (by rfl) ?_
        go_wp2_with fail
        have bb := belowAlloc (Below.refl y2.heap.size y2) (.cells #[.int .u8 0, .int .u64 0, .int .u64 0, .int .u64 0, .int .u64 0, .int .u64 0, .int .u64 0, .int .u64 0, .int .u64 0] 88)
        have qq := Blk.new y2 88 #[.int .u8 0, .int .u64 0, .int .u64 0, .int .u64 0, .int .u64 0, .int .u64 0, .int .u64 0, .int .u64 0, .int .u64 0]
        generalize y2.alloc (.cells #[.int .u8 0, .int .u64 0, .int .u64 0, .int .u64 0, .int .u64 0, .int .u64 0, .int .u64 0, .int .u64 0, .int .u64 0] 88) = y3 at *
        obtain ⟨g11, hg11⟩ : ∃ g, g = y2.heap.size := ⟨_, rfl⟩
        rw [← hg11] at qq ⊢
        have Q10 := Lib.hid (Q10.out.after bb)
        have Q11 := Lib.hid qq
        have Lg11 : Hid (w3.heap.size ≤ g11) := Lib.hid (by rw [hg11]; exact HCU.out.size)
        have HCU := Lib.hid (belowGo HCU.out bb)
        clear bb qq hg11
        go_wp2_with fail
        refine ⟨HCU.out, ?_⟩
        refine plan_last (by rfl) (by kernel_rfl) ?_
        go_wp2_with (first
          | (refine wpList_storeB rfl 41 (.tmp 10) (.tmp 63) rfl rfl rfl Q10.out Try.szLoc rfl (by simp [Value.oneCell']) ?_)
          | fail)
        have HNE := Lib.hid (Q11.out.ne_ Q10.out (by decide))
        have q10 := Q10.out.row #[.int .u32 (s.id : Int), .int .u32 (s.z : Int)]
        have q11 := Q11.out.kp (kp_row y3 g10 #[.int .u32 (s.id : Int), .int .u32 (s.z : Int)]) (fun hm => HNE.out (by simpa using hm))
        have bc := row_below HCU.out Lg10.out #[.int .u32 (s.id : Int), .int .u32 (s.z : Int)]
        generalize y3.setRow g10 #[.int .u32 (s.id : Int), .int .u32 (s.z : Int)] = y8 at *
        have Q10 := Lib.hid q10
        have Q11 := Lib.hid q11
        have HCU := Lib.hid bc
        clear q10 q11 bc
        refine plan_last (by rfl) (by kernel_rfl) ?_
        go_wp2_with (first
          | (refine wpList_storeB rfl 88 (.tmp 11) (.tmp 66) rfl rfl rfl Q11.out (by rw [HSZ.out]; kernel_rfl) (by rw [HSZ.out]; rfl) HONE.out ?_)
          | fail)
        have q11 := Q11.out.row A9
        have q10 := Q10.out.kp (kp_row y8 g11 A9) (fun hm => (Ne.symm HNE.out) (by simpa using hm))
        have bc := row_below HCU.out Lg11.out A9
        generalize y8.setRow g11 A9 = y9 at *
        refine plan_end ?_
        go_wp2_with fail
        go_meet
        case rel => exact ⟨g10, g11, rfl, rfl, bc, q10, q11⟩
      · go_wp2_with fail
        have bb := belowAlloc (Below.refl y1.heap.size y1) (.cells #[.int .u8 0, .int .u64 0, .int .u64 0, .int .u64 0, .int .u64 0, .int .u64 0, .int .u64 0, .int .u64 0, .int .u64 0] 88)
        have qq := Blk.new y1 88 #[.int .u8 0, .int .u64 0, .int .u64 0, .int .u64 0, .int .u64 0, .int .u64 0, .int .u64 0, .int .u64 0, .int .u64 0]
        generalize y1.alloc (.cells #[.int .u8 0, .int .u64 0, .int .u64 0, .int .u64 0, .int .u64 0, .int .u64 0, .int .u64 0, .int .u64 0, .int .u64 0] 88) = y2 at *
        obtain ⟨g11, hg11⟩ : ∃ g, g = y1.heap.size := ⟨_, rfl⟩
        rw [← hg11] at qq ⊢
        have Q10 := Lib.hid (Q10.out.after bb)
        have Q11 := Lib.hid qq
        have Lg11 : Hid (w3.heap.size ≤ g11) := Lib.hid (by rw [hg11]; exact HCU.out.size)
        have HCU := Lib.hid (belowGo HCU.out bb)
        clear bb qq hg11
        go_wp2_with fail
        refine ⟨HCU.out, ?_⟩
        refine plan_act (by rfl) ?_
        go_wp2_with fail
        refine (HOF.out y2 HCU.out).mono ?_
        rintro e y3 ⟨he, bb⟩
        rw [HPC.out] at he
        subst he
        have HCU := Lib.hid (belowGo HCU.out bb)
        have Q10 := Lib.hid (Q10.out.after bb)
        have Q11 := Lib.hid (Q11.out.after bb)
        clear bb
        go_wp2_with fail
        refine ⟨HCU.out, ?_⟩
        refine plan_last (by rfl) (by kernel_rfl) ?_
        go_wp2_with (first
          | (refine wpList_storeB rfl 41 (.tmp 10) (.tmp 63) rfl rfl rfl Q10.out Try.szLoc rfl (by simp [Value.oneCell']) ?_)
          | fail)
        have HNE := Lib.hid (Q11.out.ne_ Q10.out (by decide))
        have q10 := Q10.out.row #[.int .u32 (s.id : Int), .int .u32 (s.z : Int)]
        have q11 := Q11.out.kp (kp_row y3 g10 #[.int .u32 (s.id : Int), .int .u32 (s.z : Int)]) (fun hm => HNE.out (by simpa using hm))
        have bc := row_below HCU.out Lg10.out #[.int .u32 (s.id : Int), .int .u32 (s.z : Int)]
        generalize y3.setRow g10 #[.int .u32 (s.id : Int), .int .u32 (s.z : Int)] = y8 at *
        have Q10 := Lib.hid q10
        have Q11 := Lib.hid q11
        have HCU := Lib.hid bc
        clear q10 q11 bc
        refine plan_last (by rfl) (by kernel_rfl) ?_
        go_wp2_with (first
          | (refine wpList_storeB rfl 88 (.tmp 11) (.tmp 66) rfl rfl rfl Q11.out (by rw [HSZ.out]; kernel_rfl) (by rw [HSZ.out]; rfl) HONE.out ?_)
          | fail)
        have q11 := Q11.out.row A9
        have q10 := Q10.out.kp (kp_row y8 g11 A9) (fun hm => (Ne.symm HNE.out) (by simpa using hm))
        have bc := row_below HCU.out Lg11.out A9
        generalize y8.setRow g11 A9 = y9 at *
        refine plan_end ?_
        go_wp2_with fail
        go_meet
        case rel => exact ⟨g10, g11, rfl, rfl, bc, q10, q11⟩
    · go_wp2_with fail
      have bb := belowAlloc (Below.refl wd.heap.size wd) (.cells #[.int .u8 0, .int .u64 0, .int .u64 0, .int .u64 0, .int .u64 0, .int .u64 0, .int .u64 0, .int .u64 0, .int .u64 0] 88)
      have qq := Blk.new wd 88 #[.int .u8 0, .int .u64 0, .int .u64 0, .int .u64 0, .int .u64 0, .int .u64 0, .int .u64 0, .int .u64 0, .int .u64 0]
      generalize wd.alloc (.cells #[.int .u8 0, .int .u64 0, .int .u64 0, .int .u64 0, .int .u64 0, .int .u64 0, .int .u64 0, .int .u64 0, .int .u64 0] 88) = y1 at *
      obtain ⟨g11, hg11⟩ : ∃ g, g = wd.heap.size := ⟨_, rfl⟩
      rw [← hg11] at qq ⊢
      have Q11 := Lib.hid qq
      have Lg11 : Hid (w3.heap.size ≤ g11) := Lib.hid (by rw [hg11]; exact HCU.out.size)
      have HCU := Lib.hid (belowGo HCU.out bb)
      clear bb qq hg11
      go_wp2_with fail
      refine ⟨HCU.out, ?_⟩
      refine plan_fork (by rfl) (by rfl) ?_ ?_
      · go_wp2_with fail
        refine (HOF.out y1 HCU.out).mono ?_
        rintro e y2 ⟨he, bb⟩
        rw [HPC.out] at he
        subst he
        have HCU := Lib.hid (belowGo HCU.out bb)
        have Q11 := Lib.hid (Q11.out.after bb)
        clear bb
        go_wp2_with fail
        refine ⟨HCU.out, ?_⟩
        refine plan_act (by rfl) ?_
        go_wp2_with fail
        have bb := belowAlloc (Below.refl y2.heap.size y2) (.cells #[.int .u32 0, .int .u32 0] 41)
        have qq := Blk.new y2 41 #[.int .u32 0, .int .u32 0]
        generalize y2.alloc (.cells #[.int .u32 0, .int .u32 0] 41) = y3 at *
        obtain ⟨g10, hg10⟩ : ∃ g, g = y2.heap.size := ⟨_, rfl⟩
        rw [← hg10] at qq ⊢
        have Q11 := Lib.hid (Q11.out.after bb)
        have Q10 := Lib.hid qq
        have Lg10 : Hid (w3.heap.size ≤ g10) := Lib.hid (by rw [hg10]; exact HCU.out.size)
        have HCU := Lib.hid (belowGo HCU.out bb)
        clear bb qq hg10
        go_wp2_with fail
        refine ⟨HCU.out, ?_⟩
        refine plan_last (by rfl) (by kernel_rfl) ?_
        go_wp2_with (first
          | (refine wpList_storeB rfl 41 (.tmp 10) (.tmp 63) rfl rfl rfl Q10.out Try.szLoc rfl (by simp [Value.oneCell']) ?_)
          | fail)
        have HNE := Lib.hid (Q11.out.ne_ Q10.out (by decide))
        have q10 := Q10.out.row #[.int .u32 (s.id : Int), .int .u32 (s.z : Int)]
        have q11 := Q11.out.kp (kp_row y3 g10 #[.int .u32 (s.id : Int), .int .u32 (s.z : Int)]) (fun hm => HNE.out (by simpa using hm))
        have bc := row_below HCU.out Lg10.out #[.int .u32 (s.id : Int), .int .u32 (s.z : Int)]
        generalize y3.setRow g10 #[.int .u32 (s.id : Int), .int .u32 (s.z : Int)] = y8 at *
        have Q10 := Lib.hid q10
        have Q11 := Lib.hid q11
        have HCU := Lib.hid bc
        clear q10 q11 bc
        refine plan_last (by rfl) (by kernel_rfl) ?_
        go_wp2_with (first
          | (refine wpList_storeB rfl 88 (.tmp 11) (.tmp 66) rfl rfl rfl Q11.out (by rw [HSZ.out]; kernel_rfl) (by rw [HSZ.out]; rfl) HONE.out ?_)
          | fail)
        have q11 := Q11.out.row A9
        have q10 := Q10.out.kp (kp_row y8 g11 A9) (fun hm => (Ne.symm HNE.out) (by simpa using hm))
        have bc := row_below HCU.out Lg11.out A9
        generalize y8.setRow g11 A9 = y9 at *
        refine plan_end ?_
        go_wp2_with fail
        go_meet
        case rel => exact ⟨g10, g11, rfl, rfl, bc, q10, q11⟩
      · go_wp2_with fail
        have bb := belowAlloc (Below.refl y1.heap.size y1) (.cells #[.int .u32 0, .int .u32 0] 41)
        have qq := Blk.new y1 41 #[.int .u32 0, .int .u32 0]
        generalize y1.alloc (.cells #[.int .u32 0, .int .u32 0] 41) = y2 at *
        obtain ⟨g10, hg10⟩ : ∃ g, g = y1.heap.size := ⟨_, rfl⟩
        rw [← hg10] at qq ⊢
        have Q11 := Lib.hid (Q11.out.after bb)
        have Q10 := Lib.hid qq
        have Lg10 : Hid (w3.heap.size ≤ g10) := Lib.hid (by rw [hg10]; exact HCU.out.size)
        have HCU := Lib.hid (belowGo HCU.out bb)
        clear bb qq hg10
        go_wp2_with fail
        refine ⟨HCU.out, ?_⟩
        refine plan_act (by rfl) ?_
        go_wp2_with fail
        refine (HOF.out y2 HCU.out).mono ?_
        rintro e y3 ⟨he, bb⟩
        rw [HPC.out] at he
        subst he
        have HCU := Lib.hid (belowGo HCU.out bb)
        have Q11 := Lib.hid (Q11.out.after bb)
        have Q10 := Lib.hid (Q10.out.after bb)
        clear bb
        go_wp2_with fail
        refine ⟨HCU.out, ?_⟩
        refine plan_last (by rfl) (by kernel_rfl) ?_
        go_wp2_with (first
          | (refine wpList_storeB rfl 41 (.tmp 10) (.tmp 63) rfl rfl rfl Q10.out Try.szLoc rfl (by simp [Value.oneCell']) ?_)
          | fail)
        have HNE := Lib.hid (Q11.out.ne_ Q10.out (by decide))
        have q10 := Q10.out.row #[.int .u32 (s.id : Int), .int .u32 (s.z : Int)]
        have q11 := Q11.out.kp (kp_row y3 g10 #[.int .u32 (s.id : Int), .int .u32 (s.z : Int)]) (fun hm => HNE.out (by simpa using hm))
        have bc := row_below HCU.out Lg10.out #[.int .u32 (s.id : Int), .int .u32 (s.z : Int)]
        generalize y3.setRow g10 #[.int .u32 (s.id : Int), .int .u32 (s.z : Int)] = y8 at *
        have Q10 := Lib.hid q10
        have Q11 := Lib.hid q11
        have HCU := Lib.hid bc
        clear q10 q11 bc
        refine plan_last (by rfl) (by kernel_rfl) ?_
        go_wp2_with (first
          | (refine wpList_storeB rfl 88 (.tmp 11) (.tmp 66) rfl rfl rfl Q11.out (by rw [HSZ.out]; kernel_rfl) (by rw [HSZ.out]; rfl) HONE.out ?_)
          | fail)
        have q11 := Q11.out.row A9
        have q10 := Q10.out.kp (kp_row y8 g11 A9) (fun hm => (Ne.symm HNE.out) (by simpa using hm))
        have bc := row_below HCU.out Lg11.out A9
        generalize y8.setRow g11 A9 = y9 at *
        refine plan_end ?_
        go_wp2_with fail
        go_meet
        case rel => exact ⟨g10, g11, rfl, rfl, bc, q10, q11⟩
  obtain ⟨g10, g11, rfl, rfl, hb4, q10, q11⟩ := hcut
  obtain ⟨w4, hw4⟩ : ∃ W, W = wc := ⟨_, rfl⟩
  subst hw4
  obtain ⟨pv, hpv⟩ : ∃ v, v = (mget st.ahead x.it.l).getD (0, 0) := ⟨_, rfl⟩
  have HPV := Lib.hid hpv
  have pm4 := PM3.out.after hb4
  have PM4 := Lib.hid pm4
  have Q74 := Lib.hid (Q73.out.after hb4)
  have Q10 := Lib.hid q10
  have Q11 := Lib.hid q11
  have HB4 := Lib.hid (belowTrans HB3.out hb4 (Nat.le_trans PM3.out.lo.1 (Nat.le_of_lt PM3.out.blk.lt)))
  obtain ⟨As, cs, rfl, -⟩ := own_cap pm4.steps
  obtain ⟨ns, hns⟩ : ∃ n, n = st.steps.length := ⟨_, rfl⟩
  have HNS := Lib.hid hns
  have HLK : Hid (∀ W, Below w4.heap.size w4 W → (Instr.lookup 84 (.map (some bm)) (.agg A9) false).run Try.prog W = .ok (.agg #[.int .u32 (pv.1 : Int), .int .u32 (pv.2 : Int)]) W) := Lib.hid (fun W hW => by
    have hz := (zero_of_info (P := Try.prog) (t := 41) (n := 2) (v := .agg #[.int .u32 0, .int .u32 0]) (by kernel_rfl)).1 W
    have h1 := (PM4.out.after hW).map.look kpv_inj print_keyed Try.underlying84 hz HK.out (kpv_key HK.out).choose_spec false
    rw [HKV.out] at h1
    rw [h1, HPV.out]
    simp only [Bool.false_eq_true, if_false]
    cases mget st.ahead x.it.l <;> rfl)
  have hnss := SM.out.steps
  rw [← hns] at hnss
  clear hb4 q10 q11 hpv pm4 hns Q73 PM3 HB3 HLS HOF HXR cp1
  have hcur : Below w4.heap.size w4 w4.drew := ⟨rfl, rfl, rfl, Nat.le_refl _, fun _ _ => rfl⟩
  go_wp2_with (first
    | (refine wp_region_plan (fun W => Below w4.heap.size w4 W) [.calms [0, 2], .read 1, .read 3, .read 4, .act 5, .act 6, .act 7, .act 8, .act 9, .calms [10], .act 11] (by kernel_rfl) (by rfl) (by kernel_rfl) (by kernel_rfl) hcur ?_)
    | fail)
  generalize w4.drew = w5 at *
  have HCU := Lib.hid hcur
  have PM5 := Lib.hid (PM4.out.after hcur)
  have Q75 := Lib.hid (Q74.out.after hcur)
  have Q105 := Lib.hid (Q10.out.after hcur)
  have Q115 := Lib.hid (Q11.out.after hcur)
  have HB5 := Lib.hid (belowTrans HB4.out hcur (Nat.le_trans PM4.out.lo.1 (Nat.le_of_lt PM4.out.blk.lt)))
  clear hcur
  refine plan_calms (by simp [calmRow, need]; rfl) ?_
  go_wp2_with fail
  refine plan_read (by rfl) (.slice As ns cs) (by rfl) (fun W hW => exec_load rfl rfl (by kernel_rfl) (by rw [HNS.out]; exact (PM4.out.after hW).blk.cell 0)) ?_
  refine plan_read (by rfl) (.agg #[.int .u32 (s.id : Int), .int .u32 (s.z : Int)]) (by rfl) (fun W hW => exec_load_blk rfl rfl (Q10.out.after hW) Try.underlying41 rfl (by kernel_rfl)) ?_
  refine plan_read (by rfl) (.map (some bm)) (by rfl) (fun W hW => exec_load rfl rfl (by kernel_rfl) ((PM4.out.after hW).box.cell 0)) ?_
  refine plan_act (by rfl) ?_
  refine wpList_value rfl (exec_load_blk rfl rfl Q115.out Try.underlying88 rfl (by rw [HSZ.out]; kernel_rfl)) ?_
  go_wp2_with fail
  refine ⟨HCU.out, ?_⟩
  refine plan_act (by rfl) ?_
  refine wpList_value rfl (exec_lookup rfl (HLK.out _ HCU.out)) ?_
  go_wp2_with fail
  refine ⟨HCU.out, ?_⟩
  refine plan_act (by rfl) ?_
  refine wpList_value (v := .agg #[.int .i64 (i : Int), .int .u32 (s.id : Int), .int .u32 (s.z : Int), .int .u32 (pv.1 : Int), .int .u32 (pv.2 : Int)]) rfl (exec_build rfl (by kernel_rfl)) ?_
  go_wp2_with fail
  refine ⟨HCU.out, ?_⟩
  refine plan_act (by rfl) ?_
  go_wp2_with fail
  refine ⟨belowGo HCU.out (belowAlloc (Below.refl w5.heap.size w5) _), ?_⟩
  have ows : Ow w5 B 43 5 (.slice As ns cs) ns (spCells st.steps) := by rw [HNS.out]; exact PM5.out.steps
  have OWS : Hid (Ow _ _ _ _ _ _ _) := Lib.hid ows
  clear ows
  refine plan_last (by rfl) (by kernel_rfl) ?_
  refine wpList_push eltStep rfl (.tmp 68) (.tmp 75) rfl (W := w5) rfl OWS.out rfl rfl (by simp [Value.oneCell']) (by omega) (by unfold maxLen; omega) HB5.out (Nat.le_trans PM5.out.lo.1 (Nat.le_of_lt PM5.out.blk.lt)) ?_
  intro v6 w6 o6 b6 g6 x6
  obtain ⟨A6, c6, rfl, -⟩ := own_cap o6
  rw [HNS.out] at o6 g6
  have pm6 := PM5.out.pushStep ⟨i, (s.id, s.z), pv⟩ g6 o6
  rw [← HNS.out] at pm6
  have PM6 := Lib.hid pm6
  have HB6 := Lib.hid b6
  have qp : Blk w6 gp 33 #[.slice As st.steps.length cs, .slice (some ⟨gv, 0, none⟩) OP.length c9] := PM5.out.blk.kp (Kp.grown g6) fun hm => own_blk_ne PM5.out.blk PM5.out.steps (by decide) (List.mem_singleton.1 hm)
  have cg := qp.cell 0
  have fg := qp.frozen 0
  go_wp2_with fail
  refine plan_calms (by simp [calmRow, need]; rfl) ?_
  go_wp2_with fail
  refine plan_last (by rfl) (by kernel_rfl) ?_
  go_wp2_with fail
  refine plan_end ?_
  have q7a := Q75.out.kp (Kp.grown g6) fun hm => own_blk_ne Q75.out PM5.out.steps (by decide) (List.mem_singleton.1 hm)
  have q11a := Q115.out.kp (Kp.grown g6) fun hm => own_blk_ne Q115.out PM5.out.steps (by decide) (List.mem_singleton.1 hm)
  have q10a := Q105.out.kp (Kp.grown g6) fun hm => own_blk_ne Q105.out PM5.out.steps (by decide) (List.mem_singleton.1 hm)
  have Q7 := Lib.hid (q7a.kp (Kp.set w6 ⟨gp, 0, none⟩ (.slice A6 (ns + 1) c6)) fun hm => (q7a.ne_ qp (by decide)) (by simpa using hm))
  have Q10 := Lib.hid (q10a.kp (Kp.set w6 ⟨gp, 0, none⟩ (.slice A6 (ns + 1) c6)) fun hm => (q10a.ne_ qp (by decide)) (by simpa using hm))
  have Q11 := Lib.hid (q11a.kp (Kp.set w6 ⟨gp, 0, none⟩ (.slice A6 (ns + 1) c6)) fun hm => (q11a.ne_ qp (by decide)) (by simpa using hm))
  have HB7 := Lib.hid (b6.setCell (p := ⟨gp, 0, none⟩) PM5.out.lo.1 (.slice A6 (ns + 1) c6))
  generalize w6.setCell ⟨gp, 0, none⟩ (.slice A6 (ns + 1) c6) = w7 at *
  clear q7a q10a q11a qp cg fg g6 o6 x6 b6 pm6 PM5 Q75 Q105 Q115 OWS
  obtain ⟨o8, hr8, m8⟩ := PM6.out.map.store kpv_inj print_keyed Try.underlying84 HK.out (kpv_key HK.out).choose_spec (s.id, s.z)
  rw [HKV.out] at hr8
  have HR8 := Lib.hid hr8
  have cbx : w7.cell? ⟨ga, 0, none⟩ = some (.map (some bm)) := PM6.out.box.cell 0
  clear hr8
  go_upto_region 9 with (first
    | (refine wpList_value rfl (exec_load rfl rfl (by kernel_rfl) cbx) ?_)
    | (refine wpList_value rfl (exec_load_blk rfl rfl Q11.out Try.underlying88 rfl (by rw [HSZ.out]; kernel_rfl)) ?_)
    | (refine wpList_value rfl (exec_load_blk rfl rfl Q10.out Try.underlying41 rfl (by kernel_rfl)) ?_)
    | (refine wpList_skip rfl (exec_update rfl HR8.out) ?_)
    | fail)
  have q7s := Q7.out.kp (Kp.setBlock w7 bm o8) fun hm => mpb_ne PM6.out.map.1 Q7.out (by simpa using hm : g7 = bm).symm
  have HB8 := Lib.hid (setBlock_below HB7.out PM6.out.lo.2.2 o8)
  have pm8 := PM6.out.putAhead o8 m8
  simp only [HR9.out, List.length_append, List.length_singleton, HDL.out] at pm8
  have PM8 := Lib.hid pm8
  have Q78 := Lib.hid q7s
  clear q7s pm8 m8 HR8 cbx Q10 Q11 Q7 PM6 HB7
  generalize setBlock w7 bm o8 = w8 at *
  have hcur : Below w8.heap.size w8 w8.drew := ⟨rfl, rfl, rfl, Nat.le_refl _, fun _ _ => rfl⟩
  obtain ⟨hs1, hs2, hs3⟩ := HSB.out
  go_wp2_with (first
    | (refine wp_region_plan (fun W => Below w8.heap.size w8 W) [.calms [0, 4], .read 1, .calms [2], .read 3, .act 5, .calms [6, 7], .act 8, .calms [9], .act 10] (by kernel_rfl) (by rfl) (by kernel_rfl) (by kernel_rfl) hcur ?_)
    | fail)
  generalize w8.drew = w9 at *
  have PM9 := Lib.hid (PM8.out.after hcur)
  have Q79 := Lib.hid (Q78.out.after hcur)
  have HB9 := Lib.hid (belowTrans HB8.out hcur (Nat.le_trans PM8.out.lo.1 (Nat.le_of_lt PM8.out.blk.lt)))
  have HCU := Lib.hid hcur
  obtain ⟨c91, f91⟩ := PM9.out.sealCell HDL.out 1 (by omega) (v := .int .u32 (s.z : Int)) rfl
  clear hcur
  refine plan_calms (by simp [calmRow, need]; rfl) ?_
  go_wp2_with fail
  refine plan_read (by rfl) (.pointer (some ⟨gv, k * 5, none⟩)) (by rfl) (fun W hW => exec_nil rfl rfl) ?_
  refine plan_calms (by simp [calmRow, need]; rfl) ?_
  go_wp2_with fail
  refine plan_read (by rfl) (.int .u32 (s.z : Int)) (by rfl) (fun W hW => exec_load rfl rfl (by kernel_rfl) ((PM8.out.after hW).sealCell HDL.out 1 (by omega) rfl).1) ?_
  refine plan_act (by rfl) ?_
  refine wpList_value (v := .int .i64 (z : Int)) rfl (exec_load rfl rfl (by kernel_rfl) (Q79.out.cell 3)) ?_
  go_wp2_with fail
  refine ⟨HCU.out, ?_⟩
  refine plan_calms (by simp [calmRow, need, chk]; rfl) ?_
  go_wp2_with fail
  refine plan_act (by rfl) ?_
  go_wp2_with fail
  refine ⟨HCU.out, ?_⟩
  refine plan_calms (by simp [calmRow, need]; rfl) ?_
  go_wp2_with fail
  refine plan_last (by rfl) (by kernel_rfl) ?_
  go_wp2_with fail
  refine plan_end ?_
  have pm10 := PM9.out.setSeal (s' := ⟨s.id, s.z + z, s.m, s.f, s.l⟩) HDL.out (j := 1) (by omega) (.int .u32 ((s.z : Int) + (z : Int))) (by unfold Se.cells; simp)
  have gvB : B ≤ gv := (own_ptr PM9.out.seals (by simp)).choose_spec.choose_spec.2.2 |> fun h => by
    have h9 := (own_ptr PM9.out.seals (by simp)).choose_spec.choose_spec.1
    injection h9 with h9
    injection h9 with h9
    injection h9 with h9
    rw [h9]; exact h
  have HGV := Lib.hid gvB
  have q710 := Q79.out.kp (Kp.set w9 ⟨gv, k * 5 + 1, none⟩ (.int .u32 ((s.z : Int) + (z : Int)))) fun hm => own_blk_ne Q79.out PM9.out.seals (by decide) (List.mem_singleton.1 hm)
  have HB10 := Lib.hid (HB9.out.setCell (p := ⟨gv, k * 5 + 1, none⟩) gvB (.int .u32 ((s.z : Int) + (z : Int))))
  have PM10 := Lib.hid pm10
  have Q710 := Lib.hid q710
  clear pm10 q710 gvB PM9 Q79 HB9 HCU c91 f91 PM8 Q78 HB8
  generalize w9.setCell ⟨gv, k * 5 + 1, none⟩ (.int .u32 ((s.z : Int) + (z : Int))) = w10 at *
  obtain ⟨c10, f10⟩ := PM10.out.sealCell HDL.out 2 (by omega) (v := .int .u32 (s.m : Int)) rfl
  go_upto_region 11 with fail
  have pm11 := PM10.out.setSeal (s' := ⟨s.id, s.z + z, s.m + 1, s.f, s.l⟩) HDL.out (j := 2) (by omega) (.int .u32 ((s.m : Int) + 1)) (by unfold Se.cells; simp)
  have q711 := Q710.out.kp (Kp.set w10 ⟨gv, k * 5 + 2, none⟩ (.int .u32 ((s.m : Int) + 1))) fun hm => own_blk_ne Q710.out PM10.out.seals (by decide) (List.mem_singleton.1 hm)
  have HB11 := Lib.hid (HB10.out.setCell (p := ⟨gv, k * 5 + 2, none⟩) HGV.out (.int .u32 ((s.m : Int) + 1)))
  have PM11 := Lib.hid pm11
  have c7 := q711.cell 1
  clear pm11 q711 PM10 Q710 HB10 c10 f10
  generalize w10.setCell ⟨gv, k * 5 + 2, none⟩ (.int .u32 ((s.m : Int) + 1)) = w11 at *
  obtain ⟨c11, f11⟩ := PM11.out.sealCell HDL.out 4 (by omega) (v := .int .u64 (s.l : Int)) rfl
  go_wp2_with fail
  have pm12 := PM11.out.setSeal (s' := ⟨s.id, s.z + z, s.m + 1, s.f, x.it.q⟩) HDL.out (j := 4) (by omega) (.int .u64 (x.it.q : Int)) (by unfold Se.cells; simp)
  have hb12 := HB11.out.setCell (p := ⟨gv, k * 5 + 4, none⟩) HGV.out (.int .u64 (x.it.q : Int))
  rw [HPV.out, ← HLAY.out] at pm12
  exact bodyPost_end (results_none rfl _ _ _) rfl ⟨rfl, ⟨_, _, pm12⟩, hb12⟩
end Go.Proofs.Ytkkhojealihghaa
