/- Package plan: kept. For every row of items that may be, every row of numbers. -/
import Derived.Test.YtkkhojealihghaaPlLaw
import Derived.Test.YtkkhojealihghaaByK
import Derived.Test.YtkkhojealihghaaSn4
import Derived.Test.YtkkhojealihghaaKof
import Derived.Test.YtkkhojealihghaaPlanP
import Derived.Test.YtkkhojealihghaaMid
import Derived.Deep.CutRange
import Derived.Deep.WholeRow
namespace Go.Proofs.Ytkkhojealihghaa
open Go.RowKit
open Go.ChangeMaps (setBlock)
attribute [local go_sem] Oper.semAt_some

/-- an item as it lies in a row -/
structure ItX where
  it : It
  A : Option Addr
  c : Nat
def ItX.cells (x : ItX) : List Value := [.slice x.A x.it.l.length x.c, .int .u64 (x.it.q : Int), .int .i64 x.it.k, .int .i64 x.it.z]
def ItX.ok (x : ItX) (w : World) : Prop := Rd w w.heap.size 1 x.A x.it.l.length (bcells x.it.l) ∧ x.it.l.length ≤ x.c
def itCells (X : List ItX) : List Value := X.flatMap ItX.cells
theorem ItX.ok.after {x : ItX} {w w' : World} (h : x.ok w) (hb : Below w.heap.size w w') : x.ok w' := ⟨(h.1.below hb (Nat.le_refl _)).more hb.size, h.2⟩
theorem itAtM {X : List ItX} {w : World} {p off j : Nat} {x : ItX} (hc : ∀ k u, (itCells X)[k]? = some u → w.cell? ⟨p, off + k, none⟩ = some u) (hx : X[j]? = some x) : At w p (off + j * 4) x.cells := fun k u hu => by
  have hk : k < 4 := (List.getElem?_eq_some_iff.1 hu).1
  have := flatMap_get ItX.cells 4 (fun _ => rfl) X j k hk
  rw [Nat.add_assoc]
  refine hc _ _ ?_
  unfold itCells
  rw [this, hx]
  exact hu
def ixC (i : Nat) : List Value := [.int .i64 (i : Int)]
abbrev ByP (w : World) (B b : Nat) (D : List (List UInt8 × (Value × List Nat))) : Prop := ByK Try.prog 88 3 1 KOk kpv ixC w B b D
theorem Try.infoInt : (Try.prog.info? 3).map (fun i => (i.zero, i.size, i.bytes)) = some (some (.int .i64 0), 1, 8) := by kernel_rfl
theorem eltInt : Elt Try.prog 39 3 (.int .i64 0) 1 8 := ⟨Try.underlying39, Try.infoInt, rfl, by omega⟩
theorem Try.infoBool : (Try.prog.info? 4).map (fun i => (i.zero, i.size, i.bytes)) = some (some (.bool false), 1, 1) := by kernel_rfl
theorem Try.infoVer : (Try.prog.info? 105).map (fun i => (i.zero, i.size, i.bytes)) = some (some (.agg #[.int .u64 0, .int .i64 0]), 2, 16) := by kernel_rfl
theorem eltVer : Elt Try.prog 103 105 (.agg #[.int .u64 0, .int .i64 0]) 2 16 := ⟨Try.underlying103, Try.infoVer, rfl, by omega⟩

theorem vcells_next {V : List Sn.Ver} {k : Nat} {a b : Int} (h : V[k]? = some (a, b)) : Sn.vcells (V.take (k + 1)) = Sn.vcells (V.take k) ++ #[Value.int .u64 a, Value.int .i64 b].toList := by
  unfold Sn.vcells
  rw [List.take_add_one, h, List.flatMap_append]
  rfl
set_option maxRecDepth 100000 in
set_option maxHeartbeats 16000000 in
theorem keptP_any (X : List ItX) (A : Option Addr) (n c : Nat) (at_ : List Int) (A' : Option Addr) (n' c' : Nat) (w : World) (hn : X.length = n) (hnm : n ≤ 1000) (hm : mayP (X.map ItX.it) = true) (hr : Rd w w.heap.size 4 A n (itCells X)) (hx : ∀ x ∈ X, x.ok w)
    (hn' : at_.length = n') (hr' : Rd w w.heap.size 1 A' n' (at_.map (.int .u64))) :
    Calls Try.prog 27 #[.slice A n c, .slice A' n' c'] w (RetOwn w 4 1 n ((keptP (X.map ItX.it) at_).map .bool)) := by
  obtain ⟨its, hits⟩ : ∃ l, l = X.map ItX.it := ⟨_, rfl⟩
  rw [← hits] at hm ⊢
  have HITS := Lib.hid hits
  have HM := Lib.hid hm
  have HN := Lib.hid hn
  have HR := Lib.hid hr
  have HX := Lib.hid hx
  have HN' := Lib.hid hn'
  have HR' := Lib.hid hr'
  have HNM := Lib.hid hnm
  have hkok : ∀ x ∈ X, KOk x.it.l := fun x hx => by
    obtain ⟨i, hi, he⟩ := List.mem_iff_getElem.1 hx
    have := (mayIt_at its 0 hm i x.it (by rw [hits, List.getElem?_map, List.getElem?_eq_getElem hi, he]; rfl)).1
    unfold mayB at this
    simp at this
    exact this
  have HKOK := Lib.hid hkok
  have m1 := (ByK.new (γ := Nat) w : ByP _ _ _ [])
  have b1 := belowAlloc (Below.refl w.heap.size w) (.map #[] 0)
  have hmk : ∀ W, (Instr.makeMap 102 none).run Try.prog W = .ok (.map (some W.heap.size)) (W.alloc (.map #[] 0)) := fun W => run_makeMap _ W
  clear hits hm hn hr hx hn' hr' hkok hnm
  go_enter Try.func27, Try.ntmps27
  go_upto_region 2 with fail
  generalize w.alloc (.map #[] 0) = w1 at *
  obtain ⟨bb, hbb⟩ : ∃ b, b = w.heap.size := ⟨_, rfl⟩
  rw [← hbb]
  have BY1 : Hid (ByP w1 w.heap.size bb []) := Lib.hid (by rw [hbb]; exact m1)
  have B1 := Lib.hid b1
  clear hbb m1 b1 hmk
  go_wp2_with fail
  go_loopw [20] (fun i wr => ∃ (j : Nat) (D : List (List UInt8 × (Value × List Nat))), j ≤ n ∧ i = .int .i64 (j : Int) ∧ ByP wr w.heap.size bb D ∧ (∀ key, (curK D key).2 = grpTo its j key) ∧ (∀ p ∈ D, p.2.2 ≠ []) ∧ Below w.heap.size w wr) (fun i _ => n - (intOf i).toNat)
  case atStart => exact ⟨0, [], Nat.zero_le _, rfl, BY1.out, fun _ => rfl, (fun p hp => by cases hp), B1.out⟩
  case round =>
    clear BY1 B1
    obtain ⟨j, D, hj, rfl, by_, hcur, hne, hb⟩ := hrel
    have BY : Hid (ByP _ _ _ _) := Lib.hid by_
    have HCUR := Lib.hid hcur
    have HNE := Lib.hid hne
    have HB := Lib.hid hb
    clear by_ hcur hne hb
    have hnm := HNM.out
    by_cases hin : j < n
    · have i1 : (j : Int) < (n : Int) := by omega
      obtain ⟨p, off, rfl, hpl, hcell⟩ := HR.out.2.2 (by omega)
      obtain ⟨x, hx0⟩ : ∃ x, X[j]? = some x := ⟨X[j]'(by rw [HN.out]; exact hin), List.getElem?_eq_getElem _⟩
      have hmem : x ∈ X := List.mem_of_getElem? hx0
      have HAT : Hid (At wr p (off + j * 4) [.slice x.A x.it.l.length x.c, .int .u64 (x.it.q : Int), .int .i64 x.it.k, .int .i64 x.it.z]) := Lib.hid (itAtM (X := X) (fun k u hu => (HB.out.cell (p := ⟨p, off + k, none⟩) hpl).trans (hcell k u hu)) hx0)
      have hka : keyAt its j = x.it.l := by unfold keyAt; rw [itAt_eq (show its[j]? = some x.it by rw [HITS.out, List.getElem?_map, hx0]; rfl)]
      have HKA := Lib.hid hka
      have HXO := Lib.hid ((HX.out x hmem).after HB.out)
      have HKO := Lib.hid (HKOK.out x hmem)
      clear hx0 hmem hka hcell
      go_upto_region 5 with (first
        | (refine wpList_value rfl (exec_load_mid rfl rfl HAT.out Try.underlying47 rfl (by kernel_rfl)) ?_)
        | fail)
      have b2 := belowAlloc (Below.refl wr.heap.size wr) (.cells #[.slice x.A x.it.l.length x.c, .int .u64 (x.it.q : Int), .int .i64 x.it.k, .int .i64 x.it.z] 47)
      have q2 := Blk.new wr 47 #[.slice x.A x.it.l.length x.c, .int .u64 (x.it.q : Int), .int .i64 x.it.k, .int .i64 x.it.z]
      generalize wr.alloc (.cells #[.slice x.A x.it.l.length x.c, .int .u64 (x.it.q : Int), .int .i64 x.it.k, .int .i64 x.it.z] 47) = w2 at *
      have hof := of_any x.it.l x.A x.it.l.length x.c w2 (HXO.out.after b2).2 (by have := HKO.out.2; omega) (HXO.out.after b2).1
      have HOF := Lib.hid hof
      obtain ⟨g2, hg2⟩ : ∃ g, g = wr.heap.size := ⟨_, rfl⟩
      rw [← hg2] at q2 ⊢
      have c20 := q2.cell 0
      have B2 := Lib.hid b2
      clear hof hg2 b2 HAT
      go_wp2_with fail
      refine HOF.out.mono ?_
      rintro e w3 ⟨he, b3⟩
      have hpc : prC x.it.l = pcA x.it.l.length (pws x.it.l) := prC_pc x.it.l (mayB_ok HKO.out)
      rw [hpc] at he
      subst he
      have hsz : (pcA x.it.l.length (pws x.it.l)).size = 9 := by unfold pcA; simp [pws_len]
      have hone : (pcA x.it.l.length (pws x.it.l)).all (·.oneCell') = true := by unfold pcA; simp [Value.oneCell']
      have hkv : kpv x.it.l = .agg (pcA x.it.l.length (pws x.it.l)) := rfl
      obtain ⟨A9, hA9⟩ : ∃ A, A = pcA x.it.l.length (pws x.it.l) := ⟨_, rfl⟩
      rw [← hA9] at hsz hone hkv ⊢
      have HSZ := Lib.hid hsz
      have HONE := Lib.hid hone
      have HKV := Lib.hid hkv
      have HC3 := Lib.hid (belowGo B2.out b3)
      have q3 := Blk.new w3 88 #[.int .u8 0, .int .u64 0, .int .u64 0, .int .u64 0, .int .u64 0, .int .u64 0, .int .u64 0, .int .u64 0, .int .u64 0]
      have b4 := belowAlloc (Below.refl w3.heap.size w3) (.cells #[.int .u8 0, .int .u64 0, .int .u64 0, .int .u64 0, .int .u64 0, .int .u64 0, .int .u64 0, .int .u64 0, .int .u64 0] 88)
      clear HOF b3 hsz hone hkv hA9 hpc c20 q2 B2
      go_upto_region 6 with (first
        | (refine wpList_storeB rfl 88 (.tmp 8) (.tmp 27) rfl rfl rfl q3 (by rw [HSZ.out]; kernel_rfl) (by rw [HSZ.out]; rfl) HONE.out ?_)
        | fail)
      have q4 := q3.row A9
      have b5 := row_below b4 (Nat.le_refl _) A9
      generalize (w3.alloc (.cells #[.int .u8 0, .int .u64 0, .int .u64 0, .int .u64 0, .int .u64 0, .int .u64 0, .int .u64 0, .int .u64 0, .int .u64 0] 88)).setRow w3.heap.size A9 = w5 at *
      obtain ⟨g5, hg5⟩ : ∃ g, g = w3.heap.size := ⟨_, rfl⟩
      rw [← hg5] at q4 ⊢
      have Q5 := Lib.hid q4
      have HC5 := Lib.hid (belowGo HC3.out b5)
      clear q3 b4 q4 b5 hg5 HC3
      have b6 := belowAlloc (Below.refl w5.heap.size w5) (.cells #[.int .i64 (j : Int)] 3)
      have q6 := Blk.new w5 3 #[.int .i64 (j : Int)]
      have BY6 : Hid (ByP _ _ _ _) := Lib.hid (BY.out.after (belowGo HC5.out b6))
      have HB6 := Lib.hid (belowGo HB.out (belowGo HC5.out b6))
      obtain ⟨ob, st, hen, kb, owc, hst⟩ := BY6.out.entry kpv_inj print_keyed Try.underlying102 (fun W => (zero_of_info (P := Try.prog) (t := 39) (n := 1) (v := .slice none 0 0) (by kernel_rfl)).1 W) HKO.out (kpv_key HKO.out).choose_spec j
      rw [HKV.out] at hen
      have hq6 := q6.kp kb (fun hm => (mpb_ne BY6.out.map.1 q6 (by simpa using (List.mem_singleton.1 hm).symm)))
      have hr6 : Rd (setBlock (w5.alloc (.cells #[.int .i64 (j : Int)] 3)) bb ob) (setBlock (w5.alloc (.cells #[.int .i64 (j : Int)] 3)) bb ob).heap.size 1 (some ⟨w5.heap.size, 0, none⟩) 1 [.int .i64 (j : Int)] := hq6.rd (by simp) (by unfold maxLen; omega)
      obtain ⟨A8, c8, hcv, -⟩ := own_cap owc
      rw [hcv] at hen
      have HCV := Lib.hid hcv
      have HEN := Lib.hid hen
      have OWC : Hid (Ow _ _ _ _ _ _ _) := Lib.hid owc
      have HST := Lib.hid hst
      have HR6 := Lib.hid hr6
      have HB7 := Lib.hid (setBlock_below HB6.out BY6.out.lo ob)
      have HNL : Hid ((curK D x.it.l).2.length ≤ 1000) := Lib.hid (by rw [HCUR.out]; have := grpTo_le its j x.it.l; have := HNM.out; omega)
      clear b6 q6 hen kb owc hst hq6 hr6 hcv
      go_wp2_with (first
        | (refine wpList_value rfl (exec_load_blk rfl rfl Q5.out Try.underlying88 rfl (by rw [HSZ.out]; kernel_rfl)) ?_)
        | (refine wpList_value rfl (exec_entry rfl HEN.out) ?_)
        | (at_builtin
           refine wpList_app eltInt rfl (.tmp 30) (.tmp 32) rfl HCV.out.symm OWC.out rfl HR6.out (by simp [Value.oneCell']) (by have := HNL.out; omega) (by have := HNL.out; unfold maxLen; omega) HB7.out HB7.out.size ?_
           intro v9 w9 o9 b9 g9 x9
           obtain ⟨o2, hs2, hby2, k2⟩ := HST.out w9 v9 g9 o9 (fun i hi => by
             rcases x9 with x9 | x9
             · exact .inl (x9.symm.trans hi)
             · right
               have hi := x9.symm.trans hi
               injection hi with hi
               rw [setBlock_size] at hi
               omega)
           have HS2 := Lib.hid hs2
           have BY9 : Hid (ByP _ _ _ _) := Lib.hid hby2
           have HB9 := Lib.hid (setBlock_below b9 BY6.out.lo o2)
           clear o9 b9 g9 x9 hs2 hby2 k2)
        | (refine wpList_skip rfl (exec_estore rfl HS2.out) ?_)
        | fail)
      go_roundw
      case rel =>
        refine ⟨j + 1, _, by omega, by go_num, BY9.out, fun key => ?_, fun q hq => ?_, HB9.out⟩
        · rw [curK_put, grpTo_succ, HKA.out]
          by_cases hk : key = x.it.l
          · rw [if_pos hk, if_pos hk.symm]
            show (curK D x.it.l).2 ++ [j] = _
            rw [HCUR.out, hk]
          · rw [if_neg hk, if_neg (fun e => hk e.symm)]
            exact HCUR.out key
        · obtain ⟨y, z⟩ := q
          rcases mem_mput.1 hq with ⟨rfl, rfl⟩ | ⟨_, h⟩
          · simp
          · exact HNE.out _ h
      case measure => simp [intOf]; omega
    · obtain rfl : j = n := by omega
      have own0 := (own_made wr w.heap.size 4 (.bool false) j HB.out.size (by have := HNM.out; unfold maxLen; omega))
      obtain ⟨i0, hi, hz0, hz1, hz2⟩ := info_parts Try.infoBool
      have hmk := fun W => run_make_rowN (P := Try.prog) 91 4 i0 (.bool false) Try.underlying91 hi hz0 .i64 .i64 j j (Nat.le_refl _) (by rw [hz2]; omega) (by omega) W
      rw [hz1] at hmk
      have bm := belowAlloc (Below.refl wr.heap.size wr) (.cells (madeCells #[Value.bool false] j) 4)
      clear hi hz0 hz1 hz2
      go_upto_region 9 with fail
      clear hmk
      obtain ⟨wq, hwq⟩ : ∃ W, W = wr := ⟨_, rfl⟩
      subst hwq
      generalize wq.alloc (.cells (madeCells #[Value.bool false] j) 4) = w4 at *
      obtain ⟨go, hgo⟩ : ∃ g, g = wq.heap.size := ⟨_, rfl⟩
      rw [← hgo] at own0 ⊢
      have hlits : its.length = j := by rw [HITS.out, List.length_map, HN.out]
      have hmemk : ∀ i, i < its.length → keyAt its i ∈ D.map (·.1) := fun i hi => by
        have h1 := HCUR.out (keyAt its i)
        have h2 : i ∈ grpTo its j (keyAt its i) := grp_mem (by omega)
        rw [← h1] at h2
        unfold curK at h2
        cases hg : mget D (keyAt its i) with
        | none => rw [hg] at h2; cases h2
        | some r => exact List.mem_map.2 ⟨_, mget_some hg, rfl⟩
      have own1 : Ow w4 w.heap.size 4 1 (.slice (some ⟨go, 0, none⟩) j j) j ((outP its at_ (D.map (·.1))).map .bool) := by
        rw [outP_first at_ hmemk, hlits, List.map_replicate]
        exact own0
      have BYR := Lib.hid (BY.out.after bm)
      obtain ⟨w0', hrange, rg0, b0, hs0⟩ := BYR.out.map.range Try.underlying102
      have HRANGE := Lib.hid hrange
      obtain ⟨rr, hrr⟩ : ∃ r, r = w4.heap.size := ⟨_, rfl⟩
      rw [← hrr] at HRANGE rg0
      have RG0 := Lib.hid rg0
      have OWN0 : Hid (Ow _ _ _ _ _ _ _) := Lib.hid (Ow.after own1 b0)
      have B0 := Lib.hid (belowGo bm b0)
      have HRR : Hid (wq.heap.size ≤ rr) := Lib.hid (by rw [hrr]; exact bm.size)
      have HGO : Hid (wq.heap.size ≤ go) := Lib.hid (by rw [hgo]; exact Nat.le_refl _)
      have HL := Lib.hid hlits
      have HND : Hid ((D.map (·.1)).Nodup) := Lib.hid BY.out.map.nodup
      clear own0 own1 hmemk hlits hgo hrange rg0 b0 hs0 hrr bm
      go_wp2_with (first
        | (refine wpList_value rfl (exec_range rfl HRANGE.out) ?_)
        | fail)
      go_frame
      go_loopw [] (fun wx => ∃ T, Rg wx bb rr kpv (fun p : Value × List Nat => p.1) T ∧ (∀ p ∈ T, p ∈ D) ∧ (T.map (·.1)).Nodup ∧ Ow wx w.heap.size 4 1 (.slice (some ⟨go, 0, none⟩) j j) j ((outP its at_ (T.map (·.1))).map .bool) ∧ Below wq.heap.size wq wx) (fun wx => wx.rangeLeft bb rr)
      case atStart => exact ⟨D, RG0.out, fun _ h => h, HND.out, OWN0.out, B0.out⟩
      case round =>
        clear RG0 OWN0 B0 HRANGE
        obtain ⟨T, rg, hT, hnd, ow, hbx⟩ := hrel
        rcases rg.next (P := Try.prog) 0 with ⟨hnil, hrun⟩ | ⟨q, T', w1', hq, hperm, hrun, rg1, k1, hs1, hent⟩
        · subst hnil
          rw [List.map_nil, outP_nil] at ow
          have HN1 := Lib.hid hrun
          have OW : Hid (Ow _ _ _ _ _ _ _) := Lib.hid ow
          have HBX := Lib.hid hbx
          clear rg hT hnd ow hrun hbx
          go_wp2_with (first
            | (refine wpList_value rfl (exec_next rfl HN1.out) ?_)
            | fail)
          exact bodyPost_ret (results_tmp rfl _ _ _) rfl ⟨.slice (some ⟨go, 0, none⟩) j j, rfl, OW.out, HB.out.trans (HBX.out.mono HB.out.size)⟩
        · obtain ⟨ch, vv, ls⟩ := q
          have hqD := hT _ hq
          have hw1 := hbx.trans (k1.below (fun i hi => by have := HRR.out; simp at hi; omega) hbx.size)
          have hT' : ∀ p ∈ T', p ∈ D := fun p hp => hT p (hperm.mem_iff.2 (List.mem_cons_of_mem _ hp))
          have hlen : T.length = T'.length + 1 := by rw [hperm.length_eq]; rfl
          have hpk : (T.map (·.1)).Perm (ch :: T'.map (·.1)) := hperm.map _
          have hnd' := hpk.nodup_iff.1 hnd
          rw [List.nodup_cons] at hnd'
          have hKK : ∀ y, y ∈ T.map (·.1) ↔ y = ch ∨ y ∈ T'.map (·.1) := fun y => by rw [hpk.mem_iff, List.mem_cons]
          have hcq : curK D ch = (vv, ls) := by
            unfold curK
            have : mget D ch = some (vv, ls) := by
              cases hg : mget D ch with
              | none => exact absurd hqD (mget_none hg)
              | some r => rw [nodup_snd HND.out (mget_some hg) hqD]
            rw [this]
            rfl
          have hls : ls = grpTo its its.length ch := by have := HCUR.out ch; rw [hcq] at this; rw [HL.out]; exact this
          have ov : Ow wq w.heap.size 3 1 vv ls.length (ls.flatMap ixC) := BY.out.own _ hqD
          have hls0 : ls ≠ [] := HNE.out _ hqD
          have HNEm : Hid (0 < ls.length) := Lib.hid (List.length_pos_iff.2 hls0)
          obtain ⟨Av, cv, rfl, -⟩ := own_cap ov
          obtain ⟨m, hm⟩ : ∃ m, m = ls.length := ⟨_, rfl⟩
          dsimp only at hrun hent
          rw [← hm] at ov hrun hent
          unfold kpv at hrun hent
          obtain ⟨gv, c9, he, -, -⟩ := own_ptr ov (by have : 0 < ls.length := List.length_pos_iff.2 hls0; omega)
          injection he with he he2 he3
          subst he he3
          have HLC : Hid (∀ (W : World) (k i : Nat), Below wq.heap.size wq W → ls[k]? = some i → W.cell? ⟨gv, k, none⟩ = some (.int .i64 (i : Int))) := Lib.hid (fun W k i hW hk => by
            have h9 := flatMap_get ixC 1 (fun _ => rfl) ls k 0 (by omega)
            have h10 : (ls.flatMap ixC)[k * 1 + 0]? = some (.int .i64 (i : Int)) := by rw [h9, hk]; rfl
            have := Ow.cell (Ow.after ov hW) rfl (by have := (List.getElem?_eq_some_iff.1 hk).1; omega) h10
            rwa [Nat.zero_add, Nat.mul_one, Nat.add_zero] at this)
          have hm1000 : m ≤ 1000 := by rw [hm, hls, HL.out]; have := grpTo_le its j ch; omega
          have own1 := Ow.kp ow k1 fun i hi hm => rg.ne_own ow ((List.mem_singleton.1 hm).symm.trans hi.symm)
          rw [← outM_0 its at_ hKK] at own1
          have HRG := Lib.hid rg
          have RG1 := Lib.hid rg1
          have HW1 := Lib.hid hw1
          have HT' := Lib.hid hT'
          have HLEN := Lib.hid hlen
          have HNK := Lib.hid hnd'
          have HLS := Lib.hid hls
          have HM' := Lib.hid hm
          have HN1 := Lib.hid hrun
          have HE1 := Lib.hid (hent w1' rfl rfl)
          have OWN1 : Hid (Ow _ _ _ _ _ _ _) := Lib.hid own1
          clear rg rg1 hT hnd ow hq hperm hrun hent hbx k1 hs1 hqD hw1 hT' hlen hpk hnd' hKK hcq hls hls0 ov hm he2 own1
          go_wp2_with (first
            | (refine wpList_value rfl (exec_next rfl HN1.out) ?_)
            | (refine wpList_value rfl (exec_ent rfl HE1.out) ?_)
            | fail)
          go_loopw [12, 48] (fun v i wx => ∃ k, k ≤ m ∧ i = .int .i64 (k : Int) ∧ Ow wx wq.heap.size 105 2 v k (Sn.vcells ((verG its ch).take k)) ∧ Rg wx bb rr kpv (fun p : Value × List Nat => p.1) T' ∧ Ow wx w.heap.size 4 1 (.slice (some ⟨go, 0, none⟩) j j) j ((outM its at_ (T'.map (·.1)) ch 0).map .bool) ∧ Below wq.heap.size wq wx) (fun _ i _ => m - (intOf i).toNat)
          case atStart => exact ⟨0, Nat.zero_le _, rfl, World.ownsRow_nil _ _ _ _, RG1.out, OWN1.out, HW1.out⟩
          case round =>
            clear RG1 OWN1 HW1 HN1 HE1
            obtain ⟨k, hk, rfl, ov, rg, ow, hbx⟩ := hrel
            have OV : Hid (Ow _ _ _ _ _ _ _) := Lib.hid ov
            have RG := Lib.hid rg
            have OW : Hid (Ow _ _ _ _ _ _ _) := Lib.hid ow
            have HBX := Lib.hid hbx
            by_cases hkm : k < m
            · have i1 : (k : Int) < (m : Int) := by omega
              obtain ⟨ix, hix⟩ : ∃ i, ls[k]? = some i := ⟨ls[k]'(by rw [← HM'.out]; exact hkm), List.getElem?_eq_getElem _⟩
              have hg := grp_get (HLS.out ▸ hix)
              have hixj : ix < j := by rw [← HL.out]; exact hg.1
              obtain ⟨p, off, rfl, hpl, hcell⟩ := HR.out.2.2 (by omega)
              obtain ⟨x, hx0⟩ : ∃ x, X[ix]? = some x := ⟨X[ix]'(by rw [HN.out]; exact hixj), List.getElem?_eq_getElem _⟩
              have HAT : Hid (∀ W, Below wq.heap.size wq W → At W p (off + ix * 4) [.slice x.A x.it.l.length x.c, .int .u64 (x.it.q : Int), .int .i64 x.it.k, .int .i64 x.it.z]) := Lib.hid (fun W hW => itAtM (X := X) (fun k u hu => ((HB.out.trans (hW.mono HB.out.size)).cell (p := ⟨p, off + k, none⟩) hpl).trans (hcell k u hu)) hx0)
              have hV : (verG its ch)[k]? = some ((x.it.q : Int), x.it.k) := by
                unfold verG
                rw [List.getElem?_map, ← HLS.out, hix]
                show some (((itAt its ix).q : Int), (itAt its ix).k) = _
                rw [itAt_eq (show its[ix]? = some x.it by rw [HITS.out, List.getElem?_map, hx0]; rfl)]
              have HV := Lib.hid hV
              have cg := HLC.out wr k ix hbx hix
              have i2 : (ix : Int) < (j : Int) := by omega
              obtain ⟨A5, c5, rfl, -⟩ := own_cap ov
              clear ov rg ow hbx hix hg hx0 hcell hV
              go_upto_region 16 with fail
              clear cg
              have hcur : Below wr.heap.size wr wr.drew := ⟨rfl, rfl, rfl, Nat.le_refl _, fun _ _ => rfl⟩
              refine wp_region_plan (fun W => Below wr.heap.size wr W) [.calms [0, 1, 2, 3, 4, 6, 7, 8, 9], .read 5, .act 10, .act 11, .act 12, .act 13, .calms [14]] (by kernel_rfl) (by rfl) (by kernel_rfl) (by kernel_rfl) hcur ?_
              generalize wr.drew = w5 at *
              have HCU := Lib.hid hcur
              clear hcur
              refine plan_calms (by simp [calmRow, need]; rfl) ?_
              go_wp2_with fail
              refine plan_read (by rfl) (.int .u64 (x.it.q : Int)) (by rfl) (fun W hW => exec_load rfl rfl (by kernel_rfl) (HAT.out W (belowGo HBX.out hW) 1 _ rfl)) ?_
              refine plan_act (by rfl) ?_
              refine wpList_value (v := .int .i64 x.it.k) rfl (exec_load rfl rfl (by kernel_rfl) (HAT.out _ (belowGo HBX.out HCU.out) 2 _ rfl)) ?_
              go_wp2_with fail
              refine ⟨HCU.out, ?_⟩
              refine plan_last (by rfl) (by kernel_rfl) ?_
              refine wpList_value (v := .agg #[.int .u64 (x.it.q : Int), .int .i64 x.it.k]) rfl (exec_build rfl (by kernel_rfl)) ?_
              go_wp2_with fail
              refine plan_last (by rfl) (by kernel_rfl) ?_
              go_wp2_with fail
              refine plan_last (by rfl) (by kernel_rfl) ?_
              refine wpList_push eltVer rfl (.tmp 52) (.tmp 64) rfl (W := w5) rfl (Ow.after OV.out HCU.out) rfl rfl (by simp [Value.oneCell']) (by omega) (by unfold maxLen; omega) (belowGo HBX.out HCU.out) (belowGo HBX.out HCU.out).size ?_
              intro v9 w9 o9 b9 g9 x9
              have OW9 : Hid (Ow _ _ _ _ _ _ _) := Lib.hid (Ow.grownT (Ow.after OW.out HCU.out) (Ow.after OV.out HCU.out) (by decide) g9)
              have RG9 := Lib.hid ((RG.out.after HCU.out).grown (Ow.after OV.out HCU.out) g9)
              have OV9 : Hid (Ow _ _ _ _ _ _ _) := Lib.hid o9
              have HB9 := Lib.hid b9
              clear o9 b9 g9 x9
              go_wp2_with fail
              refine plan_calms (by simp [calmRow, need]; rfl) ?_
              go_wp2_with fail
              refine plan_end ?_
              go_wp2_with fail
              go_roundw
              case rel => exact ⟨k + 1, by omega, by go_num, by rw [vcells_next HV.out]; exact OV9.out, RG9.out, OW9.out, HB9.out⟩
              case measure => simp [intOf]; omega
            · obtain rfl : k = m := by omega
              have hvl : (verG its ch).length = k := by rw [verG_len, ← HLS.out, ← HM'.out]
              have hvt : (verG its ch).take k = verG its ch := List.take_of_length_le (by omega)
              rw [hvt] at OV
              obtain ⟨A5, c5, rfl, -⟩ := own_cap OV.out
              have hkp := Sn.kept_any (verG its ch) A5 k c5 at_ A' n' c' wr hvl (by omega) HN'.out (Rd.of_own OV.out) ((HR'.out.below (HB.out.trans (HBX.out.mono HB.out.size)) (Nat.le_refl _)).more (HB.out.trans (HBX.out.mono HB.out.size)).size)
              have hmay := verG_may HM.out ch
              have hkl : Sn.keptL (verG its ch) at_ = (List.range k).map (Sn.keptAt (verG its ch) at_) := by
                unfold Sn.keptL
                rw [if_pos hmay, hvl]
              rw [hkl] at hkp
              rw [show ((List.range k).map (Sn.keptAt (verG its ch) at_)).length = k by simp] at hkp
              have HKP := Lib.hid hkp
              clear hvl hvt hkp hmay hkl ov rg ow hbx
              go_wp2_with fail
              refine HKP.out.mono ?_
              rintro e w6 ⟨vk, rfl, ok6, b6⟩
              obtain ⟨gk, ck, rfl, -, hgk⟩ := own_ptr ok6 (by have := HM'.out; have := HNEm.out; omega)
              have OK6 : Hid (Ow _ _ _ _ _ _ _) := Lib.hid ok6
              have OW6 : Hid (Ow _ _ _ _ _ _ _) := Lib.hid (Ow.after OW.out b6)
              have RG6 := Lib.hid (RG.out.after b6)
              have HB6 := Lib.hid (belowGo HBX.out b6)
              have HGK : Hid (gk ≠ go) := Lib.hid (fun e => by have := Ow.hi OW.out go rfl; omega)
              clear HKP ok6 b6 hgk OV RG OW HBX
              go_wp2_with fail
              go_loopw [71] (fun i wx => ∃ q, q ≤ k ∧ i = .int .i64 (q : Int) ∧ Ow wx wr.heap.size 4 1 (.slice (some ⟨gk, 0, none⟩) k ck) k (((List.range k).map (Sn.keptAt (verG its ch) at_)).map .bool) ∧ Rg wx bb rr kpv (fun p : Value × List Nat => p.1) T' ∧ Ow wx w.heap.size 4 1 (.slice (some ⟨go, 0, none⟩) j j) j ((outM its at_ (T'.map (·.1)) ch q).map .bool) ∧ Below wq.heap.size wq wx) (fun i _ => k - (intOf i).toNat)
              case atStart => exact ⟨0, Nat.zero_le _, rfl, OK6.out, RG6.out, OW6.out, HB6.out⟩
              case round =>
                clear OK6 OW6 RG6 HB6
                obtain ⟨q, hq, rfl, ok, rg, ow, hbx⟩ := hrel
                have OK : Hid (Ow _ _ _ _ _ _ _) := Lib.hid ok
                have RG := Lib.hid rg
                have OW : Hid (Ow _ _ _ _ _ _ _) := Lib.hid ow
                have HBX := Lib.hid hbx
                by_cases hqk : q < k
                · have i1 : (q : Int) < (k : Int) := by omega
                  obtain ⟨ix, hix⟩ : ∃ i, ls[q]? = some i := ⟨ls[q]'(by rw [← HM'.out]; exact hqk), List.getElem?_eq_getElem _⟩
                  have hg := grp_get (HLS.out ▸ hix)
                  have hixj : ix < j := by rw [← HL.out]; exact hg.1
                  have i2 : (ix : Int) < (j : Int) := by omega
                  obtain ⟨bq, hbq⟩ : ∃ b, b = keptI its at_ ix := ⟨_, rfl⟩
                  have hbe : bq = Sn.keptAt (verG its ch) at_ q := by rw [hbq]; unfold keptI; rw [hg.2.1, hg.2.2]
                  have cg := HLC.out _ q ix hbx hix
                  have ck0 : wr.cell? ⟨gk, q, none⟩ = some (.bool bq) := by
                    have := Ow.cell ok (j := q) (x := .bool bq) rfl (by omega) (by rw [List.getElem?_map, List.getElem?_map, List.getElem?_range hqk, hbe]; rfl)
                    rwa [Nat.zero_add] at this
                  have fz := World.ownsRow.frozenAt ow ix
                  have hst := World.ownsRow.stored ow ix (.bool bq)
                  obtain ⟨ob, hob⟩ : ∃ b, (outM its at_ (T'.map (·.1)) ch q)[ix]? = some b := ⟨_, List.getElem?_eq_getElem (by rw [outM_len, HL.out]; exact hixj)⟩
                  have co : wr.cell? ⟨go, ix, none⟩ = some (.bool ob) := by
                    have := Ow.cell ow (j := ix) (x := .bool ob) rfl (by omega) (by rw [List.getElem?_map, hob]; rfl)
                    rwa [Nat.zero_add] at this
                  have hnx : ch ∉ T'.map (·.1) := HNK.out.1
                  have hset : (outM its at_ (T'.map (·.1)) ch (q + 1)).map Value.bool = ((outM its at_ (T'.map (·.1)) ch q).map Value.bool).set ix (.bool bq) := by
                    rw [outM_set its at_ hnx (by rw [← HLS.out]; exact hix), List.map_set, hbq]
                  have ow2 := hst.1
                  rw [← hset] at ow2
                  have ok2 := Ow.kp ok (Kp.set wr ⟨go, ix, none⟩ (.bool bq)) (fun i hi hm => by
                    injection hi with hi
                    have h2 : i = go := by simpa using hm
                    exact HGK.out (hi.trans h2))
                  have rg2 := rg.kp (Kp.set wr ⟨go, ix, none⟩ (.bool bq)) (fun hm => rg.bne_own ow (List.mem_singleton.1 hm)) (fun hm => rg.ne_own ow (List.mem_singleton.1 hm))
                  have hb2 := hbx.setCell (p := ⟨go, ix, none⟩) HGO.out (.bool bq)
                  have OK2 : Hid (Ow _ _ _ _ _ _ _) := Lib.hid ok2
                  have RG2 := Lib.hid rg2
                  have OW2 : Hid (Ow _ _ _ _ _ _ _) := Lib.hid ow2
                  have HB2 := Lib.hid hb2
                  clear hix hg hbe hst hob hnx hset ow2 ok2 rg2 hb2 ok rg ow hbx hbq
                  go_wp2_with fail
                  go_roundw
                  case rel => exact ⟨q + 1, by omega, by go_num, OK2.out, RG2.out, OW2.out, HB2.out⟩
                  case measure => simp [intOf]; omega
                · obtain rfl : q = k := by omega
                  have hall : outM its at_ (T'.map (·.1)) ch q = outP its at_ (T'.map (·.1)) := by
                    rw [show q = (grpTo its its.length ch).length by rw [← HLS.out]; exact HM'.out]
                    exact outM_all its at_ _ ch
                  rw [hall] at OW
                  clear hall ok rg ow hbx
                  go_wp2_with fail
                  go_roundw
                  case rel => exact ⟨T', RG.out, HT'.out, HNK.out.2, OW.out, HBX.out⟩
                  case measure => rw [RG.out.left_eq, HRG.out.left_eq, HLEN.out]; omega
end Go.Proofs.Ytkkhojealihghaa
