/- Package mlog: Replay. For every bytes. -/
import Derived.Test.YtmahadcohnhdkaaDoorMl2
import Derived.Test.YtmahadcohnhdkaaDoorMl3
import Derived.Test.YtmahadcohnhdkaaDoorGC
import Derived.Test.YtmahadcohnhdkaaDoorEdFLaw
import Derived.WalkMore
namespace Go.Proofs.YtmahadcohnhdkaaDoor
open Go.RowKit
attribute [local go_sem] Oper.semAt_some

theorem getE_fits (l : List UInt8) : (getE l).1.fits := by
  unfold getE
  cases h : rdEd l with
  | error e => exact ⟨by show 0 < _; decide, by show 0 < _; decide, by show 0 ≤ _; decide, fun s hs => by cases hs⟩
  | ok d => exact (rdEd_is h).1
theorem frGet_fits (l : List UInt8) : (frGet l).1.fits := by
  have hz : Ed.none.fits := ⟨by show 0 < _; decide, by show 0 < _; decide, by show 0 ≤ _; decide, fun s hs => by cases hs⟩
  unfold frGet
  split
  · exact hz
  · split
    · exact hz
    · split
      · exact hz
      · split
        · exact hz
        · split
          · exact getE_fits _
          · exact hz
theorem frGet_ok {l : List UInt8} (h : (frGet l).2.2 = 0) : 12 ≤ (frGet l).2.1 ∧ (frGet l).2.1 ≤ l.length := by
  unfold frGet at h ⊢
  split at h
  · cases h
  · rename_i h1
    rw [if_neg h1]
    split at h
    · cases h
    · rename_i h2
      rw [if_neg h2]
      split at h
      · cases h
      · rename_i h3
        rw [if_neg h3]
        split at h
        · cases h
        · rename_i h4
          rw [if_neg h4]
          split at h
          · rename_i h5
            rw [if_pos h5]
            show 12 ≤ 12 + _ ∧ 12 + _ ≤ _
            omega
          · cases h
/-- frames, one behind the other: the edits told, how many bytes, what is wrong -/
def repL : Nat → List UInt8 → List Ed × Nat × Nat
  | 0, _ => ([], 0, 0)
  | f + 1, l => if l.length = 0 then ([], 0, 0) else if (frGet l).2.2 = 0 then ((frGet l).1 :: (repL f (l.drop (frGet l).2.1)).1, (frGet l).2.1 + (repL f (l.drop (frGet l).2.1)).2.1, (repL f (l.drop (frGet l).2.1)).2.2) else ([], 0, (frGet l).2.2)
theorem repL_succ (f : Nat) (l : List UInt8) : repL (f + 1) l = if l.length = 0 then ([], 0, 0) else if (frGet l).2.2 = 0 then ((frGet l).1 :: (repL f (l.drop (frGet l).2.1)).1, (frGet l).2.1 + (repL f (l.drop (frGet l).2.1)).2.1, (repL f (l.drop (frGet l).2.1)).2.2) else ([], 0, (frGet l).2.2) := rfl
def replayM (l : List UInt8) : List Ed × Nat × Nat := if chkH l 2 0 = 0 then ((repL l.length (l.drop 16)).1, 16 + (repL l.length (l.drop 16)).2.1, (repL l.length (l.drop 16)).2.2) else ([], 0, chkH l 2 0)
theorem chkH_ok {l : List UInt8} {k : Int} {id : Nat} (h : chkH l k id = 0) : 16 ≤ l.length := by
  unfold chkH at h
  split at h
  · cases h
  · rename_i h2
    rcases headGet_vals l with ⟨h3, _⟩ | ⟨h3, _⟩ | h3
    · omega
    · omega
    · rcases Nat.lt_or_ge l.length 16 with h4 | h4
      · rw [headGet_short h4] at h; cases h
      · exact h4
def EdX.own (x : EdX) (w : World) (B : Nat) : Prop := x.d.fits ∧ x.d.seals.length = x.n ∧ x.n ≤ x.c ∧ Ow w B 67 5 (.slice x.A x.n x.c) x.n (slCells x.d.seals)
theorem EdX.own.after {x : EdX} {w w' : World} {B : Nat} (h : x.own w B) (hb : Below w.heap.size w w') : x.own w' B := ⟨h.1, h.2.1, h.2.2.1, Ow.after h.2.2.2 hb⟩
theorem EdX.own.grownT {x : EdX} {w w' : World} {B base size n : Nat} {e : TypeId} {v : Value} {xs : List Value} (h : x.own w B) (ho : Ow w base e size v n xs) (hne : 67 ≠ e) (hg : w.grownBy w' v.ownBlock) : x.own w' B :=
  ⟨h.1, h.2.1, h.2.2.1, h.2.2.2.grownT ho hne hg⟩
theorem Tryd.infoEdit : (Tryd.prog.info? 31).map (fun i => (i.zero, i.size, i.bytes)) = some (some (.agg #[.int .i64 0, .string ⟨#[]⟩, .int .u64 0, .int .u32 0, .slice none 0 0]), 5, 64) := by kernel_rfl
theorem eltEdit : Elt Tryd.prog 22 31 (.agg #[.int .i64 0, .string ⟨#[]⟩, .int .u64 0, .int .u32 0, .slice none 0 0]) 5 64 := ⟨Tryd.underlying22, Tryd.infoEdit, rfl, by omega⟩
def RetReplay (w : World) (l : List UInt8) (e : Ending) (w' : World) : Prop :=
  ∃ v X, e = .returned (.tuple #[v, .int .i64 ((replayM l).2.1 : Int), .int .i64 ((replayM l).2.2 : Int)]) ∧ X.map EdX.d = (replayM l).1 ∧ Ow w' w.heap.size 31 5 v X.length (exCells X) ∧ (∀ x ∈ X, x.own w' w.heap.size) ∧ Below w.heap.size w w'

set_option maxRecDepth 100000 in
set_option maxHeartbeats 8000000 in
theorem replay_any (l : List UInt8) (A : Option Addr) (n c : Nat) (w : World) (hT : Tab w) (hnc : n ≤ c) (hn9 : n ≤ 100000000) (hr : Rd w w.heap.size 1 A n (bcells l)) : Calls Tryd.prog 14 #[.slice A n c] w (RetReplay w l) := by
  have hlen := hr.1
  rw [bcells_len, Nat.mul_one] at hlen
  obtain ⟨R, hR⟩ : ∃ R, R = replayM l := ⟨_, rfl⟩
  unfold RetReplay
  rw [← hR]
  have HRR := Lib.hid hR
  have CK := Lib.hid (checkH_any l A n c 2 0 w hT hnc hr)
  have HT := Lib.hid hT
  have HTL := Lib.hid hT.1
  have HR := Lib.hid hr
  have HLEN := Lib.hid hlen
  obtain ⟨k, hk⟩ : ∃ k, k = chkH l 2 0 := ⟨_, rfl⟩
  rw [← hk] at CK
  have HK := Lib.hid hk
  clear hR hT hr hlen hk
  go_enter Tryd.func14, Tryd.ntmps14
  go_wp2_with fail
  go_step3
  go_wp2_with fail
  refine CK.out.mono ?_
  rintro e w1 ⟨rfl, b1⟩
  have HB := Lib.hid b1
  clear CK b1
  by_cases hk0 : k = 0
  rotate_left
  · have hki : ¬ (k : Int) = 0 := by omega
    have hRD : R = ([], 0, k) := by rw [HRR.out]; unfold replayM; rw [if_neg (by rw [← HK.out]; exact hk0), ← HK.out]
    have HRD := Lib.hid hRD
    clear hRD hk0 HRR
    go_wp2_with fail
    try rw [Exit.noGoto_ret]
    refine bodyPost_ret (results_tmp3 rfl _ _ _) rfl ⟨.slice none 0 0, [], by rw [HRD.out]; rfl, by rw [HRD.out]; rfl, World.ownsRow_nil _ _ _ _, (fun x hx => by cases hx), HB.out⟩
  have h16 : 16 ≤ n := by have := chkH_ok (HK.out.symm.trans hk0); rw [HLEN.out] at this; exact this
  have hRD : R = ((repL n (l.drop 16)).1, 16 + (repL n (l.drop 16)).2.1, (repL n (l.drop 16)).2.2) := by rw [HRR.out]; unfold replayM; rw [if_pos (by rw [← HK.out]; exact hk0), HLEN.out]
  have HRD := Lib.hid hRD
  have hki : (k : Int) = 0 := by omega
  clear hRD HRR HK
  subst hk0
  clear hki
  go_wp2_with fail
  go_step3
  go_wp2_with fail
  go_loopw [6, 7, 8] (fun v6 v7 v8 wr => ∃ (X : List EdX) (at_ f : Nat), v8 = .int .i64 0 ∧ v7 = .int .i64 (at_ : Int) ∧ 16 ≤ at_ ∧ at_ ≤ n ∧ Below w.heap.size w wr ∧ Ow wr w.heap.size 31 5 v6 X.length (exCells X) ∧ (∀ x ∈ X, x.own wr w.heap.size) ∧ X.length ≤ at_ ∧ n - at_ ≤ f ∧
    repL n (l.drop 16) = (X.map EdX.d ++ (repL f (l.drop at_)).1, (at_ - 16) + (repL f (l.drop at_)).2.1, (repL f (l.drop at_)).2.2)) (fun _ a _ _ => n - (intOf a).toNat)
  case atStart => exact ⟨[], 16, n, rfl, rfl, Nat.le_refl _, h16, HB.out, World.ownsRow_nil _ _ _ _, (fun x hx => by cases hx), by simp, by omega, by simp⟩
  case round =>
    obtain ⟨X, at_, f, rfl, rfl, ha16, han, hb, o, hx, hxl, hf, hst⟩ := hrel
    obtain ⟨A6, c6, rfl, -⟩ := own_cap o
    have HB := Lib.hid hb
    have O : Hid (Ow _ _ _ _ _ _ _) := Lib.hid o
    have HX := Lib.hid hx
    have HST := Lib.hid hst
    clear hb o hx hst
    by_cases hlt : at_ < n
    · have hai : (at_ : Int) < (n : Int) := by omega
      have hai2 : (at_ : Int) ≤ (n : Int) := by omega
      obtain ⟨f', rfl⟩ : ∃ f', f = f' + 1 := ⟨f - 1, by omega⟩
      have hl0 : ¬ (l.drop at_).length = 0 := by rw [List.length_drop, HLEN.out]; omega
      have HLO := fun W => Lib.hid (run_lo W .i64 (A := A) (c := c) (n := n) (k := at_) han hnc)
      have rr := ((HR.out.below HB.out (Nat.le_refl _)).more HB.out.size).cut hnc (i := at_) (k := n) han (Nat.le_refl _)
      rw [List.take_of_length_le (by rw [HLEN.out]; exact Nat.le_refl _)] at rr
      have GM := Lib.hid (getM_any (l.drop at_) (cutA A c at_) (n - at_) (c - at_) wr (HT.out.below HB.out HTL.out) (by omega) rr)
      have gf := frGet_fits (l.drop at_)
      have gk := fun h => frGet_ok (l := l.drop at_) h
      have hstep := HST.out
      rw [repL_succ, if_neg hl0] at hstep
      obtain ⟨G, hG⟩ : ∃ G, G = frGet (l.drop at_) := ⟨_, rfl⟩
      unfold RetFr at GM
      rw [← hG] at GM gf gk hstep
      rw [List.length_drop, HLEN.out] at gk
      have HSTEP := Lib.hid hstep
      have GK := Lib.hid gk
      have GF := Lib.hid gf
      clear hG hstep gk gf rr hl0 HST
      obtain ⟨d, sz, cd⟩ := G
      dsimp only at *
      have hlo := fun W => (HLO W).out
      go_wp2_with fail
      clear hlo
      refine GM.out.mono ?_
      rintro e w3 ⟨v3, rfl, o3, b3⟩
      obtain ⟨A3, c3, rfl, hc3⟩ := own_cap o3
      obtain ⟨S, hS⟩ : ∃ S : ByteArray, S = ⟨d.name.toArray⟩ := ⟨_, rfl⟩
      rw [← hS, show edC d S (.slice A3 d.seals.length c3) = #[.int .i64 d.kind, .string S, .int .u64 (d.seq : Int), .int .u32 (d.id : Int), .slice A3 d.seals.length c3] from rfl]
      have HS := Lib.hid hS
      have HB0 := Lib.hid HB.out.size
      have O3 : Hid (Ow _ _ _ _ _ _ _) := Lib.hid (own_low o3 HB0.out)
      have HB := Lib.hid (belowGo HB.out b3)
      have O : Hid (Ow _ _ _ _ _ _ _) := Lib.hid (Ow.after O.out b3)
      have HX := Lib.hid (fun x hx => (HX.out x hx).after b3)
      have qn := Blk.new w3 31 #[.int .i64 0, .string ⟨#[]⟩, .int .u64 0, .int .u32 0, .slice none 0 0]
      have QY := Lib.hid (qn.row #[.int .i64 d.kind, .string S, .int .u64 (d.seq : Int), .int .u32 (d.id : Int), .slice A3 d.seals.length c3])
      have QN := Lib.hid qn
      have bz := row_below (belowAlloc (Below.refl w3.heap.size w3) (.cells #[.int .i64 0, .string ⟨#[]⟩, .int .u64 0, .int .u32 0, .slice none 0 0] 31)) (Nat.le_refl _) #[.int .i64 d.kind, .string S, .int .u64 (d.seq : Int), .int .u32 (d.id : Int), .slice A3 d.seals.length c3]
      have HB := Lib.hid (belowGo HB.out bz)
      have O : Hid (Ow _ _ _ _ _ _ _) := Lib.hid (Ow.after O.out bz)
      have O3 : Hid (Ow _ _ _ _ _ _ _) := Lib.hid (Ow.after O3.out bz)
      have HX := Lib.hid (fun x hx => (HX.out x hx).after bz)
      obtain ⟨g9, hg9⟩ : ∃ g, g = w3.heap.size := ⟨_, rfl⟩
      clear hS o3 b3 qn bz GM
      go_upto_region 8 with (first
        | (refine wpList_storeB rfl 31 (.tmp 9) (.tmp 26) rfl rfl rfl QN.out (by kernel_rfl) (by rfl) (by simp [Value.oneCell']) ?_)
        | fail)
      generalize (w3.alloc (.cells #[.int .i64 0, .string ⟨#[]⟩, .int .u64 0, .int .u32 0, .slice none 0 0] 31)).setRow w3.heap.size #[.int .i64 d.kind, .string S, .int .u64 (d.seq : Int), .int .u32 (d.id : Int), .slice A3 d.seals.length c3] = w4 at *
      rw [← hg9] at QY ⊢
      clear QN hg9
      by_cases hcd : cd = 0
      · have hci : (cd : Int) = 0 := by omega
        obtain ⟨hs12, hsn⟩ := GK.out hcd
        have hstep := HSTEP.out
        rw [if_pos hcd] at hstep
        have HSTEP := Lib.hid hstep
        obtain ⟨at2, ha2⟩ : ∃ a, a = at_ + sz := ⟨_, rfl⟩
        have ha2i : (at_ : Int) + (sz : Int) = (at2 : Int) := by omega
        have HA2 := Lib.hid ha2
        have ha2n : at2 ≤ n := by omega
        have ha2p : at_ < at2 := by omega
        have HXC := Lib.hid hc3
        clear hcd hstep ha2 hc3
        go_upto_region 11 with (first
          | (refine wpList_value rfl (exec_load_blk rfl rfl QY.out Tryd.underlying31 rfl (by kernel_rfl)) ?_)
          | (at_builtin; refine wpList_push eltEdit rfl (.tmp 32) (.tmp 34) rfl (W := w4) rfl O.out rfl rfl (by simp [Value.oneCell']) (by omega) (by unfold maxLen; omega) (Below.refl _ _) HB.out.size ?_; intro v5 w5 o5 b5 g5 x5; obtain ⟨A5, c5, rfl, -⟩ := own_cap o5; have HX := Lib.hid (fun x hx => (HX.out x hx).grownT O.out (by decide) g5); have O3 : Hid (Ow _ _ _ _ _ _ _) := Lib.hid (Ow.grownT O3.out O.out (by decide) g5); have HB := Lib.hid (HB.out.trans b5); have O5 : Hid (Ow _ _ _ _ _ _ _) := Lib.hid o5; clear o5 b5 g5 x5)
          | fail)
        go_wp2_with fail
        go_roundw
        case rel =>
          refine ⟨X ++ [⟨d, A3, d.seals.length, c3⟩], at2, f', rfl, rfl, by omega, ha2n, HB.out, ?_, ?_, ?_, by omega, ?_⟩
          · rw [List.length_append]
            unfold exCells
            rw [List.flatMap_append]
            have := O5.out
            rw [HS.out] at this
            simpa [EdX.cells, exCells, edC] using this
          · intro x hx
            rcases List.mem_append.1 hx with hx | hx
            · exact HX.out x hx
            · rw [List.mem_singleton.1 hx]
              exact ⟨GF.out, rfl, HXC.out, O3.out⟩
          · rw [List.length_append]; show _ + 1 ≤ _; omega
          · rw [HSTEP.out, List.drop_drop, ← HA2.out, List.map_append, List.append_assoc]
            refine Prod.ext rfl (Prod.ext ?_ rfl)
            show _ + (_ + _) = _ + _
            have := HA2.out
            omega
        case measure => simp [intOf]; omega
      · have hci : ¬ (cd : Int) = 0 := by omega
        have hstep := HSTEP.out
        rw [if_neg hcd] at hstep
        have hR2 : R = (X.map EdX.d, at_, cd) := by
          rw [HRD.out, hstep]
          refine Prod.ext (List.append_nil _) (Prod.ext ?_ rfl)
          show 16 + (at_ - 16 + 0) = at_
          omega
        have HR2 := Lib.hid hR2
        clear hcd hstep hR2
        go_wp2_with fail
        try rw [Exit.noGoto_ret]
        refine bodyPost_ret (results_tmp3 rfl _ _ _) rfl ⟨_, X, by rw [HR2.out]; rfl, by rw [HR2.out], O.out, HX.out, HB.out⟩
    · obtain rfl : at_ = n := by omega
      have hai : ¬ (at_ : Int) < (at_ : Int) := by omega
      have hl0 : (l.drop at_).length = 0 := by rw [List.length_drop, HLEN.out]; omega
      have hz : repL f (l.drop at_) = ([], 0, 0) := by
        cases f with
        | zero => rfl
        | succ f => unfold repL; rw [if_pos hl0]
      have hR2 : R = (X.map EdX.d, at_, 0) := by
        rw [HRD.out, HST.out, hz]
        refine Prod.ext (List.append_nil _) (Prod.ext ?_ rfl)
        show 16 + (at_ - 16 + 0) = at_
        omega
      have HR2 := Lib.hid hR2
      clear hz hR2 hl0
      go_wp2_with fail
      try rw [Exit.noGoto_ret]
      refine bodyPost_ret (results_tmp3 rfl _ _ _) rfl ⟨_, X, by rw [HR2.out]; rfl, by rw [HR2.out], O.out, HX.out, HB.out⟩
end Go.Proofs.YtmahadcohnhdkaaDoor
