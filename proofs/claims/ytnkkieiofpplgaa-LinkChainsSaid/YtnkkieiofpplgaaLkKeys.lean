/- Package link: Keys. For all links. -/
import Derived.Test.YtnkkieiofpplgaaLkTwo
import Derived.Test.YtnkkieiofpplgaaRangeM
import Derived.Test.YtnkkieiofpplgaaByK
import Derived.Test.YtnkkieiofpplgaaSortD
namespace Go.Proofs.Ytnkkieiofpplgaa
open Go.RowKit
attribute [local go_sem] Oper.semAt_some

theorem Try.infoRow : (Try.prog.info? 36).map (fun i => (i.zero, i.size, i.bytes)) = some (some (.slice none 0 0), 1, 24) := by kernel_rfl
theorem eltRow : Elt Try.prog 54 36 (.slice none 0 0) 1 24 := ⟨Try.underlying54, Try.infoRow, rfl, by omega⟩
def RetKeys (S : LS) (w : World) (e : Ending) (w' : World) : Prop :=
  ∃ v X, e = .returned v ∧ (X.map KV.l).Perm (S.heads.map (·.1)) ∧ (X.map KV.l).Pairwise (fun a b => ¬ b < a) ∧ Ow w' w.heap.size 36 1 v X.length (X.map KV.v) ∧ KVs X w.heap.size w' ∧ Below w.heap.size w w'
set_option maxRecDepth 100000 in
set_option maxHeartbeats 8000000 in
theorem keyslk_any
    (SB : ∀ (X : List KV) (v : Value) (B : Nat) (w : World), Ow w B 36 1 v X.length (X.map KV.v) → (∀ x ∈ X, x.ok w) → X.length ≤ 1000000 → Calls Try.prog 34 #[v, .func (.func 35) #[] #[]] w (RetSort X B v w))
    {B g bh ba : Nat} {v : Value} {S : LS} (w : World) (h : Lk w B g bh ba v S) (hl : S.heads.length ≤ 100000) : Calls Try.prog 15 #[.pointer (some ⟨g, 0, none⟩)] w (RetKeys S w) := by
  have H := Lib.hid h
  have c0 : w.cell? ⟨g, 0, none⟩ = some (.map (some bh)) := h.2.2.2.2.1.cell 0
  obtain ⟨w0, hrange, rg0, b0, hs0⟩ := h.2.2.2.2.2.1.range Try.underlying68
  have HRANGE := Lib.hid hrange
  obtain ⟨rr, hrr⟩ : ∃ r, r = w.heap.size := ⟨_, rfl⟩
  rw [← hrr] at HRANGE rg0
  have RG0 := Lib.hid rg0
  have B0 := Lib.hid b0
  have HRR := Lib.hid hrr
  have HL := Lib.hid hl
  clear hrange rg0 b0 hs0 hrr h hl
  go_enter Try.func15, Try.ntmps15
  go_wp2_with fail
  refine (nonelk_any w H.out).mono ?_
  rintro e w2 ⟨rfl, rfl⟩
  go_wp2_with (first
    | (refine wpList_value rfl (exec_range rfl HRANGE.out) ?_)
    | fail)
  go_frame
  go_loopw [3] (fun v wx => ∃ T X, Rg wx bh rr kpv hdV T ∧ (X.map KV.l ++ T.map (·.1)).Perm (S.heads.map (·.1)) ∧ Ow wx w.heap.size 36 1 v X.length (X.map KV.v) ∧ KVs X w.heap.size wx ∧ Below w.heap.size w wx) (fun _ wx => wx.rangeLeft bh rr)
  case atStart => exact ⟨S.heads, [], RG0.out, .refl _, World.ownsRow_nil _ _ _ _, ⟨fun x hx => (by cases hx), .nil⟩, B0.out⟩
  case round =>
    clear RG0 B0
    obtain ⟨T, X, rg, hpm, ow, kvs, hbx⟩ := hrel
    rcases rg.next (P := Try.prog) 0 with ⟨hnil, hrun⟩ | ⟨q, T', w1, hq, hperm, hrun, rg1, k1, hs1, hent⟩
    · subst hnil
      have HN1 := Lib.hid hrun
      rw [List.map_nil, List.append_nil] at hpm
      have hXl : X.length ≤ 1000000 := by
        have := hpm.length_eq
        rw [List.length_map, List.length_map] at this
        have := HL.out
        omega
      have SB1 := Lib.hid (SB X u3 w.heap.size wr ow (fun x hx => (kvs.1 x hx).1) hXl)
      have HPM := Lib.hid hpm
      have KV := Lib.hid kvs
      have HBX := Lib.hid hbx
      have OW : Hid (Ow _ _ _ _ _ _ _) := Lib.hid ow
      clear rg hpm ow kvs hbx hrun hXl SB
      go_wp2_with (first
        | (refine wpList_value rfl (exec_next rfl HN1.out) ?_)
        | fail)
      refine SB1.out.mono ?_
      rintro e w2 ⟨rfl, Y, hY, hsort, ow2, hg2⟩
      have HY := Lib.hid hY
      have HSORT := Lib.hid hsort
      have OW2 : Hid (Ow _ _ _ _ _ _ _) := Lib.hid ow2
      have HG2 := Lib.hid hg2
      clear SB1 hY hsort ow2 hg2
      go_wp2_with fail
      refine bodyPost_ret (results_tmp rfl _ _ _) rfl ⟨_, Y, rfl, (HY.out.map _).trans HPM.out, HSORT.out, ?_, ?_, ?_⟩
      · rw [HY.out.length_eq]
        exact OW2.out
      · exact (KV.out.grown OW.out (by decide) HG2.out).perm HY.out
      · exact below_of_grown HBX.out HBX.out.size OW.out HG2.out
    · obtain ⟨kl, hd⟩ := q
      have hkm : kl ∈ S.heads.map (·.1) := hpm.mem_iff.1 (List.mem_append_right _ (List.mem_map.2 ⟨(kl, hd), hq, rfl⟩))
      obtain ⟨p0, hp0, hpe⟩ := List.mem_map.1 hkm
      have hkok : KOk kl := by rw [← hpe]; exact H.out.2.2.2.2.2.1.2 p0 hp0
      have hw1 : Below w.heap.size w w1 := hbx.trans (k1.below (fun i hi => by have := HRR.out; simp at hi; omega) hbx.size)
      have hlen : T.length = T'.length + 1 := by rw [hperm.length_eq]; rfl
      have hXl : X.length ≤ 100000 := by
        have := hpm.length_eq
        rw [List.length_append, List.length_map, List.length_map, List.length_map] at this
        have := HL.out
        omega
      have hpm' : ((X.map KV.l ++ [kl]) ++ T'.map (·.1)).Perm (S.heads.map (·.1)) := by
        refine List.Perm.trans ?_ hpm
        rw [List.append_assoc]
        have h9 : (T.map (·.1)).Perm (kl :: T'.map (·.1)) := hperm.map _
        exact List.Perm.append_left _ h9.symm
      have kvs1 := kvs.kp k1 fun x hx j hj hm => rg.ne_own (kvs.1 x hx).1.1 ((List.mem_singleton.1 hm).symm.trans hj.symm)
      have ow1 := Ow.kp ow k1 fun j hj hm => rg.ne_own ow ((List.mem_singleton.1 hm).symm.trans hj.symm)
      have hs1' := kvs.lt
      unfold kpv at hrun hent
      have PK := pkey_any kl.length (pws kl) (by have := hkok.2; omega) (pws_len kl) (pws_lt kl)
      have hg := pgood_key hkok.1 hkok.2
      have hsz : (pcA kl.length (pws kl)).size = 9 := by unfold pcA; simp [pws_len]
      have hone : (pcA kl.length (pws kl)).all (·.oneCell') = true := by unfold pcA; simp [Value.oneCell']
      obtain ⟨A9, hA9⟩ : ∃ A, A = pcA kl.length (pws kl) := ⟨_, rfl⟩
      rw [← hA9] at hrun hent PK hsz hone
      have HN1 := Lib.hid hrun
      have HE1 := Lib.hid (hent w1 rfl rfl)
      have RG := Lib.hid rg
      have RG1 := Lib.hid rg1
      have HPM := Lib.hid hpm'
      have KV1 := Lib.hid kvs1
      have OW1 : Hid (Ow _ _ _ _ _ _ _) := Lib.hid ow1
      have HW1 := Lib.hid hw1
      have HLEN := Lib.hid hlen
      have HXL := Lib.hid hXl
      have HG := Lib.hid hg
      have HOK := Lib.hid hkok
      have HSZ := Lib.hid hsz
      have HONE := Lib.hid hone
      have HPK := Lib.hid PK
      have q0 := Blk.new w1 80 #[.int .u8 0, .int .u64 0, .int .u64 0, .int .u64 0, .int .u64 0, .int .u64 0, .int .u64 0, .int .u64 0, .int .u64 0]
      have b0 := belowAlloc (Below.refl w1.heap.size w1) (.cells #[.int .u8 0, .int .u64 0, .int .u64 0, .int .u64 0, .int .u64 0, .int .u64 0, .int .u64 0, .int .u64 0, .int .u64 0] 80)
      clear rg hpm ow kvs hbx hrun hent rg1 k1 hs1 hq hperm hkm p0 hp0 hpe hkok hw1 hlen hXl hpm' kvs1 ow1 hs1' PK hg hsz hone hA9 SB
      go_upto_region 7 with (first
        | (refine wpList_value rfl (exec_next rfl HN1.out) ?_)
        | (refine wpList_value rfl (exec_ent rfl HE1.out) ?_)
        | (refine wpList_storeB rfl 80 (.tmp 4) (.tmp 17) rfl rfl rfl q0 (by rw [HSZ.out]; kernel_rfl) (by rw [HSZ.out]; rfl) HONE.out ?_)
        | fail)
      have q1 := q0.row A9
      have b1 := row_below b0 (Nat.le_refl _) A9
      generalize (w1.alloc (.cells #[.int .u8 0, .int .u64 0, .int .u64 0, .int .u64 0, .int .u64 0, .int .u64 0, .int .u64 0, .int .u64 0, .int .u64 0] 80)).setRow w1.heap.size A9 = w3 at *
      have Q3 := Lib.hid q1
      have B3 := Lib.hid b1
      have hpk := HPK.out w3
      clear q0 b0 q1 b1
      go_wp2_with (first
        | (refine wpList_value rfl (exec_load_blk rfl rfl Q3.out Try.underlying80 rfl (by rw [HSZ.out]; kernel_rfl)) ?_)
        | fail)
      refine hpk.mono ?_
      rintro e w4 ⟨vk, he, -, hown, b4⟩
      rw [HG.out] at he
      subst he
      have ok4 := hown HG.out
      rw [show min kl.length 64 = kl.length by have := HOK.out.2; omega, pkeyL_key HOK.out.2] at ok4
      obtain ⟨gk, ck, rfl, -, hgk⟩ := own_ptr ok4 (by have := HOK.out.1; omega)
      have HW4 := Lib.hid (belowGo HW1.out (belowGo B3.out b4))
      have hb14 := belowGo B3.out b4
      have KV4 := Lib.hid (KV1.out.after hb14)
      have OW4 : Hid (Ow _ _ _ _ _ _ _) := Lib.hid (Ow.after OW1.out hb14)
      have RG4 := Lib.hid (RG1.out.after hb14)
      have OK4 : Hid (Ow _ _ _ _ _ _ _) := Lib.hid ok4
      have HGK : Hid (w1.heap.size ≤ gk) := Lib.hid (Nat.le_trans B3.out.size hgk)
      obtain ⟨nX, hnX⟩ : ∃ n, n = X.length := ⟨_, rfl⟩
      rw [← hnX] at OW4
      have HNX := Lib.hid hnX
      obtain ⟨A3, c3, rfl, -⟩ := own_cap OW4.out
      obtain ⟨nk, hnk⟩ : ∃ n, n = kl.length := ⟨_, rfl⟩
      rw [← hnk]
      have HNK := Lib.hid hnk
      have hX1 : nX ≤ 100000 := by rw [hnX]; exact HXL.out
      clear hpk hown b4 ok4 hgk hb14 Q3 B3 HPK hnX hnk
      go_wp2_with (first
        | (at_builtin
           refine wpList_push eltRow rfl (.tmp 24) (.tmp 26) rfl (W := w4) rfl OW4.out rfl rfl (by simp [Value.oneCell']) (by omega) (by unfold maxLen; omega) HW4.out HW4.out.size ?_
           intro v9 w9 o9 b9 g9 x9)
        | fail)
      have HMEAS : Hid (w9.rangeLeft bh rr < wr.rangeLeft bh rr) := Lib.hid (by rw [(RG4.out.grown OW4.out g9).left_eq, RG.out.left_eq, HLEN.out]; omega)
      refine ⟨⟨T', X ++ [⟨kl, .slice (some ⟨gk, 0, none⟩) nk ck⟩], RG4.out.grown OW4.out g9, ?_, ?_, ?_, b9⟩, HMEAS.out⟩
      · rw [List.map_append]
        exact HPM.out
      · rw [List.length_append, List.map_append, ← HNX.out]
        exact o9
      · refine KVs.grown (KV4.out.snoc (w0 := w1) KV1.out.lt (b := gk) ⟨?_, by have := HOK.out.2; show kl.length ≤ _; omega⟩ rfl (Nat.le_trans HW1.out.size HGK.out) HGK.out) OW4.out (by decide) g9
        show Ow w4 0 5 1 (.slice (some ⟨gk, 0, none⟩) nk ck) kl.length (bcells kl)
        rw [HNK.out]
        exact own_low OK4.out (Nat.zero_le _)
end Go.Proofs.Ytnkkieiofpplgaa
