/- What the law SeenMore comes to: true, for any steps and numbers that are read. -/
import Derived.Test.YtpeccfopffgmiaaSame2
import Derived.Test.YtpeccfopffgmiaaMoreLaw
import Derived.Test.YtpeccfopffgmiaaAppK
namespace Go.Proofs.Ytpeccfopffgmiaa
open Go.RowKit

theorem Try.infoU64 : (Try.prog.info? 25).map (fun i => (i.zero, i.size, i.bytes)) = some (some (.int .u64 0), 1, 8) := by kernel_rfl
theorem eltU64 : Elt Try.prog 23 25 (.int .u64 0) 1 8 := ⟨Try.underlying23, Try.infoU64, rfl, by omega⟩

theorem oneU64 (l : List Int) : ∀ u ∈ l.map (Value.int .u64), u.oneCell' = true := by
  intro u hu
  rw [List.mem_map] at hu
  obtain ⟨x, _, rfl⟩ := hu
  rfl

theorem whichTo_true (n : Nat) : ∀ k, k ≤ n → (whichTo (List.replicate n true) k).length = k
  | 0, _ => rfl
  | k + 1, h => by
    rw [whichTo_yes (by simp [show k < n by omega]), List.length_append, whichTo_true n k (by omega)]
    rfl
theorem which_true (n : Nat) : (whichL (List.replicate n true)).length = n := by
  unfold whichL
  rw [List.length_replicate]
  exact whichTo_true n n (Nat.le_refl _)

set_option maxHeartbeats 8000000 in
set_option maxRecDepth 100000 in
theorem more_walk (l : List Stp) (A : Option Addr) (n c : Nat) (at_ : List Int) (A' : Option Addr) (n' c' : Nat) (more turn : Int) (w : World) (hn : l.length = n) (hn' : at_.length = n') (hwf : ∀ v ∈ l, 0 ≤ v.1 ∧ v.1 ≤ 255) (hc' : n' ≤ c')
    (ht0 : 0 ≤ turn) (ht1 : turn ≤ 255) (h : Rd w w.heap.size 2 A n (scells l)) (h' : Rd w w.heap.size 1 A' n' (at_.map (.int .u64))) :
    Calls Try.prog 5 #[.slice A n c, .slice A' n' c', .int .u64 more, .int .u8 turn] w fun e w' => e = .returned (.bool true) ∧ Below w.heap.size w w' := by
  go_enter Try.func5, Try.ntmps5
  have R := h
  have Q := h'
  have R := R
  have Q := Q
  have hb := (Below.refl w.heap.size w)
  have k1 := versions_any l A n c _ hn hwf R
  have K1 := Lib.hid k1
  clear k1
  go_wp2_with fail
  refine K1.out.mono ?_
  rintro e w1 ⟨v1, rfl, o1, b1⟩
  obtain ⟨A1, c1, rfl⟩ := own_slice o1
  clear K1
  have R := R.after b1
  have Q := Q.after b1
  have hb := belowGo hb b1
  have V := own_rd o1
  have HM := Lib.hid (verL_may hwf)
  have hall := verL_len l
  clear o1 R h h' hwf hn
  generalize verL l = all at *
  have Q := Q.take (Nat.min_le_left n' 20)
  have hmin := min_int n' 20 (M := 20) rfl
  have HAt := Lib.hid (show (at_.take (min n' 20)).length = min n' 20 by rw [List.length_take]; omega)
  rw [Nat.mul_one, ← List.map_take] at Q
  have hk20 : min n' 20 ≤ 20 := Nat.min_le_right _ _
  have hkn : min n' 20 ≤ n' := Nat.min_le_left _ _
  clear hn'
  generalize at_.take (min n' 20) = at1 at *
  generalize min n' 20 = k' at *
  have V0 := V.toB
  have Q0 := Q.toB
  clear V Q
  have hw1 := hb.size
  go_wp2_with (at_builtin; refine wpList_appK eltU64 rfl _ _ rfl rfl (World.ownsRow_nil _ w1.heap.size _ _) rfl Q0.1 (oneU64 at1) (by omega) (by unfold maxLen; omega) (Below.refl _ _) (Nat.le_refl _) ?_; intro vt wt ot _ hb2 _ _)
  · have hz : 0 < (k' : Int) := by omega
    have hz2 := Int.emod_nonneg turn (b := (k' : Int)) (by omega)
    have hz3 := Int.emod_lt_of_pos turn hz
    generalize turn % (k' : Int) = z at *
    obtain ⟨kk, rfl⟩ := Int.eq_ofNat_of_zero_le hz2
    have hkk : kk < k' := by omega
    have V := (V0.after hb2).rd
    have Q := (Q0.after hb2).rd
    have hb := belowGo hb hb2
    obtain ⟨b, off, rfl, hblk, hcell⟩ := Q.2.2 (by omega)
    have hkl : kk < at1.length := by rw [HAt.out]; exact hkk
    have ck : wt.cell? ⟨b, off + kk, none⟩ = some (.int .u64 at1[kk]) := hcell kk _ (by simp [hkl])
    have Qd := Q.drop (Nat.le_of_lt hkk)
    have Qk := Q.take (Nat.le_of_lt hkk)
    rw [Nat.mul_one, ← List.map_drop] at Qd
    rw [Nat.mul_one, ← List.map_take] at Qk
    have HTm := Lib.hid (show ∀ x, x ∈ at1 ↔ x ∈ [at1[kk]] ++ at1.drop kk ++ at1.take kk from fun x => by
      simp only [List.mem_append, List.mem_singleton]
      constructor
      · intro hx
        rw [← List.take_append_drop kk at1, List.mem_append] at hx
        rcases hx with h | h
        · exact .inr h
        · exact .inl (.inr h)
      · rintro ((rfl | h) | h)
        · exact List.getElem_mem hkl
        · exact List.mem_of_mem_drop h
        · exact List.mem_of_mem_take h)
    generalize at1[kk] = x0 at *
    have ol := own_lit wt wt.heap.size 25 #[.int .u64 x0] 1 1 rfl (Nat.le_refl _) (by unfold maxLen; omega)
    have hbl := belowAlloc (Below.refl wt.heap.size wt) (.cells #[.int .u64 x0] 25)
    have Qd2 := (Qd.toB.alloc (.cells #[.int .u64 x0] 25)).1
    have i1 : (kk : Int) ≤ (k' : Int) := by omega
    have i2 : (kk : Int) < (k' : Int) := by omega
    have i3 : ¬ c' = kk := by omega
    have i4 : (kk : Int) ≤ (c' : Int) := by omega
    clear hcell hz2 hz3
    have ol' : (wt.alloc (.cells #[.int .u64 x0] 25)).drew.ownsRow wt.heap.size 25 1 (.slice (some ⟨wt.heap.size, 0, none⟩) 1 1) 1 #[Value.int .u64 x0].toList := ol
    have Qd3 : Rd (wt.alloc (.cells #[.int .u64 x0] 25)).drew wt.heap.size 1 (some ⟨b, off + kk, none⟩) (k' - kk) ((at1.drop kk).map (.int .u64)) := Qd2
    have hbl' : Below wt.heap.size wt (wt.alloc (.cells #[.int .u64 x0] 25)).drew := hbl.drew
    have Qk0 := Qk.toB
    clear ol Qd2 hbl Qd Qk
    go_region_law (first | (refine step_appK eltU64 rfl (.tmp 42) (.tmp 45) rfl rfl ol' rfl Qd3 (oneU64 _) (by omega) (by unfold maxLen; omega) hbl' (by simp) ?_; intro va wa oa _ hba _ _; have Qk2 := Qk0.after hba) | (refine step_appK eltU64 rfl (.tmp 46) (.tmp 49) rfl rfl oa rfl Qk2.1 (oneU64 _) (by omega) (by unfold maxLen; omega) hba hba.size ?_; intro vb wb ob _ hbb _ _))
    have V := V.toB.after hbb
    have Q := Q.toB.after hbb
    have hwt := hb.size
    have hb := belowGo hb hbb
    obtain ⟨T, hT⟩ : ∃ T, T = [x0] ++ at1.drop kk ++ at1.take kk := ⟨_, rfl⟩
    have HT := HTm
    rw [← hT] at HT
    have hTL : 1 + (k' - kk) + kk = T.length := by rw [hT]; have := HAt.out; simp; omega
    have hTm : #[Value.int .u64 x0].toList ++ (at1.drop kk).map (Value.int .u64) ++ (at1.take kk).map (.int .u64) = T.map (.int .u64) := by rw [hT]; simp
    rw [hTL, hTm] at ob
    have hT40 : T.length ≤ 21 := by omega
    obtain ⟨AT, cT, rfl⟩ := own_slice ob
    obtain ⟨bf, V, Q, oT, hbf0⟩ : ∃ bf, RdB wb bf 2 A1 all.length (vcells all) ∧ RdB wb bf 1 (some ⟨b, off, none⟩) k' (at1.map (.int .u64)) ∧ Ow wb bf 25 1 (.slice AT T.length cT) T.length (T.map (.int .u64)) ∧ w.heap.size ≤ bf := ⟨_, V, Q, ob, hwt⟩
    clear hT hTL hTm ob hbb V0 Q0 HTm hba hb2 oa Qk2 ol' Qd3 hbl' Qk0 i1 i2 i3 i4 ck hkl hkk
    have hTg := Ow.hi oT
    have hsz_wb := Nat.le_refl wb.heap.size
    have HLS := Lib.hid ((seenL_len HM.out at1))
    have HLK := Lib.hid ((keptL_len HM.out at1))
    have HLE := Lib.hid ((seenL_len HM.out (T ++ [more])))
    have HLF := Lib.hid ((keptL_len HM.out (T ++ [more])))
    have HST := Lib.hid (seenL_set (l := all) HT.out)
    have HKT := Lib.hid (keptL_set (l := all) HT.out)
    have V := V
    have Q := Q
    have oT := oT
    have hb := hb
    have k3 := seen_any all A1 all.length c1 at1 _ k' c' _ rfl (by omega) HAt.out V.rd Q.rd
    rw [HLS.out] at k3
    have K3 := Lib.hid k3
    clear k3
    go_wp2_with fail
    refine K3.out.mono ?_
    rintro e w3 ⟨v3, rfl, o3, b3⟩
    obtain ⟨A3, c3, rfl⟩ := own_slice o3
    clear K3
    have V := V.after b3
    have Q := Q.after b3
    have oT := oT.after b3
    have hb := belowGo hb b3
    have oA : Ow _ _ _ _ _ _ _ := o3
    have hoA : wb.heap.size ≤ wb.heap.size := hsz_wb
    have hsz_w3 : wb.heap.size ≤ w3.heap.size := Nat.le_trans hsz_wb b3.size
    clear o3 b3
    have V := V
    have Q := Q
    have oT := oT
    have oA := oA
    have hb := hb
    have k4 := kept_any all A1 all.length c1 at1 _ k' c' _ rfl (by omega) HAt.out V.rd Q.rd
    rw [HLK.out] at k4
    have K4 := Lib.hid k4
    clear k4
    go_wp2_with fail
    refine K4.out.mono ?_
    rintro e w4 ⟨v4, rfl, o4, b4⟩
    obtain ⟨A4, c4, rfl⟩ := own_slice o4
    clear K4
    have V := V.after b4
    have Q := Q.after b4
    have oT := oT.after b4
    have oA := oA.after b4
    have hb := belowGo hb b4
    have oB : Ow _ _ _ _ _ _ _ := o4
    have hoB : wb.heap.size ≤ w3.heap.size := hsz_w3
    have hsz_w4 : wb.heap.size ≤ w4.heap.size := Nat.le_trans hsz_w3 b4.size
    clear o4 b4
    have V := V
    have Q := Q
    have oT := oT
    have oA := oA
    have oB := oB
    have hb := hb
    have k5 := seen_any all A1 all.length c1 T AT T.length cT _ rfl (by omega) rfl V.rd oT.rd
    rw [← HST.out] at k5
    rw [HLS.out] at k5
    have K5 := Lib.hid k5
    clear k5
    go_wp2_with fail
    refine K5.out.mono ?_
    rintro e w5 ⟨v5, rfl, o5, b5⟩
    obtain ⟨A5, c5, rfl⟩ := own_slice o5
    clear K5
    have V := V.after b5
    have Q := Q.after b5
    have oT := oT.after b5
    have oA := oA.after b5
    have oB := oB.after b5
    have hb := belowGo hb b5
    have oC : Ow _ _ _ _ _ _ _ := o5
    have hoC : wb.heap.size ≤ w4.heap.size := hsz_w4
    have hsz_w5 : wb.heap.size ≤ w5.heap.size := Nat.le_trans hsz_w4 b5.size
    clear o5 b5
    have V := V
    have Q := Q
    have oT := oT
    have oA := oA
    have oB := oB
    have oC := oC
    have hb := hb
    have k6 := kept_any all A1 all.length c1 T AT T.length cT _ rfl (by omega) rfl V.rd oT.rd
    rw [← HKT.out] at k6
    rw [HLK.out] at k6
    have K6 := Lib.hid k6
    clear k6
    go_wp2_with fail
    refine K6.out.mono ?_
    rintro e w6 ⟨v6, rfl, o6, b6⟩
    obtain ⟨A6, c6, rfl⟩ := own_slice o6
    clear K6
    have V := V.after b6
    have Q := Q.after b6
    have oT := oT.after b6
    have oA := oA.after b6
    have oB := oB.after b6
    have oC := oC.after b6
    have hb := belowGo hb b6
    have oD : Ow _ _ _ _ _ _ _ := o6
    have hoD : wb.heap.size ≤ w5.heap.size := hsz_w5
    have hsz_w6 : wb.heap.size ≤ w6.heap.size := Nat.le_trans hsz_w5 b6.size
    clear o6 b6
    have hszT : bf ≤ w6.heap.size := V.2
    have hmT := rd_new w6 #[.int .u64 more] 25 1 1 rfl (by unfold maxLen; omega) (Nat.lt_succ_self _)
    have oTa : (w6.alloc (.cells #[.int .u64 more] 25)).ownsRow bf 25 1 (.slice AT T.length cT) T.length (T.map (.int .u64)) := Ow.alloc oT _
    have hbTa : Below bf w6 (w6.alloc (.cells #[.int .u64 more] 25)) := (Below.refl _ _).alloc hszT _
    go_wp2_with (at_builtin; refine wpList_appK eltU64 rfl (.tmp 64) (.tmp 66) rfl rfl oTa rfl hmT (by simp [Value.oneCell']) (by omega) (by unfold maxLen; omega) hbTa (by simp; omega) ?_; intro vp7 wp7 op7 oTk7 hbp7 hgp7 _)
    have hrow7 := Ow.lo oT
    have V := (V.alloc (.cells #[.int .u64 more] 25)).grown hgp7 hrow7
    have Q := (Q.alloc (.cells #[.int .u64 more] 25)).grown hgp7 hrow7
    have oA := (oA.alloc (.cells #[.int .u64 more] 25)).grown hgp7 (fun g hg => Nat.lt_of_lt_of_le (hTg g hg) hoA)
    have oB := (oB.alloc (.cells #[.int .u64 more] 25)).grown hgp7 (fun g hg => Nat.lt_of_lt_of_le (hTg g hg) hoB)
    have oC := (oC.alloc (.cells #[.int .u64 more] 25)).grown hgp7 (fun g hg => Nat.lt_of_lt_of_le (hTg g hg) hoC)
    have oD := (oD.alloc (.cells #[.int .u64 more] 25)).grown hgp7 (fun g hg => Nat.lt_of_lt_of_le (hTg g hg) hoD)
    have oT : Ow wp7 bf 25 1 (.slice AT T.length cT) T.length (T.map (.int .u64)) := oTk7
    have hgg7 := (World.grownBy_alloc w6 (.cells #[.int .u64 more] 25) _).trans hgp7
    have hb := hb.grown hgg7 hb.size (fun g hg => Nat.le_trans hbf0 (hrow7 g hg))
    have hsz_wp7 : wb.heap.size ≤ wp7.heap.size := Nat.le_trans hsz_w6 hgg7.size
    obtain ⟨AP7, cP7, rfl⟩ := own_slice op7
    have HPm7 := Lib.hid (show T.map (Value.int .u64) ++ #[Value.int .u64 more].toList = (T ++ [more]).map (.int .u64) by rw [List.map_append]; rfl)
    rw [HPm7.out] at op7
    have oP : Ow wp7 bf 25 1 (.slice AP7 (T.length + 1) cP7) (T.length + 1) ((T ++ [more]).map (.int .u64)) := op7
    clear op7 oTk7 hbp7 hgp7 hmT oTa hbTa hszT hgg7 hrow7
    have V := V
    have Q := Q
    have oT := oT
    have oA := oA
    have oB := oB
    have oC := oC
    have oD := oD
    have oP := oP
    have hb := hb
    have k7 := seen_any all A1 all.length c1 (T ++ [more]) AP7 (T.length + 1) cP7 _ rfl (by omega) (by simp) V.rd oP.rd
    rw [HLE.out] at k7
    have K7 := Lib.hid k7
    clear k7
    go_wp2_with fail
    refine K7.out.mono ?_
    rintro e w7 ⟨v7, rfl, o7, b7⟩
    obtain ⟨A7, c7, rfl⟩ := own_slice o7
    clear K7
    have V := V.after b7
    have Q := Q.after b7
    have oT := oT.after b7
    have oA := oA.after b7
    have oB := oB.after b7
    have oC := oC.after b7
    have oD := oD.after b7
    have oP := oP.after b7
    have hb := belowGo hb b7
    have oE : Ow _ _ _ _ _ _ _ := o7
    have hoE : wb.heap.size ≤ wp7.heap.size := hsz_wp7
    have hsz_w7 : wb.heap.size ≤ w7.heap.size := Nat.le_trans hsz_wp7 b7.size
    clear o7 b7
    clear oP
    have hszT : bf ≤ w7.heap.size := V.2
    have hmT := rd_new w7 #[.int .u64 more] 25 1 1 rfl (by unfold maxLen; omega) (Nat.lt_succ_self _)
    have oTa : (w7.alloc (.cells #[.int .u64 more] 25)).ownsRow bf 25 1 (.slice AT T.length cT) T.length (T.map (.int .u64)) := Ow.alloc oT _
    have hbTa : Below bf w7 (w7.alloc (.cells #[.int .u64 more] 25)) := (Below.refl _ _).alloc hszT _
    go_wp2_with (at_builtin; refine wpList_appK eltU64 rfl (.tmp 70) (.tmp 72) rfl rfl oTa rfl hmT (by simp [Value.oneCell']) (by omega) (by unfold maxLen; omega) hbTa (by simp; omega) ?_; intro vp9 wp9 op9 oTk9 hbp9 hgp9 _)
    have hrow9 := Ow.lo oT
    have V := (V.alloc (.cells #[.int .u64 more] 25)).grown hgp9 hrow9
    have Q := (Q.alloc (.cells #[.int .u64 more] 25)).grown hgp9 hrow9
    have oA := (oA.alloc (.cells #[.int .u64 more] 25)).grown hgp9 (fun g hg => Nat.lt_of_lt_of_le (hTg g hg) hoA)
    have oB := (oB.alloc (.cells #[.int .u64 more] 25)).grown hgp9 (fun g hg => Nat.lt_of_lt_of_le (hTg g hg) hoB)
    have oC := (oC.alloc (.cells #[.int .u64 more] 25)).grown hgp9 (fun g hg => Nat.lt_of_lt_of_le (hTg g hg) hoC)
    have oD := (oD.alloc (.cells #[.int .u64 more] 25)).grown hgp9 (fun g hg => Nat.lt_of_lt_of_le (hTg g hg) hoD)
    have oE := (oE.alloc (.cells #[.int .u64 more] 25)).grown hgp9 (fun g hg => Nat.lt_of_lt_of_le (hTg g hg) hoE)
    have oT : Ow wp9 bf 25 1 (.slice AT T.length cT) T.length (T.map (.int .u64)) := oTk9
    have hgg9 := (World.grownBy_alloc w7 (.cells #[.int .u64 more] 25) _).trans hgp9
    have hb := hb.grown hgg9 hb.size (fun g hg => Nat.le_trans hbf0 (hrow9 g hg))
    have hsz_wp9 : wb.heap.size ≤ wp9.heap.size := Nat.le_trans hsz_w7 hgg9.size
    obtain ⟨AP9, cP9, rfl⟩ := own_slice op9
    have HPm9 := Lib.hid (show T.map (Value.int .u64) ++ #[Value.int .u64 more].toList = (T ++ [more]).map (.int .u64) by rw [List.map_append]; rfl)
    rw [HPm9.out] at op9
    have oP : Ow wp9 bf 25 1 (.slice AP9 (T.length + 1) cP9) (T.length + 1) ((T ++ [more]).map (.int .u64)) := op9
    clear op9 oTk9 hbp9 hgp9 hmT oTa hbTa hszT hgg9 hrow9
    have V := V
    have Q := Q
    have oT := oT
    have oA := oA
    have oB := oB
    have oC := oC
    have oD := oD
    have oE := oE
    have oP := oP
    have hb := hb
    have k10 := kept_any all A1 all.length c1 (T ++ [more]) AP9 (T.length + 1) cP9 _ rfl (by omega) (by simp) V.rd oP.rd
    rw [HLF.out] at k10
    have K10 := Lib.hid k10
    clear k10
    go_wp2_with fail
    refine K10.out.mono ?_
    rintro e w10 ⟨v10, rfl, o10, b10⟩
    obtain ⟨A10, c10, rfl⟩ := own_slice o10
    clear K10
    have V := V.after b10
    have Q := Q.after b10
    have oT := oT.after b10
    have oA := oA.after b10
    have oB := oB.after b10
    have oC := oC.after b10
    have oD := oD.after b10
    have oE := oE.after b10
    have oP := oP.after b10
    have hb := belowGo hb b10
    have oF : Ow _ _ _ _ _ _ _ := o10
    have hoF : wb.heap.size ≤ wp9.heap.size := hsz_wp9
    have hsz_w10 : wb.heap.size ≤ w10.heap.size := Nat.le_trans hsz_wp9 b10.size
    clear o10 b10
    clear oP
    have HF1 := Lib.hid (fun i => more_at (l := all) (i := i) HT.out more)
    have HKA := Lib.hid (kept_again (at_ := at1) HM.out)
    have HOA := Lib.hid (only_all HM.out at1)
    have HGS := Lib.hid (fun (i : Nat) (hi : i < all.length) => show (seenL all at1)[i]? = some (seenAt all at1 i) by unfold seenL; rw [if_pos HM.out]; simp [hi])
    have HGK := Lib.hid (fun (i : Nat) (hi : i < all.length) => show (keptL all at1)[i]? = some (keptAt all at1 i) by unfold keptL; rw [if_pos HM.out]; simp [hi])
    have HGE := Lib.hid (fun (i : Nat) (hi : i < all.length) => show (seenL all (T ++ [more]))[i]? = some (seenAt all (T ++ [more]) i) by unfold seenL; rw [if_pos HM.out]; simp [hi])
    have HGF := Lib.hid (fun (i : Nat) (hi : i < all.length) => show (keptL all (T ++ [more]))[i]? = some (keptAt all (T ++ [more]) i) by unfold keptL; rw [if_pos HM.out]; simp [hi])
    have RA := oA.rd
    have RB := oB.rd
    have RC := oC.rd
    have RD := oD.rd
    have RE := oE.rd
    have RF := oF.rd
    have VV := V.rd
    have QQ := Q.rd
    clear oA oB oC oD oE oF V Q oT hoA hoB hoC hoD hoE hoF hTg
    go_wp2
    go_loopw [18] (fun i wz => ∃ j : Nat, j ≤ all.length ∧ i = .int .i64 j ∧ ∃ q, wz = w10.drewN q) (fun i _ => all.length - (intOf i).toNat)
    case atStart => exact ⟨0, Nat.zero_le _, rfl, 0, rfl⟩
    case round =>
      obtain ⟨j, hj, rfl, q, rfl⟩ := hrel
      by_cases hlt : j < all.length
      · obtain ⟨b1, f1, rfl, _, hc1⟩ := RA.2.2 (by omega)
        obtain ⟨b2, f2, rfl, _, hc2⟩ := RB.2.2 (by omega)
        obtain ⟨b3, f3, rfl, _, hc3⟩ := RC.2.2 (by omega)
        obtain ⟨b4, f4, rfl, _, hc4⟩ := RD.2.2 (by omega)
        obtain ⟨b5, f5, rfl, _, hc5⟩ := RE.2.2 (by omega)
        obtain ⟨b6, f6, rfl, _, hc6⟩ := RF.2.2 (by omega)
        have d1 : w10.cell? ⟨b1, f1 + j, none⟩ = some (.bool (seenAt all at1 j)) := hc1 _ _ (by rw [List.getElem?_map, HGS.out j hlt]; rfl)
        have d2 : w10.cell? ⟨b2, f2 + j, none⟩ = some (.bool (keptAt all at1 j)) := hc2 _ _ (by rw [List.getElem?_map, HGK.out j hlt]; rfl)
        have d3 : w10.cell? ⟨b3, f3 + j, none⟩ = some (.bool (seenAt all at1 j)) := hc3 _ _ (by rw [List.getElem?_map, HGS.out j hlt]; rfl)
        have d4 : w10.cell? ⟨b4, f4 + j, none⟩ = some (.bool (keptAt all at1 j)) := hc4 _ _ (by rw [List.getElem?_map, HGK.out j hlt]; rfl)
        have d5 : w10.cell? ⟨b5, f5 + j, none⟩ = some (.bool (seenAt all (T ++ [more]) j)) := hc5 _ _ (by rw [List.getElem?_map, HGE.out j hlt]; rfl)
        have d6 : w10.cell? ⟨b6, f6 + j, none⟩ = some (.bool (keptAt all (T ++ [more]) j)) := hc6 _ _ (by rw [List.getElem?_map, HGF.out j hlt]; rfl)
        have i1 : (j : Int) < (all.length : Int) := by omega
        obtain ⟨g1, g2, g3⟩ := HF1.out j
        generalize seenAt all at1 j = x at *
        generalize keptAt all at1 j = y at *
        generalize seenAt all (T ++ [more]) j = x2 at *
        generalize keptAt all (T ++ [more]) j = y2 at *
        clear hc1 hc2 hc3 hc4 hc5 hc6
        cases x with
        | false =>
          have hy : y = false := by cases y <;> simp_all
          subst hy
          clear g1 g2 g3
          go_wp2
          go_quiet (fail)
          go_wp2
          go_roundw
          case rel => exact ⟨j + 1, by omega, by go_num, by first | exact ⟨_, rfl⟩ | exact ⟨_, World.drewN_drewN _ _ _⟩⟩
          case measure => simp [intOf]; omega
        | true =>
          have hx2 := g1 rfl
          subst hx2
          cases y with
          | false =>
            clear g1 g2 g3
            go_wp2
            go_quiet (fail)
            go_wp2
            go_roundw
            case rel => exact ⟨j + 1, by omega, by go_num, by first | exact ⟨_, rfl⟩ | exact ⟨_, World.drewN_drewN _ _ _⟩⟩
            case measure => simp [intOf]; omega
          | true =>
            have hy2 := g2 rfl
            subst hy2
            clear g1 g2 g3
            go_wp2
            go_quiet (fail)
            go_wp2
            go_roundw
            case rel => exact ⟨j + 1, by omega, by go_num, by first | exact ⟨_, rfl⟩ | exact ⟨_, World.drewN_drewN _ _ _⟩⟩
            case measure => simp [intOf]; omega
      · obtain rfl : j = all.length := by omega
        obtain ⟨wo, hwo⟩ : ∃ wo : World, wo = w10.drewN q := ⟨_, rfl⟩
        have hsw : w10.heap.size = wo.heap.size := by rw [hwo]; rfl
        have VO := VV.drewN q
        have QO := QQ.drewN q
        have BO := RB.drewN q
        rw [← hwo, hsw] at VO QO BO
        have hbo : Below w.heap.size w wo := by rw [hwo]; exact below_drewN hb _
        have HKA2 := HKA
        rw [← HOA.out] at HKA2
        have HKA2 := Lib.hid HKA2.out
        rw [← hwo]
        clear hsw hwo RA RB RC RD RE RF VV QQ hb HGS HGK HGE HGF HF1 HKA HOA
        have VO := VO
        have QO := QO
        have BO := BO
        have hb := hbo
        have k21 := only_any all A1 all.length c1 (keptL all at1) _ all.length c4 (-1) _ rfl (by omega) HLK.out (by omega) VO BO
        have K21 := Lib.hid k21
        clear k21
        go_wp2_with fail
        refine K21.out.mono ?_
        rintro e w21 ⟨v21, rfl, o21, b21⟩
        obtain ⟨A21, c21, rfl⟩ := own_slice o21
        clear K21
        have VO := VO.after b21
        have QO := QO.after b21
        have BO := BO.after b21
        have hb := belowGo hb b21
        have K := own_rd o21
        have hkl := onlyL_len all (keptL all at1) (-1)
        generalize onlyL all (keptL all at1) (-1) = kept at *
        clear o21
        have QO := QO
        have K := K
        have hb := hb
        have k22 := kept_any kept A21 kept.length c21 at1 _ k' c' _ rfl (by omega) HAt.out K QO
        rw [HKA2.out] at k22
        rw [List.length_replicate] at k22
        have K22 := Lib.hid k22
        clear k22
        go_wp2_with fail
        refine K22.out.mono ?_
        rintro e w22 ⟨v22, rfl, o22, b22⟩
        obtain ⟨A22, c22, rfl⟩ := own_slice o22
        clear K22
        have QO := QO.after b22
        have K := K.after b22
        have hb := belowGo hb b22
        have G := own_rd o22
        have G := G
        have hb := hb
        have k23 := which_any (List.replicate kept.length true) A22 kept.length c22 _ (by simp) (by omega) G
        rw [which_true] at k23
        have K23 := Lib.hid k23
        clear k23
        go_wp2_with fail
        refine K23.out.mono ?_
        rintro e w23 ⟨v23, rfl, o23, b23⟩
        obtain ⟨A23, c23, rfl⟩ := own_slice o23
        clear K23
        have G := G.after b23
        have hb := belowGo hb b23
        have hb := hb
        have k24 := knows_any w23
        have K24 := Lib.hid k24
        clear k24
        go_wp2_with fail
        refine K24.out.mono ?_
        rintro e w24 ⟨rfl, b24⟩
        clear K24
        have hb := belowGo hb b24
        go_wp2
        go_ret
        exact ⟨rfl, hb⟩
  · obtain ⟨wb, hwb⟩ : ∃ wb : World, wb = wt := ⟨_, rfl⟩
    subst hwb
    have ob := ot
    have hbb := hb2
    have hb := belowGo hb hbb
    obtain ⟨T, hT⟩ : ∃ T, T = at1 := ⟨_, rfl⟩
    have HT := Lib.hid (show ∀ x, x ∈ at1 ↔ x ∈ T from fun x => by rw [hT])
    have hTL : 0 + k' = T.length := by rw [hT, HAt.out, Nat.zero_add]
    have hTm : [] ++ at1.map (Value.int .u64) = T.map (.int .u64) := by rw [hT]; rfl
    rw [hTL, hTm] at ob
    have hT40 : T.length ≤ 21 := by omega
    obtain ⟨AT, cT, rfl⟩ := own_slice ob
    obtain ⟨bf, V, Q, oT, hbf0⟩ : ∃ bf, RdB wb bf 2 A1 all.length (vcells all) ∧ RdB wb bf 1 A' k' (at1.map (.int .u64)) ∧ Ow wb bf 25 1 (.slice AT T.length cT) T.length (T.map (.int .u64)) ∧ w.heap.size ≤ bf := ⟨_, V0.after hbb, Q0.after hbb, ob, hw1⟩
    clear hT hTL hTm ob hbb V0 Q0
    have hTg := Ow.hi oT
    have hsz_wb := Nat.le_refl wb.heap.size
    have HLS := Lib.hid ((seenL_len HM.out at1))
    have HLK := Lib.hid ((keptL_len HM.out at1))
    have HLE := Lib.hid ((seenL_len HM.out (T ++ [more])))
    have HLF := Lib.hid ((keptL_len HM.out (T ++ [more])))
    have HST := Lib.hid (seenL_set (l := all) HT.out)
    have HKT := Lib.hid (keptL_set (l := all) HT.out)
    have V := V
    have Q := Q
    have oT := oT
    have hb := hb
    have k3 := seen_any all A1 all.length c1 at1 _ k' c' _ rfl (by omega) HAt.out V.rd Q.rd
    rw [HLS.out] at k3
    have K3 := Lib.hid k3
    clear k3
    go_wp2_with fail
    refine K3.out.mono ?_
    rintro e w3 ⟨v3, rfl, o3, b3⟩
    obtain ⟨A3, c3, rfl⟩ := own_slice o3
    clear K3
    have V := V.after b3
    have Q := Q.after b3
    have oT := oT.after b3
    have hb := belowGo hb b3
    have oA : Ow _ _ _ _ _ _ _ := o3
    have hoA : wb.heap.size ≤ wb.heap.size := hsz_wb
    have hsz_w3 : wb.heap.size ≤ w3.heap.size := Nat.le_trans hsz_wb b3.size
    clear o3 b3
    have V := V
    have Q := Q
    have oT := oT
    have oA := oA
    have hb := hb
    have k4 := kept_any all A1 all.length c1 at1 _ k' c' _ rfl (by omega) HAt.out V.rd Q.rd
    rw [HLK.out] at k4
    have K4 := Lib.hid k4
    clear k4
    go_wp2_with fail
    refine K4.out.mono ?_
    rintro e w4 ⟨v4, rfl, o4, b4⟩
    obtain ⟨A4, c4, rfl⟩ := own_slice o4
    clear K4
    have V := V.after b4
    have Q := Q.after b4
    have oT := oT.after b4
    have oA := oA.after b4
    have hb := belowGo hb b4
    have oB : Ow _ _ _ _ _ _ _ := o4
    have hoB : wb.heap.size ≤ w3.heap.size := hsz_w3
    have hsz_w4 : wb.heap.size ≤ w4.heap.size := Nat.le_trans hsz_w3 b4.size
    clear o4 b4
    have V := V
    have Q := Q
    have oT := oT
    have oA := oA
    have oB := oB
    have hb := hb
    have k5 := seen_any all A1 all.length c1 T AT T.length cT _ rfl (by omega) rfl V.rd oT.rd
    rw [← HST.out] at k5
    rw [HLS.out] at k5
    have K5 := Lib.hid k5
    clear k5
    go_wp2_with fail
    refine K5.out.mono ?_
    rintro e w5 ⟨v5, rfl, o5, b5⟩
    obtain ⟨A5, c5, rfl⟩ := own_slice o5
    clear K5
    have V := V.after b5
    have Q := Q.after b5
    have oT := oT.after b5
    have oA := oA.after b5
    have oB := oB.after b5
    have hb := belowGo hb b5
    have oC : Ow _ _ _ _ _ _ _ := o5
    have hoC : wb.heap.size ≤ w4.heap.size := hsz_w4
    have hsz_w5 : wb.heap.size ≤ w5.heap.size := Nat.le_trans hsz_w4 b5.size
    clear o5 b5
    have V := V
    have Q := Q
    have oT := oT
    have oA := oA
    have oB := oB
    have oC := oC
    have hb := hb
    have k6 := kept_any all A1 all.length c1 T AT T.length cT _ rfl (by omega) rfl V.rd oT.rd
    rw [← HKT.out] at k6
    rw [HLK.out] at k6
    have K6 := Lib.hid k6
    clear k6
    go_wp2_with fail
    refine K6.out.mono ?_
    rintro e w6 ⟨v6, rfl, o6, b6⟩
    obtain ⟨A6, c6, rfl⟩ := own_slice o6
    clear K6
    have V := V.after b6
    have Q := Q.after b6
    have oT := oT.after b6
    have oA := oA.after b6
    have oB := oB.after b6
    have oC := oC.after b6
    have hb := belowGo hb b6
    have oD : Ow _ _ _ _ _ _ _ := o6
    have hoD : wb.heap.size ≤ w5.heap.size := hsz_w5
    have hsz_w6 : wb.heap.size ≤ w6.heap.size := Nat.le_trans hsz_w5 b6.size
    clear o6 b6
    have hszT : bf ≤ w6.heap.size := V.2
    have hmT := rd_new w6 #[.int .u64 more] 25 1 1 rfl (by unfold maxLen; omega) (Nat.lt_succ_self _)
    have oTa : (w6.alloc (.cells #[.int .u64 more] 25)).ownsRow bf 25 1 (.slice AT T.length cT) T.length (T.map (.int .u64)) := Ow.alloc oT _
    have hbTa : Below bf w6 (w6.alloc (.cells #[.int .u64 more] 25)) := (Below.refl _ _).alloc hszT _
    go_wp2_with (at_builtin; refine wpList_appK eltU64 rfl (.tmp 64) (.tmp 66) rfl rfl oTa rfl hmT (by simp [Value.oneCell']) (by omega) (by unfold maxLen; omega) hbTa (by simp; omega) ?_; intro vp7 wp7 op7 oTk7 hbp7 hgp7 _)
    have hrow7 := Ow.lo oT
    have V := (V.alloc (.cells #[.int .u64 more] 25)).grown hgp7 hrow7
    have Q := (Q.alloc (.cells #[.int .u64 more] 25)).grown hgp7 hrow7
    have oA := (oA.alloc (.cells #[.int .u64 more] 25)).grown hgp7 (fun g hg => Nat.lt_of_lt_of_le (hTg g hg) hoA)
    have oB := (oB.alloc (.cells #[.int .u64 more] 25)).grown hgp7 (fun g hg => Nat.lt_of_lt_of_le (hTg g hg) hoB)
    have oC := (oC.alloc (.cells #[.int .u64 more] 25)).grown hgp7 (fun g hg => Nat.lt_of_lt_of_le (hTg g hg) hoC)
    have oD := (oD.alloc (.cells #[.int .u64 more] 25)).grown hgp7 (fun g hg => Nat.lt_of_lt_of_le (hTg g hg) hoD)
    have oT : Ow wp7 bf 25 1 (.slice AT T.length cT) T.length (T.map (.int .u64)) := oTk7
    have hgg7 := (World.grownBy_alloc w6 (.cells #[.int .u64 more] 25) _).trans hgp7
    have hb := hb.grown hgg7 hb.size (fun g hg => Nat.le_trans hbf0 (hrow7 g hg))
    have hsz_wp7 : wb.heap.size ≤ wp7.heap.size := Nat.le_trans hsz_w6 hgg7.size
    obtain ⟨AP7, cP7, rfl⟩ := own_slice op7
    have HPm7 := Lib.hid (show T.map (Value.int .u64) ++ #[Value.int .u64 more].toList = (T ++ [more]).map (.int .u64) by rw [List.map_append]; rfl)
    rw [HPm7.out] at op7
    have oP : Ow wp7 bf 25 1 (.slice AP7 (T.length + 1) cP7) (T.length + 1) ((T ++ [more]).map (.int .u64)) := op7
    clear op7 oTk7 hbp7 hgp7 hmT oTa hbTa hszT hgg7 hrow7
    have V := V
    have Q := Q
    have oT := oT
    have oA := oA
    have oB := oB
    have oC := oC
    have oD := oD
    have oP := oP
    have hb := hb
    have k7 := seen_any all A1 all.length c1 (T ++ [more]) AP7 (T.length + 1) cP7 _ rfl (by omega) (by simp) V.rd oP.rd
    rw [HLE.out] at k7
    have K7 := Lib.hid k7
    clear k7
    go_wp2_with fail
    refine K7.out.mono ?_
    rintro e w7 ⟨v7, rfl, o7, b7⟩
    obtain ⟨A7, c7, rfl⟩ := own_slice o7
    clear K7
    have V := V.after b7
    have Q := Q.after b7
    have oT := oT.after b7
    have oA := oA.after b7
    have oB := oB.after b7
    have oC := oC.after b7
    have oD := oD.after b7
    have oP := oP.after b7
    have hb := belowGo hb b7
    have oE : Ow _ _ _ _ _ _ _ := o7
    have hoE : wb.heap.size ≤ wp7.heap.size := hsz_wp7
    have hsz_w7 : wb.heap.size ≤ w7.heap.size := Nat.le_trans hsz_wp7 b7.size
    clear o7 b7
    clear oP
    have hszT : bf ≤ w7.heap.size := V.2
    have hmT := rd_new w7 #[.int .u64 more] 25 1 1 rfl (by unfold maxLen; omega) (Nat.lt_succ_self _)
    have oTa : (w7.alloc (.cells #[.int .u64 more] 25)).ownsRow bf 25 1 (.slice AT T.length cT) T.length (T.map (.int .u64)) := Ow.alloc oT _
    have hbTa : Below bf w7 (w7.alloc (.cells #[.int .u64 more] 25)) := (Below.refl _ _).alloc hszT _
    go_wp2_with (at_builtin; refine wpList_appK eltU64 rfl (.tmp 70) (.tmp 72) rfl rfl oTa rfl hmT (by simp [Value.oneCell']) (by omega) (by unfold maxLen; omega) hbTa (by simp; omega) ?_; intro vp9 wp9 op9 oTk9 hbp9 hgp9 _)
    have hrow9 := Ow.lo oT
    have V := (V.alloc (.cells #[.int .u64 more] 25)).grown hgp9 hrow9
    have Q := (Q.alloc (.cells #[.int .u64 more] 25)).grown hgp9 hrow9
    have oA := (oA.alloc (.cells #[.int .u64 more] 25)).grown hgp9 (fun g hg => Nat.lt_of_lt_of_le (hTg g hg) hoA)
    have oB := (oB.alloc (.cells #[.int .u64 more] 25)).grown hgp9 (fun g hg => Nat.lt_of_lt_of_le (hTg g hg) hoB)
    have oC := (oC.alloc (.cells #[.int .u64 more] 25)).grown hgp9 (fun g hg => Nat.lt_of_lt_of_le (hTg g hg) hoC)
    have oD := (oD.alloc (.cells #[.int .u64 more] 25)).grown hgp9 (fun g hg => Nat.lt_of_lt_of_le (hTg g hg) hoD)
    have oE := (oE.alloc (.cells #[.int .u64 more] 25)).grown hgp9 (fun g hg => Nat.lt_of_lt_of_le (hTg g hg) hoE)
    have oT : Ow wp9 bf 25 1 (.slice AT T.length cT) T.length (T.map (.int .u64)) := oTk9
    have hgg9 := (World.grownBy_alloc w7 (.cells #[.int .u64 more] 25) _).trans hgp9
    have hb := hb.grown hgg9 hb.size (fun g hg => Nat.le_trans hbf0 (hrow9 g hg))
    have hsz_wp9 : wb.heap.size ≤ wp9.heap.size := Nat.le_trans hsz_w7 hgg9.size
    obtain ⟨AP9, cP9, rfl⟩ := own_slice op9
    have HPm9 := Lib.hid (show T.map (Value.int .u64) ++ #[Value.int .u64 more].toList = (T ++ [more]).map (.int .u64) by rw [List.map_append]; rfl)
    rw [HPm9.out] at op9
    have oP : Ow wp9 bf 25 1 (.slice AP9 (T.length + 1) cP9) (T.length + 1) ((T ++ [more]).map (.int .u64)) := op9
    clear op9 oTk9 hbp9 hgp9 hmT oTa hbTa hszT hgg9 hrow9
    have V := V
    have Q := Q
    have oT := oT
    have oA := oA
    have oB := oB
    have oC := oC
    have oD := oD
    have oE := oE
    have oP := oP
    have hb := hb
    have k10 := kept_any all A1 all.length c1 (T ++ [more]) AP9 (T.length + 1) cP9 _ rfl (by omega) (by simp) V.rd oP.rd
    rw [HLF.out] at k10
    have K10 := Lib.hid k10
    clear k10
    go_wp2_with fail
    refine K10.out.mono ?_
    rintro e w10 ⟨v10, rfl, o10, b10⟩
    obtain ⟨A10, c10, rfl⟩ := own_slice o10
    clear K10
    have V := V.after b10
    have Q := Q.after b10
    have oT := oT.after b10
    have oA := oA.after b10
    have oB := oB.after b10
    have oC := oC.after b10
    have oD := oD.after b10
    have oE := oE.after b10
    have oP := oP.after b10
    have hb := belowGo hb b10
    have oF : Ow _ _ _ _ _ _ _ := o10
    have hoF : wb.heap.size ≤ wp9.heap.size := hsz_wp9
    have hsz_w10 : wb.heap.size ≤ w10.heap.size := Nat.le_trans hsz_wp9 b10.size
    clear o10 b10
    clear oP
    have HF1 := Lib.hid (fun i => more_at (l := all) (i := i) HT.out more)
    have HKA := Lib.hid (kept_again (at_ := at1) HM.out)
    have HOA := Lib.hid (only_all HM.out at1)
    have HGS := Lib.hid (fun (i : Nat) (hi : i < all.length) => show (seenL all at1)[i]? = some (seenAt all at1 i) by unfold seenL; rw [if_pos HM.out]; simp [hi])
    have HGK := Lib.hid (fun (i : Nat) (hi : i < all.length) => show (keptL all at1)[i]? = some (keptAt all at1 i) by unfold keptL; rw [if_pos HM.out]; simp [hi])
    have HGE := Lib.hid (fun (i : Nat) (hi : i < all.length) => show (seenL all (T ++ [more]))[i]? = some (seenAt all (T ++ [more]) i) by unfold seenL; rw [if_pos HM.out]; simp [hi])
    have HGF := Lib.hid (fun (i : Nat) (hi : i < all.length) => show (keptL all (T ++ [more]))[i]? = some (keptAt all (T ++ [more]) i) by unfold keptL; rw [if_pos HM.out]; simp [hi])
    have RA := oA.rd
    have RB := oB.rd
    have RC := oC.rd
    have RD := oD.rd
    have RE := oE.rd
    have RF := oF.rd
    have VV := V.rd
    have QQ := Q.rd
    clear oA oB oC oD oE oF V Q oT hoA hoB hoC hoD hoE hoF hTg
    go_wp2
    go_loopw [18] (fun i wz => ∃ j : Nat, j ≤ all.length ∧ i = .int .i64 j ∧ ∃ q, wz = w10.drewN q) (fun i _ => all.length - (intOf i).toNat)
    case atStart => exact ⟨0, Nat.zero_le _, rfl, 0, rfl⟩
    case round =>
      obtain ⟨j, hj, rfl, q, rfl⟩ := hrel
      by_cases hlt : j < all.length
      · obtain ⟨b1, f1, rfl, _, hc1⟩ := RA.2.2 (by omega)
        obtain ⟨b2, f2, rfl, _, hc2⟩ := RB.2.2 (by omega)
        obtain ⟨b3, f3, rfl, _, hc3⟩ := RC.2.2 (by omega)
        obtain ⟨b4, f4, rfl, _, hc4⟩ := RD.2.2 (by omega)
        obtain ⟨b5, f5, rfl, _, hc5⟩ := RE.2.2 (by omega)
        obtain ⟨b6, f6, rfl, _, hc6⟩ := RF.2.2 (by omega)
        have d1 : w10.cell? ⟨b1, f1 + j, none⟩ = some (.bool (seenAt all at1 j)) := hc1 _ _ (by rw [List.getElem?_map, HGS.out j hlt]; rfl)
        have d2 : w10.cell? ⟨b2, f2 + j, none⟩ = some (.bool (keptAt all at1 j)) := hc2 _ _ (by rw [List.getElem?_map, HGK.out j hlt]; rfl)
        have d3 : w10.cell? ⟨b3, f3 + j, none⟩ = some (.bool (seenAt all at1 j)) := hc3 _ _ (by rw [List.getElem?_map, HGS.out j hlt]; rfl)
        have d4 : w10.cell? ⟨b4, f4 + j, none⟩ = some (.bool (keptAt all at1 j)) := hc4 _ _ (by rw [List.getElem?_map, HGK.out j hlt]; rfl)
        have d5 : w10.cell? ⟨b5, f5 + j, none⟩ = some (.bool (seenAt all (T ++ [more]) j)) := hc5 _ _ (by rw [List.getElem?_map, HGE.out j hlt]; rfl)
        have d6 : w10.cell? ⟨b6, f6 + j, none⟩ = some (.bool (keptAt all (T ++ [more]) j)) := hc6 _ _ (by rw [List.getElem?_map, HGF.out j hlt]; rfl)
        have i1 : (j : Int) < (all.length : Int) := by omega
        obtain ⟨g1, g2, g3⟩ := HF1.out j
        generalize seenAt all at1 j = x at *
        generalize keptAt all at1 j = y at *
        generalize seenAt all (T ++ [more]) j = x2 at *
        generalize keptAt all (T ++ [more]) j = y2 at *
        clear hc1 hc2 hc3 hc4 hc5 hc6
        cases x with
        | false =>
          have hy : y = false := by cases y <;> simp_all
          subst hy
          clear g1 g2 g3
          go_wp2
          go_quiet (fail)
          go_wp2
          go_roundw
          case rel => exact ⟨j + 1, by omega, by go_num, by first | exact ⟨_, rfl⟩ | exact ⟨_, World.drewN_drewN _ _ _⟩⟩
          case measure => simp [intOf]; omega
        | true =>
          have hx2 := g1 rfl
          subst hx2
          cases y with
          | false =>
            clear g1 g2 g3
            go_wp2
            go_quiet (fail)
            go_wp2
            go_roundw
            case rel => exact ⟨j + 1, by omega, by go_num, by first | exact ⟨_, rfl⟩ | exact ⟨_, World.drewN_drewN _ _ _⟩⟩
            case measure => simp [intOf]; omega
          | true =>
            have hy2 := g2 rfl
            subst hy2
            clear g1 g2 g3
            go_wp2
            go_quiet (fail)
            go_wp2
            go_roundw
            case rel => exact ⟨j + 1, by omega, by go_num, by first | exact ⟨_, rfl⟩ | exact ⟨_, World.drewN_drewN _ _ _⟩⟩
            case measure => simp [intOf]; omega
      · obtain rfl : j = all.length := by omega
        obtain ⟨wo, hwo⟩ : ∃ wo : World, wo = w10.drewN q := ⟨_, rfl⟩
        have hsw : w10.heap.size = wo.heap.size := by rw [hwo]; rfl
        have VO := VV.drewN q
        have QO := QQ.drewN q
        have BO := RB.drewN q
        rw [← hwo, hsw] at VO QO BO
        have hbo : Below w.heap.size w wo := by rw [hwo]; exact below_drewN hb _
        have HKA2 := HKA
        rw [← HOA.out] at HKA2
        have HKA2 := Lib.hid HKA2.out
        rw [← hwo]
        clear hsw hwo RA RB RC RD RE RF VV QQ hb HGS HGK HGE HGF HF1 HKA HOA
        have VO := VO
        have QO := QO
        have BO := BO
        have hb := hbo
        have k21 := only_any all A1 all.length c1 (keptL all at1) _ all.length c4 (-1) _ rfl (by omega) HLK.out (by omega) VO BO
        have K21 := Lib.hid k21
        clear k21
        go_wp2_with fail
        refine K21.out.mono ?_
        rintro e w21 ⟨v21, rfl, o21, b21⟩
        obtain ⟨A21, c21, rfl⟩ := own_slice o21
        clear K21
        have VO := VO.after b21
        have QO := QO.after b21
        have BO := BO.after b21
        have hb := belowGo hb b21
        have K := own_rd o21
        have hkl := onlyL_len all (keptL all at1) (-1)
        generalize onlyL all (keptL all at1) (-1) = kept at *
        clear o21
        have QO := QO
        have K := K
        have hb := hb
        have k22 := kept_any kept A21 kept.length c21 at1 _ k' c' _ rfl (by omega) HAt.out K QO
        rw [HKA2.out] at k22
        rw [List.length_replicate] at k22
        have K22 := Lib.hid k22
        clear k22
        go_wp2_with fail
        refine K22.out.mono ?_
        rintro e w22 ⟨v22, rfl, o22, b22⟩
        obtain ⟨A22, c22, rfl⟩ := own_slice o22
        clear K22
        have QO := QO.after b22
        have K := K.after b22
        have hb := belowGo hb b22
        have G := own_rd o22
        have G := G
        have hb := hb
        have k23 := which_any (List.replicate kept.length true) A22 kept.length c22 _ (by simp) (by omega) G
        rw [which_true] at k23
        have K23 := Lib.hid k23
        clear k23
        go_wp2_with fail
        refine K23.out.mono ?_
        rintro e w23 ⟨v23, rfl, o23, b23⟩
        obtain ⟨A23, c23, rfl⟩ := own_slice o23
        clear K23
        have G := G.after b23
        have hb := belowGo hb b23
        have hb := hb
        have k24 := knows_any w23
        have K24 := Lib.hid k24
        clear k24
        go_wp2_with fail
        refine K24.out.mono ?_
        rintro e w24 ⟨rfl, b24⟩
        clear K24
        have hb := belowGo hb b24
        go_wp2
        go_ret
        exact ⟨rfl, hb⟩
end Go.Proofs.Ytpeccfopffgmiaa
