/- What the law MlogKnown comes to: true. -/
import Derived.Test.YtmahadcohnhdkaaDoorMl5
namespace Go.Proofs.YtmahadcohnhdkaaDoor
open Go.RowKit
attribute [local go_sem] Oper.semAt_some

def d0 : Ed := ⟨0, [], 0, 0, []⟩
def d1 : Ed := ⟨1, [], 0, 0, []⟩
def d9 : Ed := ⟨9, [], 0, 0, []⟩
def d4 : Ed := ⟨4, [], 0, 7, []⟩
theorem fits0 {k : Int} {i : Nat} (hi : i < 4294967296) : (Ed.mk k [] 0 i []).fits := ⟨by show 0 < _; decide, hi, by show 0 ≤ _; decide, fun s hs => by cases hs⟩
theorem may4 : mayEd d4 = true := by decide +kernel
theorem frame4 : (frameB d4).length = 14 := by rw [frameB_len]; decide +kernel
def Z8 : List UInt8 := List.replicate 8 0
theorem get_none : frGet [] = (Ed.none, 0, 22) := rfl
theorem get_z8 : frGet Z8 = (Ed.none, 0, 23) := by
  unfold frGet
  rw [if_neg (by decide), if_pos (Or.inl (by decide +kernel))]
theorem begin0 : replayM (bytesM []) = ([], 16, 0) := by
  have h := replay_begin (l := []) (fun d hd => by cases hd) (k := 16) (by rw [bytesM_len]; simp) (by omega)
  rw [List.take_of_length_le (by rw [bytesM_len]; simp)] at h
  rw [h]
  rfl

set_option maxRecDepth 100000 in
set_option maxHeartbeats 8000000 in
theorem knownM_walk (w : World) (hT : Tab w) : Calls Tryd.prog 4 #[] w fun e w' => e = .returned (.bool true) ∧ Below w.heap.size w w' := by
  have HTL := Lib.hid hT.1
  have HT := Lib.hid hT
  have P1 := Lib.hid (putM_any d0 (fits0 (by decide)) none 0 0 w hT rfl (Rd.nil_ _ _ _ _) (Nat.le_refl _))
  unfold RetPutM at P1
  rw [show mayEd d0 = false from by decide +kernel, show putM d0 = [] from by unfold putM; rw [show mayEd d0 = false from by decide +kernel]; rfl, if_neg (by decide)] at P1
  clear hT
  go_enter Tryd.func4, Tryd.ntmps4
  go_wp2_with fail
  refine P1.out.mono ?_
  rintro e w1 ⟨v1, rfl, o1, b1⟩
  have HB := Lib.hid b1
  clear P1 o1 b1
  have q2 := Blk.new w1 31 #[.int .i64 1, .string ⟨#[]⟩, .int .u64 0, .int .u32 0, .slice none 0 0, .int .i64 9, .string ⟨#[]⟩, .int .u64 0, .int .u32 0, .slice none 0 0]
  have bz := belowAlloc (Below.refl w1.heap.size w1) (.cells #[.int .i64 1, .string ⟨#[]⟩, .int .u64 0, .int .u32 0, .slice none 0 0, .int .i64 9, .string ⟨#[]⟩, .int .u64 0, .int .u32 0, .slice none 0 0] 31)
  have HB := Lib.hid (belowGo HB.out bz)
  have B2 := Lib.hid (bytesM_any [⟨d1, none, 0, 0⟩, ⟨d9, none, 0, 0⟩] (some ⟨w1.heap.size, 0, none⟩) 2 2 _ (HT.out.below HB.out HTL.out) rfl (by omega) (q2.rd rfl (by unfold maxLen; omega)) (fun x hx => by
    rcases List.mem_cons.1 hx with rfl | hx
    · exact ⟨fits0 (by decide), rfl, Nat.le_refl _, Rd.nil_ _ _ _ _⟩
    · rw [List.mem_singleton.1 hx]; exact ⟨fits0 (by decide), rfl, Nat.le_refl _, Rd.nil_ _ _ _ _⟩))
  unfold RetBytes at B2
  rw [show (([⟨d1, none, 0, 0⟩, ⟨d9, none, 0, 0⟩] : List EdX).map EdX.d).all mayEd = false from by decide +kernel, show bytesP (([⟨d1, none, 0, 0⟩, ⟨d9, none, 0, 0⟩] : List EdX).map EdX.d) = [] from by unfold bytesP; rw [show (([⟨d1, none, 0, 0⟩, ⟨d9, none, 0, 0⟩] : List EdX).map EdX.d).all mayEd = false from by decide +kernel]; rfl, if_neg (by decide)] at B2
  clear q2 bz
  go_wp2_with fail
  refine B2.out.mono ?_
  rintro e w2 ⟨v2, rfl, o2, b2⟩
  have HB := Lib.hid (belowGo HB.out b2)
  have B3 := Lib.hid (bytesM_any [] none 0 0 w2 (HT.out.below HB.out HTL.out) rfl (by omega) (Rd.nil_ _ _ _ _) (fun x hx => by cases hx))
  unfold RetBytes at B3
  rw [show (([] : List EdX).map EdX.d) = [] from rfl, show ([] : List Ed).all mayEd = true from rfl, show bytesP [] = bytesM [] from rfl, if_pos rfl, show (bytesM []).length = 16 from by rw [bytesM_len]; rfl] at B3
  clear B2 o2 b2
  go_wp2_with fail
  refine B3.out.mono ?_
  rintro e w3 ⟨v3, rfl, o3, b3⟩
  have HB := Lib.hid (belowGo HB.out b3)
  obtain ⟨A3, c3, rfl, hc3⟩ := own_cap o3
  have R4 := Lib.hid (replay_any (bytesM []) A3 16 c3 w3 (HT.out.below HB.out HTL.out) hc3 (by omega) (Rd.of_own o3))
  unfold RetReplay at R4
  rw [begin0] at R4
  clear B3 o3 b3
  go_wp2_with fail
  refine R4.out.mono ?_
  rintro e w4 ⟨v4, X4, rfl, hx4, o4, -, b4⟩
  obtain rfl : X4 = [] := by simpa using hx4
  obtain ⟨A4, c4, rfl, -⟩ := own_cap o4
  have HB := Lib.hid (belowGo HB.out b4)
  have G5 := Lib.hid (getM_any [] none 0 0 w4 (HT.out.below HB.out HTL.out) (Nat.le_refl _) (Rd.nil_ _ _ _ _))
  unfold RetFr at G5
  rw [get_none] at G5
  clear R4 o4 b4 hx4
  go_wp2_with fail
  refine G5.out.mono ?_
  rintro e w5 ⟨v5, rfl, o5, b5⟩
  obtain ⟨A5, c5, rfl, -⟩ := own_cap o5
  have HB := Lib.hid (belowGo HB.out b5)
  clear G5 o5 b5
  rw [show edC Ed.none ⟨Ed.none.name.toArray⟩ (.slice A5 Ed.none.seals.length c5) = #[.int .i64 0, .string ⟨#[]⟩, .int .u64 0, .int .u32 0, .slice A5 0 c5] from rfl]
  have qn := Blk.new w5 31 #[.int .i64 0, .string ⟨#[]⟩, .int .u64 0, .int .u32 0, .slice none 0 0]
  have bz := row_below (belowAlloc (Below.refl w5.heap.size w5) (.cells #[.int .i64 0, .string ⟨#[]⟩, .int .u64 0, .int .u32 0, .slice none 0 0] 31)) (Nat.le_refl _) #[.int .i64 0, .string ⟨#[]⟩, .int .u64 0, .int .u32 0, .slice A5 0 c5]
  have QN := Lib.hid qn
  have QA := Lib.hid (qn.row #[.int .i64 0, .string ⟨#[]⟩, .int .u64 0, .int .u32 0, .slice A5 0 c5])
  have HB := Lib.hid (belowGo HB.out bz)
  obtain ⟨ga, hga⟩ : ∃ g, g = w5.heap.size := ⟨_, rfl⟩
  clear qn bz
  go_upto_region 6 with (first
    | (refine wpList_storeB rfl 31 (.tmp 10) (.tmp 45) rfl rfl rfl QN.out (by kernel_rfl) (by rfl) (by simp [Value.oneCell']) ?_)
    | fail)
  generalize (w5.alloc (.cells #[.int .i64 0, .string ⟨#[]⟩, .int .u64 0, .int .u32 0, .slice none 0 0] 31)).setRow w5.heap.size #[.int .i64 0, .string ⟨#[]⟩, .int .u64 0, .int .u32 0, .slice A5 0 c5] = w6 at *
  rw [← hga] at QA ⊢
  clear QN hga
  obtain ⟨i0, hi, hz0, hz1, hz2⟩ := info_parts Tryd.infoU8
  have hmk : (Instr.makeSlice 32 (.int .i64 8) (.int .i64 8)).run Tryd.prog w6 = .ok (.slice (some ⟨w6.heap.size, 0, none⟩) 8 8) (w6.alloc (.cells (madeCells #[.int .u8 0] 8) 5)) := by
    have := run_make_rowN (P := Tryd.prog) 32 5 i0 (.int .u8 0) Tryd.underlying32 hi hz0 .i64 .i64 8 8 (Nat.le_refl _) (by rw [hz2]; omega) (by omega) w6
    rw [hz1, Nat.mul_one] at this
    exact this
  have HMK := Lib.hid hmk
  have qz := Blk.new w6 5 (madeCells #[.int .u8 0] 8)
  have rz : Rd (w6.alloc (.cells (madeCells #[.int .u8 0] 8) 5)) _ 1 (some ⟨w6.heap.size, 0, none⟩) 8 (bcells Z8) := bcell_rd qz (by rw [madeCells_one]; rfl) (by rw [size_madeCells]) (by unfold maxLen; omega)
  have HB := Lib.hid (belowAlloc HB.out (.cells (madeCells #[.int .u8 0] 8) 5))
  have G7 := Lib.hid (getM_any Z8 (some ⟨w6.heap.size, 0, none⟩) 8 8 _ (HT.out.below HB.out HTL.out) (Nat.le_refl _) rz)
  unfold RetFr at G7
  rw [get_z8] at G7
  clear hmk qz rz hi hz0 hz1 hz2
  go_wp2_with (first | (refine wpList_value rfl (exec_make rfl HMK.out) ?_) | fail)
  refine G7.out.mono ?_
  rintro e w7 ⟨v7, rfl, o7, b7⟩
  obtain ⟨A7, c7, rfl, -⟩ := own_cap o7
  have HB := Lib.hid (belowGo HB.out b7)
  clear G7 o7 b7 HMK QA
  rw [show edC Ed.none ⟨Ed.none.name.toArray⟩ (.slice A7 Ed.none.seals.length c7) = #[.int .i64 0, .string ⟨#[]⟩, .int .u64 0, .int .u32 0, .slice A7 0 c7] from rfl]
  have qn := Blk.new w7 31 #[.int .i64 0, .string ⟨#[]⟩, .int .u64 0, .int .u32 0, .slice none 0 0]
  have bz := row_below (belowAlloc (Below.refl w7.heap.size w7) (.cells #[.int .i64 0, .string ⟨#[]⟩, .int .u64 0, .int .u32 0, .slice none 0 0] 31)) (Nat.le_refl _) #[.int .i64 0, .string ⟨#[]⟩, .int .u64 0, .int .u32 0, .slice A7 0 c7]
  have QN := Lib.hid qn
  have QB := Lib.hid (qn.row #[.int .i64 0, .string ⟨#[]⟩, .int .u64 0, .int .u32 0, .slice A7 0 c7])
  have HB := Lib.hid (belowGo HB.out bz)
  obtain ⟨gb, hgb⟩ : ∃ g, g = w7.heap.size := ⟨_, rfl⟩
  clear qn bz
  go_upto_region 7 with (first
    | (refine wpList_storeB rfl 31 (.tmp 13) (.tmp 51) rfl rfl rfl QN.out (by kernel_rfl) (by rfl) (by simp [Value.oneCell']) ?_)
    | fail)
  generalize (w7.alloc (.cells #[.int .i64 0, .string ⟨#[]⟩, .int .u64 0, .int .u32 0, .slice none 0 0] 31)).setRow w7.heap.size #[.int .i64 0, .string ⟨#[]⟩, .int .u64 0, .int .u32 0, .slice A7 0 c7] = w8 at *
  rw [← hgb] at QB ⊢
  clear QN hgb
  have HW := Lib.hid HB.out.size
  have P8 := Lib.hid (putM_any d4 (fits0 (by decide)) none 0 0 w8 (HT.out.below HB.out HTL.out) rfl (Rd.nil_ _ _ _ _) (Nat.le_refl _))
  unfold RetPutM at P8
  rw [may4, show putM d4 = frameB d4 from by unfold putM; rw [may4]; rfl, if_pos rfl, frame4] at P8
  clear QB
  go_wp2_with fail
  refine P8.out.mono ?_
  rintro e w9 ⟨v9, rfl, o9, b9⟩
  obtain ⟨A8, c8, rfl, -⟩ := own_cap o9
  have HB := Lib.hid (belowGo HB.out b9)
  have O9 : Hid (Ow _ _ _ _ _ _ _) := Lib.hid (Ow.alloc o9 (.cells #[.int .u8 1, .int .u8 2, .int .u8 3] 5))
  have hb9 := b9.size
  have R9 : Hid (Rd (w9.alloc (.cells #[.int .u8 1, .int .u8 2, .int .u8 3] 5)) _ 1 (some ⟨w9.heap.size, 0, none⟩) 3 (bcells [1, 2, 3])) := Lib.hid (bcell_rd (Blk.new w9 5 #[.int .u8 1, .int .u8 2, .int .u8 3]) rfl rfl (by unfold maxLen; omega))
  have HB := Lib.hid (belowAlloc HB.out (.cells #[.int .u8 1, .int .u8 2, .int .u8 3] 5))
  have HSZ := Lib.hid (show w8.heap.size ≤ (w9.alloc (.cells #[.int .u8 1, .int .u8 2, .int .u8 3] 5)).heap.size by simp; omega)
  have HW8 := Lib.hid (show w.heap.size ≤ w8.heap.size from HW.out)
  clear P8 o9 b9 hb9
  go_wp2_with (first
    | (at_builtin; refine wpList_app eltU8 rfl (.tmp 60) (.tmp 61) rfl rfl O9.out rfl R9.out (bcells_one _) (by omega) (by unfold maxLen; omega) (Below.refl _ _) HSZ.out ?_; intro v10 w10 o10 b10 g10 x10; obtain ⟨A10, c10, rfl, hc10⟩ := own_cap o10; have HB := Lib.hid (HB.out.trans (b10.mono HW8.out)); have O10 : Hid (Ow w10 w8.heap.size 5 1 (.slice A10 17 c10) 17 (bcells (frameB d4 ++ [1, 2, 3]))) := Lib.hid (by rw [bcells_append]; exact o10); clear o10 b10 g10 x10)
    | fail)
  have G11 := Lib.hid (getM_any (frameB d4 ++ [1, 2, 3]) A10 17 c10 w10 (HT.out.below HB.out HTL.out) hc10 (Rd.of_own O10.out))
  unfold RetFr at G11
  rw [frGet_put (d := d4) (fits0 (by decide)) may4, frame4] at G11
  refine G11.out.mono ?_
  rintro e w11 ⟨v11, rfl, o11, b11⟩
  obtain ⟨A9, c9, rfl, -⟩ := own_cap o11
  have HB := Lib.hid (belowGo HB.out b11)
  clear G11 o11 b11
  rw [show edC d4 ⟨d4.name.toArray⟩ (.slice A9 d4.seals.length c9) = #[.int .i64 4, .string ⟨#[]⟩, .int .u64 0, .int .u32 7, .slice A9 0 c9] from rfl]
  have qn := Blk.new w11 31 #[.int .i64 0, .string ⟨#[]⟩, .int .u64 0, .int .u32 0, .slice none 0 0]
  have bz := row_below (belowAlloc (Below.refl w11.heap.size w11) (.cells #[.int .i64 0, .string ⟨#[]⟩, .int .u64 0, .int .u32 0, .slice none 0 0] 31)) (Nat.le_refl _) #[.int .i64 4, .string ⟨#[]⟩, .int .u64 0, .int .u32 7, .slice A9 0 c9]
  have QN := Lib.hid qn
  have QC := Lib.hid (qn.row #[.int .i64 4, .string ⟨#[]⟩, .int .u64 0, .int .u32 7, .slice A9 0 c9])
  have HB := Lib.hid (belowGo HB.out bz)
  obtain ⟨gc, hgc⟩ : ∃ g, g = w11.heap.size := ⟨_, rfl⟩
  clear qn bz
  go_upto_region 9 with (first
    | (refine wpList_storeB rfl 31 (.tmp 18) (.tmp 64) rfl rfl rfl QN.out (by kernel_rfl) (by rfl) (by simp [Value.oneCell']) ?_)
    | fail)
  generalize (w11.alloc (.cells #[.int .i64 0, .string ⟨#[]⟩, .int .u64 0, .int .u32 0, .slice none 0 0] 31)).setRow w11.heap.size #[.int .i64 4, .string ⟨#[]⟩, .int .u64 0, .int .u32 7, .slice A9 0 c9] = w12 at *
  rw [← hgc] at QC ⊢
  clear QN hgc
  have k0 : w12.cell? ⟨gc, 0, none⟩ = some (.int .i64 4) := QC.out.cell 0
  have k3 : w12.cell? ⟨gc, 3, none⟩ = some (.int .u32 7) := QC.out.cell 3
  have KN := Lib.hid (knowsM_any w12 (HT.out.below HB.out HTL.out))
  go_wp2_with fail
  refine KN.out.mono ?_
  rintro e w13 ⟨rfl, b13⟩
  have hb := belowGo HB.out b13
  clear k0 k3 KN b13
  go_wp2_with fail
  exact bodyPost_ret (results_tmp rfl _ _ _) rfl ⟨rfl, hb⟩
end Go.Proofs.YtmahadcohnhdkaaDoor
