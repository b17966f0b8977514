/- The law's rows of chapter 22: knows. -/
import Derived.Test.YtmahadcohnhdkaaDoorMlLaw
namespace Go.Proofs.YtmahadcohnhdkaaDoor
open Go.RowKit
attribute [local go_sem] Oper.semAt_some

def dK : Ed := ⟨1, [], 5, 0, []⟩
def bK : List UInt8 := bytesM [dK]
theorem dK_ok : dK.fits ∧ mayEd dK = true := ⟨⟨by decide, by decide, by decide, fun s hs => by cases hs⟩, by decide +kernel⟩
theorem dK_frame : (frameB dK).length = 14 := by rw [frameB_len]; decide +kernel
theorem bK_len : bK.length = 30 := by unfold bK; rw [bytesM_len]; simp [dK_frame]
theorem bK_all : replayM bK = ([dK], 30, 0) := by
  have h := replay_begin (l := [dK]) (fun d hd => by rw [List.mem_singleton.1 hd]; exact dK_ok) (k := 30) (by rw [show bytesM [dK] = bK from rfl, bK_len]; exact Nat.le_refl _) (by omega)
  rw [show bytesM [dK] = bK from rfl, List.take_of_length_le (by rw [bK_len]; exact Nat.le_refl _)] at h
  rw [h, begL_cons, if_neg (by decide), dK_frame, if_pos (by decide)]
  rfl
theorem bK_cut : replayM (bK.take 29) = ([], 16, 22) := by
  have h := replay_begin (l := [dK]) (fun d hd => by rw [List.mem_singleton.1 hd]; exact dK_ok) (k := 29) (by rw [show bytesM [dK] = bK from rfl, bK_len]; omega) (by omega)
  rw [show bytesM [dK] = bK from rfl] at h
  rw [h, begL_cons, if_neg (by decide), dK_frame, if_neg (by decide)]
  rfl
theorem bK_none : replayM [] = ([], 0, 22) := by
  have h := replay_short (l := [dK]) (k := 0) (by omega)
  rwa [List.take_zero] at h

set_option maxRecDepth 100000 in
set_option maxHeartbeats 8000000 in
theorem knowsM_any (w : World) (hT : Tab w) : Calls Tryd.prog 13 #[] w fun e w' => e = .returned (.bool true) ∧ Below w.heap.size w w' := by
  have HTL := Lib.hid hT.1
  have q1 := Blk.new w 31 #[.int .i64 1, .string ⟨#[]⟩, .int .u64 5, .int .u32 0, .slice none 0 0]
  have hb := belowAlloc (Below.refl w.heap.size w) (.cells #[.int .i64 1, .string ⟨#[]⟩, .int .u64 5, .int .u32 0, .slice none 0 0] 31)
  have hT1 := hT.alloc (.cells #[.int .i64 1, .string ⟨#[]⟩, .int .u64 5, .int .u32 0, .slice none 0 0] 31)
  have B1 := Lib.hid (bytesM_any [⟨dK, none, 0, 0⟩] (some ⟨w.heap.size, 0, none⟩) 1 1 _ hT1 rfl (by omega) (q1.rd rfl (by unfold maxLen; omega)) (fun x hx => by rw [List.mem_singleton.1 hx]; exact ⟨dK_ok.1, rfl, Nat.le_refl _, Rd.nil_ _ _ _ _⟩))
  have HB := Lib.hid hb
  have HT := Lib.hid hT
  unfold RetBytes at B1
  rw [show ([⟨dK, none, 0, 0⟩] : List EdX).map EdX.d = [dK] from rfl, show ([dK].all mayEd) = true from by rw [List.all_cons, dK_ok.2]; rfl, if_pos rfl, show bytesP [dK] = bK from by unfold bytesP; rw [List.all_cons, dK_ok.2]; rfl, bK_len] at B1
  clear q1 hb hT1 hT
  go_enter Tryd.func13, Tryd.ntmps13
  go_wp2_with fail
  refine B1.out.mono ?_
  rintro e w1 ⟨v1, rfl, o1, b1⟩
  have HB := Lib.hid (belowGo HB.out b1)
  obtain ⟨A1, c1, rfl, hc1⟩ := own_cap o1
  have R1 := Lib.hid (Rd.of_own o1)
  have P1 := Lib.hid (replay_any bK A1 30 c1 w1 (HT.out.below HB.out HTL.out) hc1 (by omega) R1.out)
  unfold RetReplay at P1
  rw [bK_all] at P1
  have h29 : (29 : Int) ≤ (c1 : Int) := by omega
  clear B1 b1 o1
  go_wp2_with fail
  refine P1.out.mono ?_
  rintro e w2 ⟨v2, X, rfl, hx, o2, -, b2⟩
  obtain ⟨x, rfl, hxd⟩ : ∃ x, X = [x] ∧ x.d = dK := by
    cases X with
    | nil => cases hx
    | cons x r =>
      cases r with
      | nil => exact ⟨x, rfl, by simpa using hx⟩
      | cons y r => simp at hx
  obtain ⟨g2, c2, rfl, -, -⟩ := own_ptr o2 (by simp)
  have hs := Ow.cell o2 rfl (by simp) (j := 2) (x := .int .u64 5) (by unfold exCells EdX.cells edC; simp [hxd, dK])
  have hg2 := Ow.hi o2 g2 rfl
  have HS := Lib.hid hs
  have HB := Lib.hid (belowGo HB.out b2)
  have R1 := Lib.hid (R1.out.after b2)
  have P2 := Lib.hid (replay_any (bK.take 29) A1 29 c1 w2 (HT.out.below HB.out HTL.out) (by omega) (by omega) (R1.out.btake (by omega)))
  unfold RetReplay at P2
  rw [bK_cut] at P2
  clear P1 b2 o2 hx hxd hs
  go_wp2_with fail
  refine P2.out.mono ?_
  rintro e w3 ⟨v3, X3, rfl, hx3, o3, -, b3⟩
  obtain rfl : X3 = [] := by simpa using hx3
  obtain ⟨A3, c3, rfl, -⟩ := own_cap o3
  have HB := Lib.hid (belowGo HB.out b3)
  have HS := Lib.hid ((b3.cell (p := ⟨g2, 0 + 2, none⟩) hg2).trans HS.out)
  have P3 := Lib.hid (replay_any [] none 0 0 w3 (HT.out.below HB.out HTL.out) (Nat.le_refl _) (by omega) (Rd.nil_ _ _ _ _))
  unfold RetReplay at P3
  rw [bK_none] at P3
  have hg3 : g2 < w3.heap.size := Nat.lt_of_lt_of_le hg2 b3.size
  clear P2 b3 o3 hx3 hg2
  go_wp2_with fail
  refine P3.out.mono ?_
  rintro e w4 ⟨v4, X4, rfl, hx4, o4, -, b4⟩
  have hb := belowGo HB.out b4
  have hs : w4.cell? ⟨g2, 2, none⟩ = some (.int .u64 5) := (b4.cell (p := ⟨g2, 2, none⟩) hg3).trans HS.out
  clear P3 b4 o4 hx4
  have hl1 : ([x] : List EdX).length = 1 := rfl
  go_wp2_with fail
  exact bodyPost_ret (results_tmp rfl _ _ _) rfl ⟨rfl, hb⟩
end Go.Proofs.YtmahadcohnhdkaaDoor
