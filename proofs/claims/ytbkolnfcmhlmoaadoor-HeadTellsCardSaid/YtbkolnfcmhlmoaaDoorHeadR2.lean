/- The document's answer, chapter 10: Get, Check. -/
import Derived.Test.YtbkolnfcmhlmoaaDoorHeadRLaw
namespace Go.Proofs.YtbkolnfcmhlmoaaDoor
open Go.RowKit

theorem num4 {l : List UInt8} (h : 16 ≤ l.length) : numLE ((l.drop 8).take 4) = (l.getD 8 0).toNat + (l.getD 9 0).toNat * 256 + (l.getD 10 0).toNat * 65536 + (l.getD 11 0).toNat * 16777216 := by
  obtain ⟨a0, a1, a2, a3, a4, a5, a6, a7, a8, a9, a10, a11, r, rfl⟩ : ∃ a0 a1 a2 a3 a4 a5 a6 a7 a8 a9 a10 a11 r, l = a0 :: a1 :: a2 :: a3 :: a4 :: a5 :: a6 :: a7 :: a8 :: a9 :: a10 :: a11 :: r := by
    match l, h with
    | a0 :: a1 :: a2 :: a3 :: a4 :: a5 :: a6 :: a7 :: a8 :: a9 :: a10 :: a11 :: r, _ => exact ⟨_, _, _, _, _, _, _, _, _, _, _, _, _, rfl⟩
  simp [numLE]
  omega

set_option maxRecDepth 10000 in
set_option maxHeartbeats 1000000 in
theorem rgetH_any (l : List UInt8) (A : Option Addr) (n c : Nat) (w : World) (hnc : n ≤ c) (h : Rd w w.heap.size 1 A n (bcells l)) :
    Calls Tryd.prog 9 #[.slice A n c] w (RetHead (headGet l).1 (headGet l).2.1 (headGet l).2.2 w) := by
  have hln := h.1
  have hmx := h.2.1
  unfold maxLen at hmx
  rw [bcells_len, Nat.mul_one] at hln
  by_cases hs : n < 16
  · rw [headGet_short (by omega)]
    go_enter Tryd.func9, Tryd.ntmps9
    go_wp2
    go_ret3
    exact ⟨rfl, Below.refl _ _⟩
  · obtain ⟨b, off, rfl, _, hcell⟩ := h.2.2 (by omega)
    have hl16 : 16 ≤ l.length := by omega
    have h16 := h.btake (k := 16) (by omega)
    have HR := Lib.hid (rright_any (l.take 16) (some ⟨b, off, none⟩) 16 c w (by omega) (by omega) (by omega) h16)
    have j1 : (16 : Int) ≤ (c : Int) := by omega
    have j2 : (7 : Int) ≤ (c : Int) := by omega
    have j3 : 16 ≤ c := by omega
    have j4 : 7 ≤ c := by omega
    have j5 : ¬ (n : Int) < 16 := by omega
    by_cases hz : (coverC ((l.take 16).take (16 - 4)) == l.take 16) = true
    · rw [hz] at HR
      have h7 := h.btake (k := 7) (by omega)
      by_cases hm : (l.take 7 == magic) = true
      · rw [headGet_right hl16 hz hm, num4 hl16]
        have hl7 : l.take 7 = magic := by simpa using hm
        obtain ⟨x7, e7⟩ : ∃ x, x = (l.getD 7 0).toNat := ⟨_, rfl⟩
        obtain ⟨x8, e8⟩ : ∃ x, x = (l.getD 8 0).toNat := ⟨_, rfl⟩
        obtain ⟨x9, e9⟩ : ∃ x, x = (l.getD 9 0).toNat := ⟨_, rfl⟩
        obtain ⟨x10, e10⟩ : ∃ x, x = (l.getD 10 0).toNat := ⟨_, rfl⟩
        obtain ⟨x11, e11⟩ : ∃ x, x = (l.getD 11 0).toNat := ⟨_, rfl⟩
        have k7 : x7 < 256 := by rw [e7]; exact UInt8.toNat_lt _
        have k8 : x8 < 256 := by rw [e8]; exact UInt8.toNat_lt _
        have k9 : x9 < 256 := by rw [e9]; exact UInt8.toNat_lt _
        have k10 : x10 < 256 := by rw [e10]; exact UInt8.toNat_lt _
        have k11 : x11 < 256 := by rw [e11]; exact UInt8.toNat_lt _
        have g : ∀ j, j < 16 → (bcells l)[j]? = some (.int .u8 ((l.getD j 0).toNat : Int)) := fun j hj => by
          rw [bcells_get (by omega)]
          simp [List.getD, show j < l.length by omega]
        have g7 := g 7 (by omega)
        have g8 := g 8 (by omega)
        have g9 := g 9 (by omega)
        have g10 := g 10 (by omega)
        have g11 := g 11 (by omega)
        rw [← e7] at g7 ⊢
        rw [← e8] at g8 ⊢
        rw [← e9] at g9 ⊢
        rw [← e10] at g10 ⊢
        rw [← e11] at g11 ⊢
        clear e7 e8 e9 e10 e11 g
        obtain ⟨id, hid⟩ : ∃ id, id = x8 + x9 * 256 + x10 * 65536 + x11 * 16777216 := ⟨_, rfl⟩
        have hidl : id < 4294967296 := by omega
        have HI := Lib.hid (show (x8 : Int) + (x9 : Int) * 256 + (x10 : Int) * 65536 + (x11 : Int) * 16777216 = (id : Int) by omega)
        have HX := fun W => Lib.hid (rputH_any (x7 : Int) id hidl W)
        rw [← hid]
        obtain ⟨P, hP⟩ : ∃ P, P = headP (x7 : Int) id := ⟨_, rfl⟩
        rw [← hP] at HX
        generalize mayH (x7 : Int) id = m at *
        clear hP hid
        obtain ⟨⟨rk, rid, rc⟩, hR⟩ : ∃ R, R = (if m = true then (x7, id, 0) else (0, 0, 23)) := ⟨_, rfl⟩
        rw [← hR]
        simp only
        have HRR := Lib.hid hR
        clear hR
        rw [hl7] at h7
        have H7 := Lib.hid g7
        have H8 := Lib.hid g8
        have H9 := Lib.hid g9
        have H10 := Lib.hid g10
        have H11 := Lib.hid g11
        have i7 : 7 < n := by omega
        have i8 : 8 < n := by omega
        have i9 : 9 < n := by omega
        have i10 : 10 < n := by omega
        have i11 : 11 < n := by omega
        have e1 : ((⟨#[104, 111, 117, 114, 98, 107, 49]⟩ : ByteArray) != ⟨#[104, 111, 117, 114, 98, 107, 49]⟩) = false := by decide +kernel
        clear hcell g7 g8 g9 g10 g11 hz hm hl7 hs h16
        go_enter Tryd.func9, Tryd.ntmps9
        go_wp2_with fail
        refine HR.out.mono ?_
        rintro e w1 ⟨rfl, b1⟩
        have r1 := h.after b1
        have f1 : ∀ c, (convert 23 9 (.slice (some ⟨b, off, none⟩) 7 c)).run Tryd.prog w1 = .ok (.string ⟨#[104, 111, 117, 114, 98, 107, 49]⟩) w1 := fun c =>
          run_conv (P := Tryd.prog) Tryd.underlying23 Tryd.underlying5 Tryd.underlying9 c (h7.after b1)
        have c7 := r1.cell rfl (by omega) H7.out
        clear HR h h7
        go_wp2_with fail
        have hcur : Below w1.heap.size w1 w1.drew := ⟨rfl, rfl, rfl, Nat.le_refl _, fun _ _ => rfl⟩
        refine wp_region_plan (fun W => Below w1.heap.size w1 W) [.calms [0, 1, 4, 5, 10, 11, 16, 17], .read 2, .calms [3], .read 6, .calms [7, 8, 9], .read 12, .calms [13, 14, 15], .act 18, .calms [19, 20, 21, 22]] (by kernel_rfl) (by rfl) (by kernel_rfl) (by kernel_rfl) hcur ?_
        generalize w1.drew = w2 at *
        refine plan_calms (by simp [calmRow, need]; rfl) ?_
        go_wp2_with fail
        refine plan_read (by rfl) (.int .u8 (x8 : Int)) (by rfl) (fun W hW => exec_load rfl rfl (by kernel_rfl) ((r1.after hW).cell rfl (by omega) H8.out)) ?_
        refine plan_calms (by simp [calmRow, need, chk]; rfl) ?_
        go_wp2_with fail
        refine plan_read (by rfl) (.int .u8 (x9 : Int)) (by rfl) (fun W hW => exec_load rfl rfl (by kernel_rfl) ((r1.after hW).cell rfl (by omega) H9.out)) ?_
        refine plan_calms (by simp [calmRow, need, chk]; rfl) ?_
        go_wp2_with fail
        refine plan_read (by rfl) (.int .u8 (x10 : Int)) (by rfl) (fun W hW => exec_load rfl rfl (by kernel_rfl) ((r1.after hW).cell rfl (by omega) H10.out)) ?_
        refine plan_calms (by simp [calmRow, need, chk]; rfl) ?_
        go_wp2_with fail
        refine plan_act (by rfl) ?_
        have r2 := r1.after hcur
        have c11 := r2.cell rfl (by omega) H11.out
        go_wp2_with fail
        refine ⟨hcur, plan_calms (by simp [calmRow, need, chk]; rfl) ?_⟩
        go_wp2_with fail
        refine plan_end ?_
        go_wp2_with fail
        rw [HI.out]
        have hb := belowGo b1 hcur
        refine (HX _).out.mono ?_
        rintro e w3 ⟨v3, rfl, o3, b3⟩
        obtain ⟨A3, c3, rfl, _⟩ := own_cap o3
        have hb := belowGo hb b3
        clear o3 b3 hcur b1 HX
        cases m
        · obtain ⟨rfl, rfl, rfl⟩ : rk = 0 ∧ rid = 0 ∧ rc = 23 := by simpa using HRR.out
          clear HRR
          go_wp2_with fail
          go_ret3
          exact ⟨rfl, hb⟩
        · obtain ⟨rfl, rfl, rfl⟩ : rk = x7 ∧ rid = id ∧ rc = 0 := by simpa using HRR.out
          clear HRR
          go_wp2_with fail
          go_ret3
          exact ⟨rfl, hb⟩
      · have hm : (l.take 7 == magic) = false := by simpa using hm
        rw [headGet_letters hl16 hm]
        obtain ⟨S, hS⟩ : ∃ S : ByteArray, S = ⟨(l.take 7).toArray⟩ := ⟨_, rfl⟩
        have e1 : (S.toList == [104, 111, 117, 114, 98, 107, 49]) = false := by
          rw [hS, Lib.toList_data]
          exact hm
        have f0 : ∀ c W, Below w.heap.size w W → (convert 23 9 (.slice (some ⟨b, off, none⟩) 7 c)).run Tryd.prog W = .ok (.string S) W := fun c W hW => by
          rw [hS]
          exact run_conv (P := Tryd.prog) Tryd.underlying23 Tryd.underlying5 Tryd.underlying9 c (h7.after hW)
        clear hcell hz hm hS h16 h7
        go_enter Tryd.func9, Tryd.ntmps9
        go_wp2_with fail
        refine HR.out.mono ?_
        rintro e w1 ⟨rfl, b1⟩
        have f1 := fun c => f0 c w1 b1
        clear HR f0
        go_wp2_with fail
        go_ret3
        exact ⟨rfl, b1⟩
    · have hz : (coverC ((l.take 16).take 12) == l.take 16) = false := by simpa using hz
      rw [headGet_wrong hl16 hz]
      rw [show 16 - 4 = 12 from rfl, hz] at HR
      clear hcell hz h16
      go_enter Tryd.func9, Tryd.ntmps9
      go_wp2_with fail
      refine HR.out.mono ?_
      rintro e w1 ⟨rfl, b1⟩
      go_wp2_with fail
      go_ret3
      exact ⟨rfl, b1⟩

theorem rcheckH_any (l : List UInt8) (A : Option Addr) (n c : Nat) (k : Int) (id : Nat) (w : World) (hnc : n ≤ c) (h : Rd w w.heap.size 1 A n (bcells l)) :
    Calls Tryd.prog 11 #[.slice A n c, .int .i64 k, .int .u32 (id : Int)] w fun e w' => e = .returned (.int .i64 (chkH l k id : Int)) ∧ Below w.heap.size w w' := by
  have H := Lib.hid (rgetH_any l A n c w hnc h)
  unfold RetHead at H
  unfold chkH
  generalize headGet l = G at *
  obtain ⟨gk, gi, ge⟩ := G
  simp only at H ⊢
  by_cases he : ge = 0
  · subst he
    by_cases hk : (gk : Int) = k
    · subst hk
      by_cases hi : gi = id
      · subst hi
        rw [if_neg (by simp)]
        go_enter Tryd.func11, Tryd.ntmps11
        go_wp2_with fail
        refine H.out.mono ?_
        rintro e w1 ⟨rfl, b1⟩
        go_wp2_with fail
        go_ret
        exact ⟨rfl, b1⟩
      · rw [if_pos (by simp [hi])]
        have i1 : ((gi : Int) != (id : Int)) = true := by simp; omega
        go_enter Tryd.func11, Tryd.ntmps11
        go_wp2_with fail
        refine H.out.mono ?_
        rintro e w1 ⟨rfl, b1⟩
        go_wp2_with fail
        go_ret
        exact ⟨rfl, b1⟩
    · rw [if_pos (by simp [hk])]
      have i1 : ((gk : Int) != k) = true := by simpa using hk
      go_enter Tryd.func11, Tryd.ntmps11
      go_wp2_with fail
      refine H.out.mono ?_
      rintro e w1 ⟨rfl, b1⟩
      go_wp2_with fail
      go_ret
      exact ⟨rfl, b1⟩
  · rw [if_neg (by simp [he])]
    have i1 : ((ge : Int) != 0) = true := by simp; omega
    go_enter Tryd.func11, Tryd.ntmps11
    go_wp2_with fail
    refine H.out.mono ?_
    rintro e w1 ⟨rfl, b1⟩
    go_wp2_with fail
    go_ret
    exact ⟨rfl, b1⟩
end Go.Proofs.YtbkolnfcmhlmoaaDoor
