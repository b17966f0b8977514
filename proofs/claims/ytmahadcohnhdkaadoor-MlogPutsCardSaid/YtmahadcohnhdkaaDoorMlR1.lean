/- The document's frame: hourbookref22.Put. For every edit. -/
import Derived.Test.YtmahadcohnhdkaaDoorMl1
import Derived.Test.YtmahadcohnhdkaaDoorGT
import Derived.Test.YtmahadcohnhdkaaDoorGS
namespace Go.Proofs.YtmahadcohnhdkaaDoor
open Go.RowKit
attribute [local go_sem] Oper.semAt_some

theorem le4_eq (m : Nat) (hm : m ≤ 100000) : bcells (le m 4) = [.int .u8 ((m : Int) % 256), .int .u8 ((m : Int) / 256 % 256), .int .u8 ((m : Int) / 65536), .int .u8 0] := by
  have h0 : (UInt8.ofNat (m / 2 ^ (8 * 0))).toNat = m % 256 := by rw [UInt8.toNat_ofNat']; try omega
  have h1 : (UInt8.ofNat (m / 2 ^ (8 * 1))).toNat = m / 256 % 256 := by rw [UInt8.toNat_ofNat']; try omega
  have h2 : (UInt8.ofNat (m / 2 ^ (8 * 2))).toNat = m / 65536 := by rw [UInt8.toNat_ofNat']; omega
  have h3 : (UInt8.ofNat (m / 2 ^ (8 * 3))).toNat = 0 := by rw [UInt8.toNat_ofNat']; omega
  show [Value.int .u8 ((UInt8.ofNat (m / 2 ^ (8 * 0))).toNat : Int), .int .u8 ((UInt8.ofNat (m / 2 ^ (8 * 1))).toNat : Int), .int .u8 ((UInt8.ofNat (m / 2 ^ (8 * 2))).toNat : Int), .int .u8 ((UInt8.ofNat (m / 2 ^ (8 * 3))).toNat : Int)] = _
  rw [h0, h1, h2, h3]
  simp
set_option maxRecDepth 100000 in
set_option maxHeartbeats 8000000 in
theorem rputM_any (d : Ed) (hd : d.fits) (A : Option Addr) (n c : Nat) (w : World) (hn : d.seals.length = n) (hr : Rd w w.heap.size 5 A n (slCells d.seals)) (hnc : n ≤ c) :
    Calls Tryd.prog 10 #[.agg (edC d ⟨d.name.toArray⟩ (.slice A n c))] w (RetPutM w d) := by
  obtain ⟨E, hE⟩ : ∃ E, E = edC d ⟨d.name.toArray⟩ (.slice A n c) := ⟨_, rfl⟩
  have hsz : E.size = 5 := by rw [hE]; rfl
  have b1 := (Below.refl w.heap.size w).alloc (Nat.le_refl _) (.cells E 29)
  have q1 := Blk.new w 29 E
  have HP := Lib.hid (rputEd_any d hd A n c (w.alloc (.cells E 29)) hn ((hr.below b1 (Nat.le_refl _)).more b1.size) hnc)
  rw [← hE] at HP ⊢
  unfold RetPutM
  obtain ⟨cd, hcd⟩ : ∃ k, k = (if mayEd d = true then (0 : Int) else 1) := ⟨_, rfl⟩
  rw [← hcd]
  have HCD := Lib.hid hcd
  clear hcd
  have HED := Lib.hid (fun h : mayEd d = true => edB_short h)
  unfold RetPutR at HP
  clear hE hr hd hn
  go_enter Tryd.func10, Tryd.ntmps10
  go_upto_region 1 with (fail)
  generalize w.alloc (.cells E 29) = w1 at *
  have Q1 := Lib.hid q1
  go_wp2_with (first | (refine wpList_value rfl (exec_load_blk rfl rfl Q1.out Tryd.underlying29 rfl (by rw [hsz]; kernel_rfl)) ?_) | fail)
  refine HP.out.mono ?_
  rintro e w2 ⟨v2, rfl, o2, b2⟩
  have hb := belowGo b1 b2
  clear HP b1 q1
  cases hm : mayEd d with
  | false =>
    have hz : putM d = [] := by unfold putM; rw [hm]; rfl
    have HZ := Lib.hid hz
    have HB := Lib.hid hb
    have HM := Lib.hid hm
    rw [if_neg (by decide)]
    clear hz hb hm o2
    go_wp2_with fail
    refine bodyPost_ret (results_tmp2 rfl) rfl ⟨.slice none 0 0, by rw [HCD.out, HM.out]; rfl, ?_, HB.out⟩
    rw [HZ.out]
    exact World.ownsRow_nil _ _ _ _
  | true =>
    have hz : putM d = frameB d := by unfold putM; rw [hm]; rfl
    have hle := HED.out hm
    rw [if_pos rfl]
    rw [if_pos hm] at o2
    obtain ⟨A2, c2, rfl, -⟩ := own_cap o2
    have R2 := Lib.hid (Rd.of_own o2)
    have HB := Lib.hid hb
    obtain ⟨m, hmm⟩ : ∃ m, m = (edB d).length := ⟨_, rfl⟩
    have hfb : frameB d = coverC (coverC (le m 4) ++ edB d) := by rw [hmm]; rfl
    have HZ := Lib.hid (hz.trans hfb)
    have HM := Lib.hid hm
    rw [← hmm] at R2 hle ⊢
    generalize edB d = L at *
    have hmi : ¬ 65536 < (m : Int) := by omega
    have HMM := Lib.hid hmm
    have LE := Lib.hid (le4_eq m (by omega))
    have e1 : (m : Int) / 256 % 256 < 256 := by omega
    clear hz hm o2 hb b2 HED hfb hmm
    have q3 := Blk.new w2 5 #[.int .u8 ((m : Int) % 256), .int .u8 ((m : Int) / 256 % 256), .int .u8 ((m : Int) / 65536), .int .u8 0]
    have r3 : Rd (w2.alloc (.cells #[.int .u8 ((m : Int) % 256), .int .u8 ((m : Int) / 256 % 256), .int .u8 ((m : Int) / 65536), .int .u8 0] 5)) _ 1 (some ⟨w2.heap.size, 0, none⟩) 4 (bcells (le m 4)) := bcell_rd q3 (by rw [LE.out]) rfl (by unfold maxLen; omega)
    have b3 := belowAlloc (Below.refl w2.heap.size w2) (.cells #[.int .u8 ((m : Int) % 256), .int .u8 ((m : Int) / 256 % 256), .int .u8 ((m : Int) / 65536), .int .u8 0] 5)
    have HB := Lib.hid (belowGo HB.out b3)
    have R2 := Lib.hid (R2.out.after b3)
    have CV := Lib.hid (rcover_any (le m 4) (some ⟨w2.heap.size, 0, none⟩) 4 4 _ (by omega) r3)
    clear q3 r3 b3
    go_wp2_with fail
    refine CV.out.mono ?_
    generalize w2.alloc (.cells #[.int .u8 ((m : Int) % 256), .int .u8 ((m : Int) / 256 % 256), .int .u8 ((m : Int) / 65536), .int .u8 0] 5) = w3 at *
    rintro e w4 ⟨v4, rfl, o4, b4⟩
    obtain ⟨A4, c4, rfl, -⟩ := own_cap o4
    have HB0 := Lib.hid HB.out.size
    have R2 := Lib.hid (R2.out.after b4)
    have HB := Lib.hid (belowGo HB.out b4)
    have O4 : Hid (Ow _ _ _ _ _ _ _) := Lib.hid (own_low o4 HB0.out)
    clear CV b4 o4
    go_wp2_with (first
      | (at_builtin; refine wpList_app eltU8 rfl (.tmp 32) (.tmp 33) rfl rfl O4.out rfl R2.out (bcells_one _) (by omega) (by unfold maxLen; omega) (Below.refl _ _) HB.out.size ?_; intro v5 w5 o5 b5 g5 x5; obtain ⟨A5, c5, rfl, -⟩ := own_cap o5; have HB := Lib.hid (HB.out.trans b5); have O5 : Hid (Ow _ _ _ _ _ _ _) := Lib.hid o5; clear o5 b5 g5 x5)
      | fail)
    have CV := Lib.hid (rcover_any (coverC (le m 4) ++ L) A5 (8 + m) c5 w5 (by omega) (by rw [bcells_append]; exact Rd.of_own O5.out))
    have HB0 := Lib.hid HB.out.size
    have HML : Hid (8 + m + 4 = (coverC (coverC (le m 4) ++ L)).length) := Lib.hid (by rw [coverC_len, List.length_append, coverC_len, le_len, ← HMM.out])
    refine CV.out.mono ?_
    rintro e w6 ⟨v6, rfl, o6, b6⟩
    have hb := belowGo HB.out b6
    have O6 : Hid (Ow _ _ _ _ _ _ _) := Lib.hid (own_low o6 HB0.out)
    clear o6 b6 CV
    go_wp2_with fail
    refine bodyPost_ret (results_tmp2 rfl) rfl ⟨v6, by rw [HCD.out, HM.out]; rfl, ?_, hb⟩
    rw [HZ.out, ← HML.out]
    exact O6.out
end Go.Proofs.YtmahadcohnhdkaaDoor
