/- Package edit: Put, kind 3. -/
import Derived.Test.YtedjolkkidciiaaEd10a
namespace Go.Proofs.Ytedjolkkidciiaa
open Go.RowKit
attribute [local go_sem] Oper.semAt_some

set_option maxRecDepth 100000 in
set_option maxHeartbeats 8000000 in
theorem putE_k3 (nm : List UInt8) (S : ByteArray) (hS : S = ⟨nm.toArray⟩) (seq id : Nat) (sl : List Sl) (A : Option Addr) (n c : Nat) (w : World) (hn : sl.length = n) (hfit : Ed.fits ⟨3, nm, seq, id, sl⟩)
    (hr : Rd w w.heap.size 5 A n (slCells sl)) (hnc : n ≤ c) (hm : mayEd ⟨3, nm, seq, id, sl⟩ = true) :
    Calls Try.prog 15 #[.agg #[.int .i64 3, .string S, .int .u64 (seq : Int), .int .u32 (id : Int), .slice A n c]] w (RetPut w (edB ⟨3, nm, seq, id, sl⟩)) := by
  have hSz : S.size = nm.length := by rw [hS]; simp [ByteArray.size]
  have hm2 := hm
  simp [mayEd, isKind, hasSeq, hasName, hasId, hasSeals, -List.length_eq_zero_iff] at hm2
  have z1 : nm.length ≤ 32 := by omega
  have z2 : n ≤ 200 := by omega
  have z3 : id ≤ 16777215 := by omega
  have HM2 := Lib.hid hm2
  clear hm2
  have hmx := hr.2.1
  unfold maxLen at hmx
  have hsq : seq < 18446744073709551616 := hfit.1
  have hidb : id < 4294967296 := hfit.2.1
  have q1 := Blk.new w 28 #[.int .i64 3, .string S, .int .u64 (seq : Int), .int .u32 (id : Int), .slice A n c]
  have b1 := (Below.refl w.heap.size w).alloc (Nat.le_refl _) (.cells #[.int .i64 3, .string S, .int .u64 (seq : Int), .int .u32 (id : Int), .slice A n c] 28)
  have r1 := (hr.below b1 (Nat.le_refl _)).more b1.size
  have HM := mayEd_any ⟨3, nm, seq, id, sl⟩ hfit A n c (w.alloc (.cells #[.int .i64 3, .string S, .int .u64 (seq : Int), .int .u32 (id : Int), .slice A n c] 28)) hn r1 hnc
  rw [hm, show edC (Ed.mk 3 nm seq id sl) ⟨(Ed.mk 3 nm seq id sl).name.toArray⟩ (.slice A n c) = #[.int .i64 3, .string S, .int .u64 (seq : Int), .int .u32 (id : Int), .slice A n c] by rw [hS]; rfl] at HM
  have HM := Lib.hid HM
  have HSS := Lib.hid hS
  clear hS r1 hm
  go_enter Try.func15, Try.ntmps15
  go_upto_region 1 with (fail)
  generalize w.alloc (.cells #[.int .i64 3, .string S, .int .u64 (seq : Int), .int .u32 (id : Int), .slice A n c] 28) = w1 at *
  have Q1 := Lib.hid q1
  go_wp2_with (first | (refine wpList_value rfl (exec_load_blk rfl rfl Q1.out Try.underlying28 rfl (by kernel_rfl)) ?_) | fail)
  refine HM.out.mono ?_
  rintro e w2 ⟨rfl, b2⟩
  have hb := belowGo b1 b2
  have q1 := q1.after b2
  have Q1 := Lib.hid q1
  have c0 : w2.cell? ⟨w.heap.size, 0, none⟩ = some (.int .i64 3) := q1.cell 0
  have P := Lib.hid (show Calls Try.prog 29 #[.int .i64 3] w2 fun e w' => e = .returned (.tuple #[.agg #[.bool false, .bool true, .bool false, .bool false], .bool true]) ∧ Below w2.heap.size w2 w' from parts_any 3 _)
  clear HM b1 b2
  go_wp2_with fail
  refine P.out.mono ?_
  rintro e w3 ⟨rfl, b3⟩
  have hb := belowAlloc (belowGo hb b3) (.cells #[.bool false, .bool true, .bool false, .bool false] 67)
  have q1 := (q1.after b3).alloc (.cells #[.bool false, .bool true, .bool false, .bool false] 67)
  have qh := Blk.new w3 67 #[.bool false, .bool true, .bool false, .bool false]
  clear P b3 c0
  go_upto_region 4 with (fail)
  generalize w3.alloc (.cells #[.bool false, .bool true, .bool false, .bool false] 67) = w4 at *
  generalize w3.heap.size = gh at *
  have c0 : w4.cell? ⟨w.heap.size, 0, none⟩ = some (.int .i64 3) := q1.cell 0
  go_upto_region 5 with (fail)
  have ob := own_lit1 w4 (B := w.heap.size) 5 #[.int .u8 3] 1 hb.size rfl (by unfold maxLen; omega)
  have hb := belowAlloc hb (.cells #[.int .u8 3] 5)
  have q1 := q1.alloc (.cells #[.int .u8 3] 5)
  have qh := qh.alloc (.cells #[.int .u8 3] 5)
  clear c0
  generalize w4.alloc (.cells #[.int .u8 3] 5) = w5 at *
  generalize w4.heap.size = g5 at *
  have O : Hid (Ow w5 w.heap.size 5 1 (.slice (some ⟨g5, 0, none⟩) 1 1) 1 (bcells [UInt8.ofNat 3])) := Lib.hid ob
  have HB := Lib.hid hb
  have Q1 := Lib.hid q1
  have QH := Lib.hid qh
  clear ob hb q1 qh
  go_wp2_with (first
    | (refine wpList_value rfl (exec_load (p := ⟨gh, 0, none⟩) rfl rfl (by kernel_rfl) (QH.out.cell 0)) ?_)
    | (refine wpList_value rfl (exec_load (p := ⟨gh, 1, none⟩) rfl rfl (by kernel_rfl) (QH.out.cell 1)) ?_)
    | (refine wpList_value rfl (exec_load (p := ⟨gh, 2, none⟩) rfl rfl (by kernel_rfl) (QH.out.cell 2)) ?_)
    | (refine wpList_value rfl (exec_load (p := ⟨w.heap.size, 0, none⟩) rfl rfl (by kernel_rfl) (Q1.out.cell 0)) ?_)
    | (refine wpList_value rfl (exec_load (p := ⟨w.heap.size, 2, none⟩) rfl rfl (by kernel_rfl) (Q1.out.cell 2)) ?_)
    | (refine wpList_value rfl (exec_load (p := ⟨w.heap.size, 3, none⟩) rfl rfl (by kernel_rfl) (Q1.out.cell 3)) ?_)
    | (refine wpList_value rfl (exec_load (p := ⟨w.heap.size, 4, none⟩) rfl rfl (by kernel_rfl) (Q1.out.cell 4)) ?_)
    | fail)
  have hbd := HB.out
  have HB := Lib.hid (show Below w.heap.size w w5.drew from ⟨hbd.os, hbd.tape, hbd.output, hbd.size, hbd.block⟩)
  have Q1 : Hid (Blk w5.drew w.heap.size 28 #[.int .i64 3, .string S, .int .u64 (seq : Int), .int .u32 (id : Int), .slice A n c]) := Lib.hid Q1.out
  have QH : Hid (Blk w5.drew gh 67 #[.bool false, .bool true, .bool false, .bool false]) := Lib.hid QH.out
  have O : Hid (Ow w5.drew w.heap.size 5 1 (.slice (some ⟨g5, 0, none⟩) 1 1) 1 (bcells ([UInt8.ofNat 3]))) := Lib.hid O.out
  have hcur := Below.refl w5.drew.heap.size w5.drew
  refine wp_region_plan (fun W => Below w5.drew.heap.size w5.drew W) [.calms [0, 1, 6], .read 2, .calms [3, 4], .read 7, .act 5, .act 8, .calms [9]] (by kernel_rfl) (by rfl) (by kernel_rfl) (by kernel_rfl) hcur ?_
  generalize w5.drew = w6 at *
  have h1l : w.heap.size < w6.heap.size := Q1.out.lt
  have CN : ∀ W, Below w6.heap.size w6 W → W.cell? ⟨w.heap.size, 1, none⟩ = some (.string S) := fun W hW => (Q1.out.after hW).cell 1
  have CN := Lib.hid CN
  have hnl : (nm.length : Int) ≤ 32 := by omega
  clear hbd h1l
  refine plan_calms (by simp [calmRow, need]; rfl) ?_
  go_wp2_with fail
  refine plan_read (by rfl) (.string S) (by rfl) (fun W hW => exec_load rfl rfl (by kernel_rfl) (CN.out W hW)) ?_
  refine plan_calms (by simp [calmRow, need, chk]; rfl) ?_
  go_wp2_with fail
  refine plan_read (by rfl) (.string S) (by rfl) (fun W hW => exec_load rfl rfl (by kernel_rfl) (CN.out W hW)) ?_
  refine plan_act (by rfl) ?_
  have N := Lib.hid (put_any ([UInt8.ofNat 3]) (some ⟨g5, 0, none⟩) 1 1 nm.length (by omega) w6 (Ow.rd O.out) (by omega))
  have LOW := Lib.hid HB.out.size
  go_wp2_with fail
  refine N.out.mono ?_
  rintro e w7 ⟨v, rfl, ox, bx⟩
  clear N
  have hcur := belowGo hcur bx
  obtain ⟨A7, c7, rfl, hc7⟩ := own_cap ox
  have HB := Lib.hid (belowGo HB.out bx)
  have Q1 := Lib.hid (Q1.out.after bx)
  have QH := Lib.hid (QH.out.after bx)
  obtain ⟨L7, hL7⟩ : ∃ l, l = [UInt8.ofNat 3] ++ pform nm.length := ⟨_, rfl⟩
  obtain ⟨m7, hm7⟩ : ∃ l, l = 1 + psize nm.length := ⟨_, rfl⟩
  rw [← hm7] at hc7 ⊢
  rw [← hm7, ← hL7] at ox
  have ml7 : m7 = L7.length := by rw [hm7, hL7, List.length_append, pform_len]; first | rfl | (rw [List.length_singleton])
  have ML7 := Lib.hid ml7
  clear ml7
  have mb7 : m7 ≤ 1 + 9 := by rw [hm7]; have := psize_le (nm.length); omega
  have HL7 := Lib.hid hL7
  clear hm7 hL7
  have O : Hid (Ow w7 w.heap.size 5 1 (.slice A7 m7 c7) m7 (bcells L7)) := Lib.hid (own_low ox LOW.out)
  clear ox bx LOW
  go_wp2_with fail
  refine ⟨hcur, ?_⟩
  refine plan_last (by rfl) (by kernel_rfl) ?_
  obtain ⟨i0, hi0, hz0, hz1, hz2⟩ := info_parts Try.infoU8
  have HBS := Lib.hid HB.out.size
  refine Lib.wpList_append_own_string (P := Try.prog) (w := w7) rfl _ _ 22 9 rfl w.heap.size 5 i0 Try.underlying22 Try.underlying9 hi0 hz0 hz1 hz2 _ m7 _ rfl O.out S rfl (by unfold maxLen; omega) (by omega) HBS.out ?_
  intro v w8 ox gx _
  have ox : w8.ownsRow w.heap.size 5 1 v (m7 + nm.length) (bcells (L7 ++ nm)) := by
    rw [bcells_append, ← strCells_bytes nm, ← HSS.out, ← hSz]
    exact ox
  obtain ⟨A8, c8, rfl, hc8⟩ := own_cap ox
  have HB := Lib.hid (below_of_grown HB.out HB.out.size O.out gx)
  have Q1 := Lib.hid (Q1.out.grownT O.out (by decide) gx)
  have QH := Lib.hid (QH.out.grownT O.out (by decide) gx)
  have O : Hid (Ow w8 w.heap.size 5 1 (.slice A8 (m7 + nm.length) c8) (m7 + nm.length) (bcells (L7 ++ nm))) := Lib.hid ox
  obtain ⟨L8, hL8⟩ : ∃ l, l = L7 ++ nm := ⟨_, rfl⟩
  obtain ⟨m8, hm8⟩ : ∃ l, l = m7 + nm.length := ⟨_, rfl⟩
  rw [← hm8, ← hL8] at O
  rw [← hm8]
  have ml8 : m8 = L8.length := by rw [hm8, hL8, List.length_append, ML7.out]
  have ML8 := Lib.hid ml8
  have mb8 : m8 ≤ m7 + 32 := by omega
  have HL8 := Lib.hid hL8
  clear hm8 hL8 ml8 ox gx hc8 hi0 hz0 hz1 hz2
  refine plan_done ?_
  refine plan_calms (by simp [calmRow, need]; rfl) ?_
  go_wp2_with fail
  refine plan_end ?_
  go_wp2_with (first
    | (refine wpList_value rfl (exec_load (p := ⟨gh, 0, none⟩) rfl rfl (by kernel_rfl) (QH.out.cell 0)) ?_)
    | (refine wpList_value rfl (exec_load (p := ⟨gh, 1, none⟩) rfl rfl (by kernel_rfl) (QH.out.cell 1)) ?_)
    | (refine wpList_value rfl (exec_load (p := ⟨gh, 2, none⟩) rfl rfl (by kernel_rfl) (QH.out.cell 2)) ?_)
    | (refine wpList_value rfl (exec_load (p := ⟨w.heap.size, 0, none⟩) rfl rfl (by kernel_rfl) (Q1.out.cell 0)) ?_)
    | (refine wpList_value rfl (exec_load (p := ⟨w.heap.size, 2, none⟩) rfl rfl (by kernel_rfl) (Q1.out.cell 2)) ?_)
    | (refine wpList_value rfl (exec_load (p := ⟨w.heap.size, 3, none⟩) rfl rfl (by kernel_rfl) (Q1.out.cell 3)) ?_)
    | (refine wpList_value rfl (exec_load (p := ⟨w.heap.size, 4, none⟩) rfl rfl (by kernel_rfl) (Q1.out.cell 4)) ?_)
    | fail)
  have hnil : sl = [] := List.eq_nil_of_length_eq_zero (by have := HM2.out; omega)
  have hn0 : ¬ 0 < (n : Int) := by have := HM2.out; omega
  have hed : edB ⟨3, nm, seq, id, sl⟩ = L8 := by rw [hnil]; simp [edB, hasSeq, hasName, hasId, HL8.out, HL7.out]
  have HED := Lib.hid hed
  clear hed hnil
  go_loopw [6, 58] (fun b i wr => i = .int .i64 0 ∧ wr = w8 ∧ b = .slice A8 m8 c8) (fun _ _ _ => 0)
  case atStart => exact ⟨rfl, rfl, rfl⟩
  case round =>
    obtain ⟨rfl, rfl, rfl⟩ := hrel
    go_wp2_with fail
    refine bodyPost_ret (results_tmp2 rfl) rfl ⟨.slice A8 m8 c8, rfl, ?_, HB.out⟩
    rw [HED.out, ← ML8.out]
    exact O.out
end Go.Proofs.Ytedjolkkidciiaa
