/- Package edit: Put, kind 4. -/
import Derived.Test.YtedjolkkidciiaaEd10a
namespace Go.Proofs.Ytedjolkkidciiaa
open Go.RowKit
attribute [local go_sem] Oper.semAt_some

set_option maxRecDepth 100000 in
set_option maxHeartbeats 8000000 in
theorem putE_k4 (nm : List UInt8) (S : ByteArray) (hS : S = ⟨nm.toArray⟩) (seq id : Nat) (sl : List Sl) (A : Option Addr) (n c : Nat) (w : World) (hn : sl.length = n) (hfit : Ed.fits ⟨4, nm, seq, id, sl⟩)
    (hr : Rd w w.heap.size 5 A n (slCells sl)) (hnc : n ≤ c) (hm : mayEd ⟨4, nm, seq, id, sl⟩ = true) :
    Calls Try.prog 15 #[.agg #[.int .i64 4, .string S, .int .u64 (seq : Int), .int .u32 (id : Int), .slice A n c]] w (RetPut w (edB ⟨4, nm, seq, id, sl⟩)) := by
  have hSz : S.size = nm.length := by rw [hS]; simp [ByteArray.size]
  have hm2 := hm
  simp [mayEd, isKind, hasSeq, hasName, hasId, hasSeals, -List.length_eq_zero_iff] at hm2
  have z1 : nm.length ≤ 32 := by omega
  have z2 : n ≤ 200 := by omega
  have z3 : id ≤ 16777215 := by omega
  have HM2 := Lib.hid hm2
  clear hm2
  have hmx := hr.2.1
  unfold maxLen at hmx
  have hsq : seq < 18446744073709551616 := hfit.1
  have hidb : id < 4294967296 := hfit.2.1
  have q1 := Blk.new w 28 #[.int .i64 4, .string S, .int .u64 (seq : Int), .int .u32 (id : Int), .slice A n c]
  have b1 := (Below.refl w.heap.size w).alloc (Nat.le_refl _) (.cells #[.int .i64 4, .string S, .int .u64 (seq : Int), .int .u32 (id : Int), .slice A n c] 28)
  have r1 := (hr.below b1 (Nat.le_refl _)).more b1.size
  have HM := mayEd_any ⟨4, nm, seq, id, sl⟩ hfit A n c (w.alloc (.cells #[.int .i64 4, .string S, .int .u64 (seq : Int), .int .u32 (id : Int), .slice A n c] 28)) hn r1 hnc
  rw [hm, show edC (Ed.mk 4 nm seq id sl) ⟨(Ed.mk 4 nm seq id sl).name.toArray⟩ (.slice A n c) = #[.int .i64 4, .string S, .int .u64 (seq : Int), .int .u32 (id : Int), .slice A n c] by rw [hS]; rfl] at HM
  have HM := Lib.hid HM
  have HSS := Lib.hid hS
  clear hS r1 hm
  go_enter Try.func15, Try.ntmps15
  go_upto_region 1 with (fail)
  generalize w.alloc (.cells #[.int .i64 4, .string S, .int .u64 (seq : Int), .int .u32 (id : Int), .slice A n c] 28) = w1 at *
  have Q1 := Lib.hid q1
  go_wp2_with (first | (refine wpList_value rfl (exec_load_blk rfl rfl Q1.out Try.underlying28 rfl (by kernel_rfl)) ?_) | fail)
  refine HM.out.mono ?_
  rintro e w2 ⟨rfl, b2⟩
  have hb := belowGo b1 b2
  have q1 := q1.after b2
  have Q1 := Lib.hid q1
  have c0 : w2.cell? ⟨w.heap.size, 0, none⟩ = some (.int .i64 4) := q1.cell 0
  have P := Lib.hid (show Calls Try.prog 29 #[.int .i64 4] w2 fun e w' => e = .returned (.tuple #[.agg #[.bool false, .bool false, .bool true, .bool false], .bool true]) ∧ Below w2.heap.size w2 w' from parts_any 4 _)
  clear HM b1 b2
  go_wp2_with fail
  refine P.out.mono ?_
  rintro e w3 ⟨rfl, b3⟩
  have hb := belowAlloc (belowGo hb b3) (.cells #[.bool false, .bool false, .bool true, .bool false] 67)
  have q1 := (q1.after b3).alloc (.cells #[.bool false, .bool false, .bool true, .bool false] 67)
  have qh := Blk.new w3 67 #[.bool false, .bool false, .bool true, .bool false]
  clear P b3 c0
  go_upto_region 4 with (fail)
  generalize w3.alloc (.cells #[.bool false, .bool false, .bool true, .bool false] 67) = w4 at *
  generalize w3.heap.size = gh at *
  have c0 : w4.cell? ⟨w.heap.size, 0, none⟩ = some (.int .i64 4) := q1.cell 0
  go_upto_region 5 with (fail)
  have ob := own_lit1 w4 (B := w.heap.size) 5 #[.int .u8 4] 1 hb.size rfl (by unfold maxLen; omega)
  have hb := belowAlloc hb (.cells #[.int .u8 4] 5)
  have q1 := q1.alloc (.cells #[.int .u8 4] 5)
  have qh := qh.alloc (.cells #[.int .u8 4] 5)
  clear c0
  generalize w4.alloc (.cells #[.int .u8 4] 5) = w5 at *
  generalize w4.heap.size = g5 at *
  have O : Hid (Ow w5 w.heap.size 5 1 (.slice (some ⟨g5, 0, none⟩) 1 1) 1 (bcells [UInt8.ofNat 4])) := Lib.hid ob
  have HB := Lib.hid hb
  have Q1 := Lib.hid q1
  have QH := Lib.hid qh
  clear ob hb q1 qh
  have idi : (id : Int) ≤ 16777215 := by omega
  have N := Lib.hid (put_any ([UInt8.ofNat 4]) (some ⟨g5, 0, none⟩) 1 1 id (by omega) w5 (Ow.rd O.out) (by omega))
  have LOW := Lib.hid HB.out.size
  go_wp2_with (first
    | (refine wpList_value rfl (exec_load (p := ⟨gh, 0, none⟩) rfl rfl (by kernel_rfl) (QH.out.cell 0)) ?_)
    | (refine wpList_value rfl (exec_load (p := ⟨gh, 1, none⟩) rfl rfl (by kernel_rfl) (QH.out.cell 1)) ?_)
    | (refine wpList_value rfl (exec_load (p := ⟨gh, 2, none⟩) rfl rfl (by kernel_rfl) (QH.out.cell 2)) ?_)
    | (refine wpList_value rfl (exec_load (p := ⟨w.heap.size, 0, none⟩) rfl rfl (by kernel_rfl) (Q1.out.cell 0)) ?_)
    | (refine wpList_value rfl (exec_load (p := ⟨w.heap.size, 2, none⟩) rfl rfl (by kernel_rfl) (Q1.out.cell 2)) ?_)
    | (refine wpList_value rfl (exec_load (p := ⟨w.heap.size, 3, none⟩) rfl rfl (by kernel_rfl) (Q1.out.cell 3)) ?_)
    | (refine wpList_value rfl (exec_load (p := ⟨w.heap.size, 4, none⟩) rfl rfl (by kernel_rfl) (Q1.out.cell 4)) ?_)
    | fail)
  refine N.out.mono ?_
  rintro e w6 ⟨v, rfl, ox, bx⟩
  clear N
  obtain ⟨A6, c6, rfl, hc6⟩ := own_cap ox
  have HB := Lib.hid (belowGo HB.out bx)
  have Q1 := Lib.hid (Q1.out.after bx)
  have QH := Lib.hid (QH.out.after bx)
  obtain ⟨L6, hL6⟩ : ∃ l, l = [UInt8.ofNat 4] ++ pform id := ⟨_, rfl⟩
  obtain ⟨m6, hm6⟩ : ∃ l, l = 1 + psize id := ⟨_, rfl⟩
  rw [← hm6] at hc6 ⊢
  rw [← hm6, ← hL6] at ox
  have ml6 : m6 = L6.length := by rw [hm6, hL6, List.length_append, pform_len]; first | rfl | (rw [List.length_singleton])
  have ML6 := Lib.hid ml6
  clear ml6
  have mb6 : m6 ≤ 1 + 9 := by rw [hm6]; have := psize_le (id); omega
  have HL6 := Lib.hid hL6
  clear hm6 hL6
  have O : Hid (Ow w6 w.heap.size 5 1 (.slice A6 m6 c6) m6 (bcells L6)) := Lib.hid (own_low ox LOW.out)
  clear ox bx LOW
  go_wp2_with (first
    | (refine wpList_value rfl (exec_load (p := ⟨gh, 0, none⟩) rfl rfl (by kernel_rfl) (QH.out.cell 0)) ?_)
    | (refine wpList_value rfl (exec_load (p := ⟨gh, 1, none⟩) rfl rfl (by kernel_rfl) (QH.out.cell 1)) ?_)
    | (refine wpList_value rfl (exec_load (p := ⟨gh, 2, none⟩) rfl rfl (by kernel_rfl) (QH.out.cell 2)) ?_)
    | (refine wpList_value rfl (exec_load (p := ⟨w.heap.size, 0, none⟩) rfl rfl (by kernel_rfl) (Q1.out.cell 0)) ?_)
    | (refine wpList_value rfl (exec_load (p := ⟨w.heap.size, 2, none⟩) rfl rfl (by kernel_rfl) (Q1.out.cell 2)) ?_)
    | (refine wpList_value rfl (exec_load (p := ⟨w.heap.size, 3, none⟩) rfl rfl (by kernel_rfl) (Q1.out.cell 3)) ?_)
    | (refine wpList_value rfl (exec_load (p := ⟨w.heap.size, 4, none⟩) rfl rfl (by kernel_rfl) (Q1.out.cell 4)) ?_)
    | fail)
  have hnil : sl = [] := List.eq_nil_of_length_eq_zero (by have := HM2.out; omega)
  have hn0 : ¬ 0 < (n : Int) := by have := HM2.out; omega
  have hed : edB ⟨4, nm, seq, id, sl⟩ = L6 := by rw [hnil]; simp [edB, hasSeq, hasName, hasId, HL6.out]
  have HED := Lib.hid hed
  clear hed hnil
  go_loopw [6, 58] (fun b i wr => i = .int .i64 0 ∧ wr = w6 ∧ b = .slice A6 m6 c6) (fun _ _ _ => 0)
  case atStart => exact ⟨rfl, rfl, rfl⟩
  case round =>
    obtain ⟨rfl, rfl, rfl⟩ := hrel
    go_wp2_with fail
    refine bodyPost_ret (results_tmp2 rfl) rfl ⟨.slice A6 m6 c6, rfl, ?_, HB.out⟩
    rw [HED.out, ← ML6.out]
    exact O.out
end Go.Proofs.Ytedjolkkidciiaa
