/- Package edit: Put, kind 5. -/
import Derived.Test.YtedjolkkidciiaaEd10a
namespace Go.Proofs.Ytedjolkkidciiaa
open Go.RowKit
attribute [local go_sem] Oper.semAt_some

set_option maxRecDepth 100000 in
set_option maxHeartbeats 8000000 in
theorem putE_k5 (nm : List UInt8) (S : ByteArray) (hS : S = ⟨nm.toArray⟩) (seq id : Nat) (sl : List Sl) (A : Option Addr) (n c : Nat) (w : World) (hn : sl.length = n) (hfit : Ed.fits ⟨5, nm, seq, id, sl⟩)
    (hr : Rd w w.heap.size 5 A n (slCells sl)) (hnc : n ≤ c) (hm : mayEd ⟨5, nm, seq, id, sl⟩ = true) :
    Calls Try.prog 15 #[.agg #[.int .i64 5, .string S, .int .u64 (seq : Int), .int .u32 (id : Int), .slice A n c]] w (RetPut w (edB ⟨5, nm, seq, id, sl⟩)) := by
  have hSz : S.size = nm.length := by rw [hS]; simp [ByteArray.size]
  have hm2 := hm
  simp [mayEd, isKind, hasSeq, hasName, hasId, hasSeals, -List.length_eq_zero_iff] at hm2
  have z1 : nm.length ≤ 32 := by omega
  have z2 : n ≤ 200 := by omega
  have z3 : id ≤ 16777215 := by omega
  have HM2 := Lib.hid hm2
  clear hm2
  have hmx := hr.2.1
  unfold maxLen at hmx
  have hsq : seq < 18446744073709551616 := hfit.1
  have hidb : id < 4294967296 := hfit.2.1
  have q1 := Blk.new w 28 #[.int .i64 5, .string S, .int .u64 (seq : Int), .int .u32 (id : Int), .slice A n c]
  have b1 := (Below.refl w.heap.size w).alloc (Nat.le_refl _) (.cells #[.int .i64 5, .string S, .int .u64 (seq : Int), .int .u32 (id : Int), .slice A n c] 28)
  have r1 := (hr.below b1 (Nat.le_refl _)).more b1.size
  have HM := mayEd_any ⟨5, nm, seq, id, sl⟩ hfit A n c (w.alloc (.cells #[.int .i64 5, .string S, .int .u64 (seq : Int), .int .u32 (id : Int), .slice A n c] 28)) hn r1 hnc
  rw [hm, show edC (Ed.mk 5 nm seq id sl) ⟨(Ed.mk 5 nm seq id sl).name.toArray⟩ (.slice A n c) = #[.int .i64 5, .string S, .int .u64 (seq : Int), .int .u32 (id : Int), .slice A n c] by rw [hS]; rfl] at HM
  have HM := Lib.hid HM
  have HSS := Lib.hid hS
  clear hS r1 hm
  go_enter Try.func15, Try.ntmps15
  go_upto_region 1 with (fail)
  generalize w.alloc (.cells #[.int .i64 5, .string S, .int .u64 (seq : Int), .int .u32 (id : Int), .slice A n c] 28) = w1 at *
  have Q1 := Lib.hid q1
  go_wp2_with (first | (refine wpList_value rfl (exec_load_blk rfl rfl Q1.out Try.underlying28 rfl (by kernel_rfl)) ?_) | fail)
  refine HM.out.mono ?_
  rintro e w2 ⟨rfl, b2⟩
  have hb := belowGo b1 b2
  have q1 := q1.after b2
  have Q1 := Lib.hid q1
  have c0 : w2.cell? ⟨w.heap.size, 0, none⟩ = some (.int .i64 5) := q1.cell 0
  have P := Lib.hid (show Calls Try.prog 29 #[.int .i64 5] w2 fun e w' => e = .returned (.tuple #[.agg #[.bool false, .bool false, .bool false, .bool true], .bool true]) ∧ Below w2.heap.size w2 w' from parts_any 5 _)
  clear HM b1 b2
  go_wp2_with fail
  refine P.out.mono ?_
  rintro e w3 ⟨rfl, b3⟩
  have hb := belowAlloc (belowGo hb b3) (.cells #[.bool false, .bool false, .bool false, .bool true] 67)
  have q1 := (q1.after b3).alloc (.cells #[.bool false, .bool false, .bool false, .bool true] 67)
  have qh := Blk.new w3 67 #[.bool false, .bool false, .bool false, .bool true]
  clear P b3 c0
  go_upto_region 4 with (fail)
  generalize w3.alloc (.cells #[.bool false, .bool false, .bool false, .bool true] 67) = w4 at *
  generalize w3.heap.size = gh at *
  have c0 : w4.cell? ⟨w.heap.size, 0, none⟩ = some (.int .i64 5) := q1.cell 0
  go_upto_region 5 with (fail)
  have ob := own_lit1 w4 (B := w.heap.size) 5 #[.int .u8 5] 1 hb.size rfl (by unfold maxLen; omega)
  have hb := belowAlloc hb (.cells #[.int .u8 5] 5)
  have q1 := q1.alloc (.cells #[.int .u8 5] 5)
  have qh := qh.alloc (.cells #[.int .u8 5] 5)
  clear c0
  generalize w4.alloc (.cells #[.int .u8 5] 5) = w5 at *
  generalize w4.heap.size = g5 at *
  have O : Hid (Ow w5 w.heap.size 5 1 (.slice (some ⟨g5, 0, none⟩) 1 1) 1 (bcells [UInt8.ofNat 5])) := Lib.hid ob
  have HB := Lib.hid hb
  have Q1 := Lib.hid q1
  have QH := Lib.hid qh
  clear ob hb q1 qh
  go_wp2_with (first
    | (refine wpList_value rfl (exec_load (p := ⟨gh, 0, none⟩) rfl rfl (by kernel_rfl) (QH.out.cell 0)) ?_)
    | (refine wpList_value rfl (exec_load (p := ⟨gh, 1, none⟩) rfl rfl (by kernel_rfl) (QH.out.cell 1)) ?_)
    | (refine wpList_value rfl (exec_load (p := ⟨gh, 2, none⟩) rfl rfl (by kernel_rfl) (QH.out.cell 2)) ?_)
    | (refine wpList_value rfl (exec_load (p := ⟨w.heap.size, 0, none⟩) rfl rfl (by kernel_rfl) (Q1.out.cell 0)) ?_)
    | (refine wpList_value rfl (exec_load (p := ⟨w.heap.size, 2, none⟩) rfl rfl (by kernel_rfl) (Q1.out.cell 2)) ?_)
    | (refine wpList_value rfl (exec_load (p := ⟨w.heap.size, 3, none⟩) rfl rfl (by kernel_rfl) (Q1.out.cell 3)) ?_)
    | (refine wpList_value rfl (exec_load (p := ⟨w.heap.size, 4, none⟩) rfl rfl (by kernel_rfl) (Q1.out.cell 4)) ?_)
    | fail)
  have hed : edB ⟨5, nm, seq, id, sl⟩ = [UInt8.ofNat 5] ++ sl.flatMap slB := by simp [edB, hasSeq, hasName, hasId]
  have HED := Lib.hid hed
  have HMS := Lib.hid (maySls_mem (l := sl) (p := 0) (by have hm2 := HM2.out; simp [hm2]))
  have HSL := Lib.hid hfit.2.2.2
  have HR0 := Lib.hid hr
  have OB := Lib.hid O.out
  have n200 : n ≤ 200 := by omega
  have mtot : 1 ≤ 1000 := by omega
  clear hed hr O
  go_loopw [6, 58] (fun b i wr => ∃ j : Nat, j ≤ n ∧ i = .int .i64 (j : Int) ∧ Below w.heap.size w wr ∧ ∃ Ab nb cb, b = .slice Ab nb cb ∧ nb = 1 + ((sl.take j).flatMap slB).length ∧ Ow wr w.heap.size 5 1 (.slice Ab nb cb) nb (bcells ([UInt8.ofNat 5] ++ (sl.take j).flatMap slB))) (fun _ i _ => n - (intOf i).toNat)
  case atStart => exact ⟨0, by omega, rfl, HB.out, _, _, _, rfl, by simp, by simpa using OB.out⟩
  case round =>
    obtain ⟨j, hj, rfl, hbr, Ab, nb, cb, rfl, hnb, ow⟩ := hrel
    by_cases hlt : j < n
    · skip
      have hji : (j : Int) < (n : Int) := by omega
      obtain ⟨s, hs⟩ : ∃ s, sl[j]? = some s := ⟨sl[j], List.getElem?_eq_getElem (by omega)⟩
      have hfs := HSL.out _ (List.mem_of_getElem? hs)
      have hms := HMS.out _ (List.mem_of_getElem? hs)
      have hr0 := HR0.out.below hbr (Nat.le_refl _)
      obtain ⟨p, off, rfl, hpl, hcell⟩ := hr0.2.2 (by omega)
      have hat := slAt hcell hs
      have htk : (sl.take (j + 1)).flatMap slB = (sl.take j).flatMap slB ++ slB s := by rw [List.take_add_one, hs, List.flatMap_append]; simp
      have hbl := slBs_len (sl.take j)
      rw [List.length_take] at hbl
      have SBA := fun W => fun (hW : Rd W W.heap.size 1 Ab nb (bcells ([UInt8.ofNat 5] ++ (sl.take j).flatMap slB))) => sealB_any s hfs hms _ Ab nb cb W hW (by omega)
      have hsb : (slB s).length = (slB s).length := rfl
      obtain ⟨i0, i1, i2, i3, i4⟩ := s
      have hat : At wr p (off + j * 5) [.int .u32 (i0 : Int), .int .u32 (i1 : Int), .int .u32 (i2 : Int), .int .u64 (i3 : Int), .int .u64 (i4 : Int)] := hat
      rw [show (Sl.mk i0 i1 i2 i3 i4).cells.toArray = #[.int .u32 (i0 : Int), .int .u32 (i1 : Int), .int .u32 (i2 : Int), .int .u64 (i3 : Int), .int .u64 (i4 : Int)] from rfl] at SBA
      have HAT := Lib.hid hat
      have HTK := Lib.hid htk
      have SBA := Lib.hid SBA
      have OW := Lib.hid ow
      have HNB := Lib.hid hnb
      clear hat htk hs hcell hpl hnb ow hfs hms hsb hr0
      go_wp2_with (first
        | (refine wpList_value rfl (exec_load_mid rfl rfl HAT.out Try.underlying40 rfl (by kernel_rfl)) ?_)
        | (refine wpList_value rfl (exec_load_blk rfl rfl (Blk.new wr 40 #[.int .u32 (i0 : Int), .int .u32 (i1 : Int), .int .u32 (i2 : Int), .int .u64 (i3 : Int), .int .u64 (i4 : Int)]) Try.underlying40 rfl (by kernel_rfl)) ?_)
        | fail)
      have HX := Lib.hid (SBA.out _ ((Ow.rd OW.out).allocs (.cells #[.int .u32 (i0 : Int), .int .u32 (i1 : Int), .int .u32 (i2 : Int), .int .u64 (i3 : Int), .int .u64 (i4 : Int)] 40)))
      have hba := belowAlloc hbr (.cells #[.int .u32 (i0 : Int), .int .u32 (i1 : Int), .int .u32 (i2 : Int), .int .u64 (i3 : Int), .int .u64 (i4 : Int)] 40)
      refine HX.out.mono ?_
      rintro e w9 ⟨v, rfl, o9, b9⟩
      obtain ⟨A9, c9, rfl, hc9⟩ := own_cap o9
      have hb9 := belowGo hba b9
      rw [List.append_assoc, ← HTK.out] at o9
      have O9 := Lib.hid (own_low o9 hba.size)
      clear HX o9 b9 hba
      go_wp2_with fail
      go_roundw
      case rel => exact ⟨j + 1, by omega, by go_num, hb9, A9, _, c9, rfl, by rw [HTK.out, List.length_append, HNB.out]; omega, O9.out⟩
      case measure => simp [intOf]; omega
    · obtain rfl : j = n := by omega
      have hji : ¬ (j : Int) < (j : Int) := by omega
      rw [List.take_of_length_le (by omega)] at ow hnb
      have OW := Lib.hid ow
      have HNB := Lib.hid hnb
      clear ow hnb
      go_wp2_with fail
      refine bodyPost_ret (results_tmp2 rfl) rfl ⟨.slice Ab nb cb, rfl, ?_, hbr⟩
      rw [HED.out, List.length_append, List.length_singleton, ← HNB.out]
      exact OW.out
end Go.Proofs.Ytedjolkkidciiaa
