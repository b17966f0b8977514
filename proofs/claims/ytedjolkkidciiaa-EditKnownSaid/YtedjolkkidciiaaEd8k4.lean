/- Package edit: May, kind 4. -/
import Derived.Test.YtedjolkkidciiaaEd8a
namespace Go.Proofs.Ytedjolkkidciiaa
open Go.RowKit
attribute [local go_sem] Oper.semAt_some

set_option maxRecDepth 100000 in
set_option maxHeartbeats 8000000 in
theorem mayE_k4 (nm : List UInt8) (S : ByteArray) (hS : S = ⟨nm.toArray⟩) (seq id : Nat) (sl : List Sl) (A : Option Addr) (n c : Nat) (w : World) (hn : sl.length = n) (hseq : seq < 18446744073709551616) (hid : id < 4294967296) (hnm : nm.length ≤ 1000000000000) (hsl : ∀ s ∈ sl, s.fits)
    (hr : Rd w w.heap.size 5 A n (slCells sl)) (hnc : n ≤ c) :
    Calls Try.prog 17 #[.agg #[.int .i64 4, .string S, .int .u64 (seq : Int), .int .u32 (id : Int), .slice A n c]] w fun e w' => e = .returned (.bool (mayEd ⟨4, nm, seq, id, sl⟩)) ∧ Below w.heap.size w w' := by
  have hSz : S.size = nm.length := by rw [hS]; simp [ByteArray.size]
  have HST := Lib.hid (show S.toList = nm by rw [hS, ByteArray.toList_mk])
  have _u1 := hid
  have _u2 := hnc
  clear hS
  have hmx := hr.2.1
  unfold maxLen at hmx
  have q1 := Blk.new w 28 #[.int .i64 4, .string S, .int .u64 (seq : Int), .int .u32 (id : Int), .slice A n c]
  have b1 := (Below.refl w.heap.size w).alloc (Nat.le_refl _) (.cells #[.int .i64 4, .string S, .int .u64 (seq : Int), .int .u32 (id : Int), .slice A n c] 28)
  have P := Lib.hid (show Calls Try.prog 29 #[.int .i64 4] (w.alloc (.cells #[.int .i64 4, .string S, .int .u64 (seq : Int), .int .u32 (id : Int), .slice A n c] 28)) fun e w' => e = .returned (.tuple #[.agg #[.bool false, .bool false, .bool true, .bool false], .bool true]) ∧ Below (w.alloc (.cells #[.int .i64 4, .string S, .int .u64 (seq : Int), .int .u32 (id : Int), .slice A n c] 28)).heap.size (w.alloc (.cells #[.int .i64 4, .string S, .int .u64 (seq : Int), .int .u32 (id : Int), .slice A n c] 28)) w' from parts_any 4 _)
  go_enter Try.func17, Try.ntmps17
  go_wp2_with fail
  generalize w.alloc (.cells #[.int .i64 4, .string S, .int .u64 (seq : Int), .int .u32 (id : Int), .slice A n c] 28) = w1 at *
  refine P.out.mono ?_
  rintro e w2 ⟨rfl, b2⟩
  have q1 := (q1.after b2).alloc (.cells #[.bool false, .bool false, .bool true, .bool false] 67)
  have hb := belowAlloc (belowGo b1 b2) (.cells #[.bool false, .bool false, .bool true, .bool false] 67)
  have qh := Blk.new w2 67 #[.bool false, .bool false, .bool true, .bool false]
  go_upto_region 2 with (fail)
  generalize w2.alloc (.cells #[.bool false, .bool false, .bool true, .bool false] 67) = w3 at *
  generalize w2.heap.size = gh at *
  have c0 : w3.cell? ⟨w.heap.size, 0, none⟩ = some (.int .i64 4) := q1.cell 0
  have c1 : w3.cell? ⟨w.heap.size, 1, none⟩ = some (.string S) := q1.cell 1
  have c2 : w3.cell? ⟨w.heap.size, 2, none⟩ = some (.int .u64 (seq : Int)) := q1.cell 2
  have c3 : w3.cell? ⟨w.heap.size, 3, none⟩ = some (.int .u32 (id : Int)) := q1.cell 3
  have c4 : w3.cell? ⟨w.heap.size, 4, none⟩ = some (.slice A n c) := q1.cell 4
  have d0 : w3.cell? ⟨gh, 0, none⟩ = some (.bool false) := qh.cell 0
  have d1 : w3.cell? ⟨gh, 1, none⟩ = some (.bool false) := qh.cell 1
  have d2 : w3.cell? ⟨gh, 2, none⟩ = some (.bool true) := qh.cell 2
  have d3 : w3.cell? ⟨gh, 3, none⟩ = some (.bool false) := qh.cell 3
  have Q1 := Lib.hid q1
  have HB := Lib.hid hb
  have HR := Lib.hid ((hr.below hb (Nat.le_refl _)).more hb.size)
  have HSL := Lib.hid hsl
  clear P q1 hb b1 b2 hr hsl qh
  have HN := Lib.hid (mayName_any S nm.length hSz w3 (by omega))
  by_cases x1 : seq ≤ 1099511627776
  rotate_left
  · skip
    have y1 : 1099511627776 < (seq : Int) := by omega
    have e : mayEd ⟨4, nm, seq, id, sl⟩ = false := by
      rw [Bool.eq_false_iff]
      intro hh
      first | (simp [mayEd, isKind, hasSeq, hasName, hasId, hasSeals, -List.length_eq_zero_iff] at hh; done) | (simp [mayEd, isKind, hasSeq, hasName, hasId, hasSeals, -List.length_eq_zero_iff] at hh; omega)
    have EE := Lib.hid e
    clear e
    go_wp2_with fail
    exact bodyPost_ret (results_tmp rfl _ _ _) rfl ⟨by rw [EE.out]; rfl, HB.out⟩
  have y1 : ¬ 1099511627776 < (seq : Int) := by omega
  have X1 := Lib.hid x1
  clear x1
  by_cases x2 : seq = 0
  rotate_left
  · skip
    have y2 : ¬ (seq : Int) = 0 := by omega
    have y2b : ((seq : Int) != 0) = true := by simp; omega
    have e : mayEd ⟨4, nm, seq, id, sl⟩ = false := by
      rw [Bool.eq_false_iff]
      intro hh
      have x1 := X1.out
      first | (simp [mayEd, isKind, hasSeq, hasName, hasId, hasSeals, -List.length_eq_zero_iff] at hh; done) | (simp [mayEd, isKind, hasSeq, hasName, hasId, hasSeals, -List.length_eq_zero_iff] at hh; omega)
    have EE := Lib.hid e
    clear e
    go_wp2_with fail
    exact bodyPost_ret (results_tmp rfl _ _ _) rfl ⟨by rw [EE.out]; rfl, HB.out⟩
  have y2 : (seq : Int) = 0 := by omega
  have X2 := Lib.hid x2
  clear x2
  by_cases x3 : nm.length = 0
  rotate_left
  · skip
    have y3 : ¬ S.toList = [] := by rw [HST.out]; intro hq; rw [hq] at x3; exact x3 rfl
    have y3b : S.toList.isEmpty = false := by simpa using y3
    have e : mayEd ⟨4, nm, seq, id, sl⟩ = false := by
      rw [Bool.eq_false_iff]
      intro hh
      have x1 := X1.out
      have x2 := X2.out
      first | (simp [mayEd, isKind, hasSeq, hasName, hasId, hasSeals, -List.length_eq_zero_iff] at hh; done) | (simp [mayEd, isKind, hasSeq, hasName, hasId, hasSeals, -List.length_eq_zero_iff] at hh; omega)
    have EE := Lib.hid e
    clear e
    go_wp2_with fail
    exact bodyPost_ret (results_tmp rfl _ _ _) rfl ⟨by rw [EE.out]; rfl, HB.out⟩
  have y3 : S.toList = [] := by rw [HST.out]; exact List.eq_nil_of_length_eq_zero (by omega)
  have y3b : S.toList.isEmpty = true := by rw [y3]; rfl
  have X3 := Lib.hid x3
  clear x3
  by_cases x5 : 1 ≤ id
  rotate_left
  · skip
    have y5 : (id : Int) = 0 := by omega
    have e : mayEd ⟨4, nm, seq, id, sl⟩ = false := by
      rw [Bool.eq_false_iff]
      intro hh
      have x1 := X1.out
      have x2 := X2.out
      have x3 := X3.out
      first | (simp [mayEd, isKind, hasSeq, hasName, hasId, hasSeals, -List.length_eq_zero_iff] at hh; done) | (simp [mayEd, isKind, hasSeq, hasName, hasId, hasSeals, -List.length_eq_zero_iff] at hh; omega)
    have EE := Lib.hid e
    clear e
    go_wp2_with fail
    exact bodyPost_ret (results_tmp rfl _ _ _) rfl ⟨by rw [EE.out]; rfl, HB.out⟩
  have y5 : ¬ (id : Int) = 0 := by omega
  have y5b : ((id : Int) != 0) = true := by simp; omega
  have X5 := Lib.hid x5
  clear x5
  by_cases x6 : id ≤ 16777215
  rotate_left
  · skip
    have y6 : 16777215 < (id : Int) := by omega
    have e : mayEd ⟨4, nm, seq, id, sl⟩ = false := by
      rw [Bool.eq_false_iff]
      intro hh
      have x1 := X1.out
      have x2 := X2.out
      have x3 := X3.out
      have x5 := X5.out
      first | (simp [mayEd, isKind, hasSeq, hasName, hasId, hasSeals, -List.length_eq_zero_iff] at hh; done) | (simp [mayEd, isKind, hasSeq, hasName, hasId, hasSeals, -List.length_eq_zero_iff] at hh; omega)
    have EE := Lib.hid e
    clear e
    go_wp2_with fail
    exact bodyPost_ret (results_tmp rfl _ _ _) rfl ⟨by rw [EE.out]; rfl, HB.out⟩
  have y6 : ¬ 16777215 < (id : Int) := by omega
  have X6 := Lib.hid x6
  clear x6
  by_cases x7 : n = 0
  rotate_left
  · skip
    have y7 : 0 < (n : Int) := by omega
    have e : mayEd ⟨4, nm, seq, id, sl⟩ = false := by
      rw [Bool.eq_false_iff]
      intro hh
      have x1 := X1.out
      have x2 := X2.out
      have x3 := X3.out
      have x5 := X5.out
      have x6 := X6.out
      first | (simp [mayEd, isKind, hasSeq, hasName, hasId, hasSeals, -List.length_eq_zero_iff] at hh; done) | (simp [mayEd, isKind, hasSeq, hasName, hasId, hasSeals, -List.length_eq_zero_iff] at hh; omega)
    have EE := Lib.hid e
    clear e
    go_wp2_with fail
    exact bodyPost_ret (results_tmp rfl _ _ _) rfl ⟨by rw [EE.out]; rfl, HB.out⟩
  have y7 : ¬ 0 < (n : Int) := by omega
  have y8 : ¬ 200 < (n : Int) := by omega
  have X7 := Lib.hid x7
  clear x7
  have e : mayEd ⟨4, nm, seq, id, sl⟩ = maySls 0 sl := by
    have x1 := X1.out
    have x2 := X2.out
    have x3 := X3.out
    have x5 := X5.out
    have x6 := X6.out
    have x7 := X7.out
    rw [Bool.eq_iff_iff]
    simp [mayEd, isKind, hasSeq, hasName, hasId, hasSeals, -List.length_eq_zero_iff]
    intro _
    omega
  have EE := Lib.hid e
  clear e
  go_wp2_with fail
  have ee : mayEd ⟨4, nm, seq, id, sl⟩ = true := by
    have x7 := X7.out
    rw [EE.out, show sl = [] from List.eq_nil_of_length_eq_zero (by omega)]
    rfl
  have EE := Lib.hid ee
  clear ee
  go_loopw [90] (fun i wr => i = .int .i64 0 ∧ wr = w3) (fun _ _ => 0)
  case atStart => exact ⟨rfl, rfl⟩
  case round =>
    obtain ⟨rfl, rfl⟩ := hrel
    go_wp2_with fail
    exact bodyPost_ret (results_tmp rfl _ _ _) rfl ⟨by rw [EE.out]; rfl, HB.out⟩
end Go.Proofs.Ytedjolkkidciiaa
