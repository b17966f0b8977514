/- Package edit: May, kind 5. -/
import Derived.Test.YtedjolkkidciiaaEd8a
namespace Go.Proofs.Ytedjolkkidciiaa
open Go.RowKit
attribute [local go_sem] Oper.semAt_some

set_option maxRecDepth 100000 in
set_option maxHeartbeats 8000000 in
theorem mayE_k5 (nm : List UInt8) (S : ByteArray) (hS : S = ⟨nm.toArray⟩) (seq id : Nat) (sl : List Sl) (A : Option Addr) (n c : Nat) (w : World) (hn : sl.length = n) (hseq : seq < 18446744073709551616) (hid : id < 4294967296) (hnm : nm.length ≤ 1000000000000) (hsl : ∀ s ∈ sl, s.fits)
    (hr : Rd w w.heap.size 5 A n (slCells sl)) (hnc : n ≤ c) :
    Calls Try.prog 17 #[.agg #[.int .i64 5, .string S, .int .u64 (seq : Int), .int .u32 (id : Int), .slice A n c]] w fun e w' => e = .returned (.bool (mayEd ⟨5, nm, seq, id, sl⟩)) ∧ Below w.heap.size w w' := by
  have hSz : S.size = nm.length := by rw [hS]; simp [ByteArray.size]
  have HST := Lib.hid (show S.toList = nm by rw [hS, ByteArray.toList_mk])
  have _u1 := hid
  have _u2 := hnc
  clear hS
  have hmx := hr.2.1
  unfold maxLen at hmx
  have q1 := Blk.new w 28 #[.int .i64 5, .string S, .int .u64 (seq : Int), .int .u32 (id : Int), .slice A n c]
  have b1 := (Below.refl w.heap.size w).alloc (Nat.le_refl _) (.cells #[.int .i64 5, .string S, .int .u64 (seq : Int), .int .u32 (id : Int), .slice A n c] 28)
  have P := Lib.hid (show Calls Try.prog 29 #[.int .i64 5] (w.alloc (.cells #[.int .i64 5, .string S, .int .u64 (seq : Int), .int .u32 (id : Int), .slice A n c] 28)) fun e w' => e = .returned (.tuple #[.agg #[.bool false, .bool false, .bool false, .bool true], .bool true]) ∧ Below (w.alloc (.cells #[.int .i64 5, .string S, .int .u64 (seq : Int), .int .u32 (id : Int), .slice A n c] 28)).heap.size (w.alloc (.cells #[.int .i64 5, .string S, .int .u64 (seq : Int), .int .u32 (id : Int), .slice A n c] 28)) w' from parts_any 5 _)
  go_enter Try.func17, Try.ntmps17
  go_wp2_with fail
  generalize w.alloc (.cells #[.int .i64 5, .string S, .int .u64 (seq : Int), .int .u32 (id : Int), .slice A n c] 28) = w1 at *
  refine P.out.mono ?_
  rintro e w2 ⟨rfl, b2⟩
  have q1 := (q1.after b2).alloc (.cells #[.bool false, .bool false, .bool false, .bool true] 67)
  have hb := belowAlloc (belowGo b1 b2) (.cells #[.bool false, .bool false, .bool false, .bool true] 67)
  have qh := Blk.new w2 67 #[.bool false, .bool false, .bool false, .bool true]
  go_upto_region 2 with (fail)
  generalize w2.alloc (.cells #[.bool false, .bool false, .bool false, .bool true] 67) = w3 at *
  generalize w2.heap.size = gh at *
  have c0 : w3.cell? ⟨w.heap.size, 0, none⟩ = some (.int .i64 5) := q1.cell 0
  have c1 : w3.cell? ⟨w.heap.size, 1, none⟩ = some (.string S) := q1.cell 1
  have c2 : w3.cell? ⟨w.heap.size, 2, none⟩ = some (.int .u64 (seq : Int)) := q1.cell 2
  have c3 : w3.cell? ⟨w.heap.size, 3, none⟩ = some (.int .u32 (id : Int)) := q1.cell 3
  have c4 : w3.cell? ⟨w.heap.size, 4, none⟩ = some (.slice A n c) := q1.cell 4
  have d0 : w3.cell? ⟨gh, 0, none⟩ = some (.bool false) := qh.cell 0
  have d1 : w3.cell? ⟨gh, 1, none⟩ = some (.bool false) := qh.cell 1
  have d2 : w3.cell? ⟨gh, 2, none⟩ = some (.bool false) := qh.cell 2
  have d3 : w3.cell? ⟨gh, 3, none⟩ = some (.bool true) := qh.cell 3
  have Q1 := Lib.hid q1
  have HB := Lib.hid hb
  have HR := Lib.hid ((hr.below hb (Nat.le_refl _)).more hb.size)
  have HSL := Lib.hid hsl
  clear P q1 hb b1 b2 hr hsl qh
  have HN := Lib.hid (mayName_any S nm.length hSz w3 (by omega))
  by_cases x1 : seq ≤ 1099511627776
  rotate_left
  · skip
    have y1 : 1099511627776 < (seq : Int) := by omega
    have e : mayEd ⟨5, nm, seq, id, sl⟩ = false := by
      rw [Bool.eq_false_iff]
      intro hh
      first | (simp [mayEd, isKind, hasSeq, hasName, hasId, hasSeals, -List.length_eq_zero_iff] at hh; done) | (simp [mayEd, isKind, hasSeq, hasName, hasId, hasSeals, -List.length_eq_zero_iff] at hh; omega)
    have EE := Lib.hid e
    clear e
    go_wp2_with fail
    exact bodyPost_ret (results_tmp rfl _ _ _) rfl ⟨by rw [EE.out]; rfl, HB.out⟩
  have y1 : ¬ 1099511627776 < (seq : Int) := by omega
  have X1 := Lib.hid x1
  clear x1
  by_cases x2 : seq = 0
  rotate_left
  · skip
    have y2 : ¬ (seq : Int) = 0 := by omega
    have y2b : ((seq : Int) != 0) = true := by simp; omega
    have e : mayEd ⟨5, nm, seq, id, sl⟩ = false := by
      rw [Bool.eq_false_iff]
      intro hh
      have x1 := X1.out
      first | (simp [mayEd, isKind, hasSeq, hasName, hasId, hasSeals, -List.length_eq_zero_iff] at hh; done) | (simp [mayEd, isKind, hasSeq, hasName, hasId, hasSeals, -List.length_eq_zero_iff] at hh; omega)
    have EE := Lib.hid e
    clear e
    go_wp2_with fail
    exact bodyPost_ret (results_tmp rfl _ _ _) rfl ⟨by rw [EE.out]; rfl, HB.out⟩
  have y2 : (seq : Int) = 0 := by omega
  have X2 := Lib.hid x2
  clear x2
  by_cases x3 : nm.length = 0
  rotate_left
  · skip
    have y3 : ¬ S.toList = [] := by rw [HST.out]; intro hq; rw [hq] at x3; exact x3 rfl
    have y3b : S.toList.isEmpty = false := by simpa using y3
    have e : mayEd ⟨5, nm, seq, id, sl⟩ = false := by
      rw [Bool.eq_false_iff]
      intro hh
      have x1 := X1.out
      have x2 := X2.out
      first | (simp [mayEd, isKind, hasSeq, hasName, hasId, hasSeals, -List.length_eq_zero_iff] at hh; done) | (simp [mayEd, isKind, hasSeq, hasName, hasId, hasSeals, -List.length_eq_zero_iff] at hh; omega)
    have EE := Lib.hid e
    clear e
    go_wp2_with fail
    exact bodyPost_ret (results_tmp rfl _ _ _) rfl ⟨by rw [EE.out]; rfl, HB.out⟩
  have y3 : S.toList = [] := by rw [HST.out]; exact List.eq_nil_of_length_eq_zero (by omega)
  have y3b : S.toList.isEmpty = true := by rw [y3]; rfl
  have X3 := Lib.hid x3
  clear x3
  by_cases x5 : id = 0
  rotate_left
  · skip
    have y5 : ¬ (id : Int) = 0 := by omega
    have y5b : ((id : Int) != 0) = true := by simp; omega
    have e : mayEd ⟨5, nm, seq, id, sl⟩ = false := by
      rw [Bool.eq_false_iff]
      intro hh
      have x1 := X1.out
      have x2 := X2.out
      have x3 := X3.out
      first | (simp [mayEd, isKind, hasSeq, hasName, hasId, hasSeals, -List.length_eq_zero_iff] at hh; done) | (simp [mayEd, isKind, hasSeq, hasName, hasId, hasSeals, -List.length_eq_zero_iff] at hh; omega)
    have EE := Lib.hid e
    clear e
    go_wp2_with fail
    exact bodyPost_ret (results_tmp rfl _ _ _) rfl ⟨by rw [EE.out]; rfl, HB.out⟩
  have y5 : (id : Int) = 0 := by omega
  have X5 := Lib.hid x5
  clear x5
  by_cases x8 : n = 1
  rotate_left
  · skip
    have y8 : ¬ (n : Int) = 1 := by omega
    have e : mayEd ⟨5, nm, seq, id, sl⟩ = false := by
      rw [Bool.eq_false_iff]
      intro hh
      have x1 := X1.out
      have x2 := X2.out
      have x3 := X3.out
      have x5 := X5.out
      first | (simp [mayEd, isKind, hasSeq, hasName, hasId, hasSeals, -List.length_eq_zero_iff] at hh; done) | (simp [mayEd, isKind, hasSeq, hasName, hasId, hasSeals, -List.length_eq_zero_iff] at hh; omega)
    have EE := Lib.hid e
    clear e
    go_wp2_with fail
    exact bodyPost_ret (results_tmp rfl _ _ _) rfl ⟨by rw [EE.out]; rfl, HB.out⟩
  subst x8
  have e : mayEd ⟨5, nm, seq, id, sl⟩ = maySls 0 sl := by
    have x1 := X1.out
    have x2 := X2.out
    have x3 := X3.out
    have x5 := X5.out
    rw [Bool.eq_iff_iff]
    simp [mayEd, isKind, hasSeq, hasName, hasId, hasSeals, -List.length_eq_zero_iff]
    intro _
    omega
  have EE := Lib.hid e
  clear e
  go_wp2_with fail
  clear c0 c1 c2 c3 d0 d1 d2 d3 HN hSz
  go_loopw [90] (fun i wr => ∃ j : Nat, j ≤ 1 ∧ i = .int .i64 (j : Int) ∧ Below w3.heap.size w3 wr ∧ maySls 0 sl = maySls (prevId sl j) (sl.drop j)) (fun i _ => 1 - (intOf i).toNat)
  case atStart => exact ⟨0, by omega, rfl, Below.refl _ _, rfl⟩
  case round =>
    obtain ⟨j, hj, rfl, hbr, hst⟩ := hrel
    have HST := Lib.hid hst
    have HBR := Lib.hid hbr
    have c4 : wr.cell? ⟨w.heap.size, 4, none⟩ = some (.slice A 1 c) := (Q1.out.after hbr).cell 4
    clear hst hbr
    by_cases hlt : j < 1
    · skip
      have hji : (j : Int) < 1 := by omega
      obtain ⟨p, off, rfl, hpl, hcell⟩ := HR.out.2.2 (by omega)
      obtain ⟨s, hs⟩ : ∃ s, sl[j]? = some s := ⟨sl[j], List.getElem?_eq_getElem (by omega)⟩
      have hfit := HSL.out _ (List.mem_of_getElem? hs)
      have hat := (slAt hcell hs).after hpl HBR.out
      have hdr : sl.drop j = s :: sl.drop (j + 1) := List.drop_eq_getElem_cons_some hs
      have hmay := fun W => Lib.hid (maySl_any s hfit W)
      have hpv : prevId sl (j + 1) = s.id := by unfold prevId; rw [if_neg (by omega), show j + 1 - 1 = j by omega, hs]; rfl
      have hnext : maySl s = true → prevId sl j < s.id → maySls 0 sl = maySls (prevId sl (j + 1)) (sl.drop (j + 1)) := fun h1 h2 => by rw [HST.out, hdr, hpv, maySls, h1, decide_eq_true h2]; rfl
      have hbad : maySl s = false ∨ ¬ prevId sl j < s.id → mayEd ⟨5, nm, seq, id, sl⟩ = false := fun h => by
        rw [EE.out, HST.out, hdr, maySls]
        rcases h with h | h
        · rw [h]; rfl
        · rw [decide_eq_false h, Bool.and_false]; rfl
      have hpos : maySl s = true → 1 ≤ s.id := fun h => by unfold maySl at h; simp at h; omega
      obtain ⟨i0, i1, i2, i3, i4⟩ := s
      have hat : At wr p (off + j * 5) [.int .u32 (i0 : Int), .int .u32 (i1 : Int), .int .u32 (i2 : Int), .int .u64 (i3 : Int), .int .u64 (i4 : Int)] := hat
      have hcs : (Sl.mk i0 i1 i2 i3 i4).cells.toArray = #[.int .u32 (i0 : Int), .int .u32 (i1 : Int), .int .u32 (i2 : Int), .int .u64 (i3 : Int), .int .u64 (i4 : Int)] := rfl
      rw [hcs] at hmay
      dsimp only at hpos hnext hbad
      have HAT := Lib.hid hat
      have HNX := Lib.hid hnext
      have HBAD := Lib.hid hbad
      have HPOS := Lib.hid hpos
      have hcl : ∀ k u, (slCells sl)[k]? = some u → w3.cell? ⟨p, off + k, none⟩ = some u := hcell
      have HCL := Lib.hid hcl
      have HPL := Lib.hid hpl
      obtain ⟨hf0, -, -, -, -⟩ := hfit
      dsimp only at hf0
      clear hat hdr hs hcell hcl hpl hpv hnext hbad hpos hcs
      go_wp2_with (first
        | (refine wpList_value rfl (exec_load_mid rfl rfl HAT.out Try.underlying40 rfl (by kernel_rfl)) ?_)
        | fail)
      have q6 := Blk.new wr 40 #[.int .u32 (i0 : Int), .int .u32 (i1 : Int), .int .u32 (i2 : Int), .int .u64 (i3 : Int), .int .u64 (i4 : Int)]
      have hb6 := (Below.refl wr.heap.size wr).alloc (Nat.le_refl _) (.cells #[.int .u32 (i0 : Int), .int .u32 (i1 : Int), .int .u32 (i2 : Int), .int .u64 (i3 : Int), .int .u64 (i4 : Int)] 40)
      have c4b : (wr.alloc (.cells #[.int .u32 (i0 : Int), .int .u32 (i1 : Int), .int .u32 (i2 : Int), .int .u64 (i3 : Int), .int .u64 (i4 : Int)] 40)).cell? ⟨w.heap.size, 4, none⟩ = some (.slice (some ⟨p, off, none⟩) 1 c) := ((Q1.out.after HBR.out).alloc (.cells #[.int .u32 (i0 : Int), .int .u32 (i1 : Int), .int .u32 (i2 : Int), .int .u64 (i3 : Int), .int .u64 (i4 : Int)] 40)).cell 4
      have HB6 := Lib.hid (belowGo HBR.out hb6)
      clear c4 hb6
      generalize wr.alloc (.cells #[.int .u32 (i0 : Int), .int .u32 (i1 : Int), .int .u32 (i2 : Int), .int .u64 (i3 : Int), .int .u64 (i4 : Int)] 40) = w5 at *
      generalize wr.heap.size = g6 at *
      have q6 : Blk w5.drew g6 40 #[.int .u32 (i0 : Int), .int .u32 (i1 : Int), .int .u32 (i2 : Int), .int .u64 (i3 : Int), .int .u64 (i4 : Int)] := q6
      have c4b : w5.drew.cell? ⟨w.heap.size, 4, none⟩ = some (.slice (some ⟨p, off, none⟩) 1 c) := c4b
      have HB6 := Lib.hid (show Below w3.heap.size w3 w5.drew from ⟨HB6.out.os, HB6.out.tape, HB6.out.output, HB6.out.size, HB6.out.block⟩)
      have hcur := Below.refl w5.drew.heap.size w5.drew
      have h1l : w.heap.size < w5.drew.heap.size := by have := Q1.out.lt; have := HB6.out.size; omega
      refine wp_region_plan (fun W => Below w5.drew.heap.size w5.drew W) [.act 0, .act 1, .calms [2, 3, 4, 5, 6, 7, 9, 10, 14], .read 8, .calms [11, 12], .read 13, .read 15, .calms [16, 17, 18]] (by kernel_rfl) (by rfl) (by kernel_rfl) (by kernel_rfl) hcur ?_
      generalize w5.drew = w6 at *
      have C4 : ∀ W, Below w6.heap.size w6 W → W.cell? ⟨w.heap.size, 4, none⟩ = some (.slice (some ⟨p, off, none⟩) 1 c) := fun W hW => (hW.cell (p := ⟨w.heap.size, 4, none⟩) h1l).trans c4b
      have C4 := Lib.hid C4
      have Q6 := Lib.hid q6
      clear c4b q6 h1l
      refine plan_act (by rfl) ?_
      refine wpList_value rfl (exec_load_blk rfl rfl Q6.out Try.underlying40 rfl (by kernel_rfl)) ?_
      refine plan_next hcur ?_
      refine plan_act (by rfl) ?_
      go_wp2_with fail
      refine (hmay w6).out.mono ?_
      rintro e w7 ⟨rfl, b7⟩
      have hcur := belowGo hcur b7
      cases hms : maySl (Sl.mk i0 i1 i2 i3 i4) with
      | false =>
        go_wp2_with fail
        refine ⟨hcur, ?_⟩
        refine plan_calms (by simp [calmRow, need, chk]; rfl) ?_
        go_wp2_with fail
        refine plan_skip (by rfl) (by rfl) ?_
        have hud : ∀ b : Bool, (some undef = some (Value.bool b)) = False := fun b => by simp [undef]
        refine plan_calms (by simp [calmRow, need]; rfl) ?_
        go_wp2_with fail
        refine plan_skip2 (some 108) (by rfl) (by rfl) (by rfl) ?_
        refine plan_skip2 (some 110) (by rfl) (by rfl) (by rfl) ?_
        refine plan_calms (by simp [calmRow, need, chk]; rfl) ?_
        go_wp2_with fail
        refine plan_end ?_
        have EE := Lib.hid (HBAD.out (Or.inl hms))
        have hbw := belowGo HB.out (HB6.out.trans (hcur.mono HB6.out.size))
        go_wp2_with fail
        exact bodyPost_ret (results_tmp rfl _ _ _) rfl ⟨by rw [EE.out]; rfl, hbw⟩
      | true =>
        by_cases hj0 : j = 0
        · have hj1 : ¬ 0 < (j : Int) := by omega
          go_wp2_with fail
          refine ⟨hcur, ?_⟩
          refine plan_calms (by simp [calmRow, need, chk]; rfl) ?_
          go_wp2_with fail
          refine plan_skip (by rfl) (by rfl) ?_
          have hud : ∀ b : Bool, (some undef = some (Value.bool b)) = False := fun b => by simp [undef]
          refine plan_calms (by simp [calmRow, need]; rfl) ?_
          go_wp2_with fail
          refine plan_skip2 (some 108) (by rfl) (by rfl) (by rfl) ?_
          refine plan_skip2 (some 110) (by rfl) (by rfl) (by rfl) ?_
          refine plan_calms (by simp [calmRow, need, chk]; rfl) ?_
          go_wp2_with fail
          refine plan_end ?_
          have HN2 := Lib.hid (HNX.out hms (by rw [hj0]; exact HPOS.out hms))
          have hbw := HB6.out.trans (hcur.mono HB6.out.size)
          go_wp2_with fail
          go_roundw
          case rel => exact ⟨j + 1, by omega, by go_num, hbw, HN2.out⟩
          case measure => simp [intOf]; omega
        · omega
    · obtain rfl : j = 1 := by omega
      have ee : mayEd ⟨5, nm, seq, id, sl⟩ = true := by rw [EE.out, HST.out, List.drop_of_length_le (by omega)]; rfl
      have EE := Lib.hid ee
      clear ee
      go_wp2_with fail
      exact bodyPost_ret (results_tmp rfl _ _ _) rfl ⟨by rw [EE.out]; rfl, belowGo HB.out HBR.out⟩
end Go.Proofs.Ytedjolkkidciiaa
