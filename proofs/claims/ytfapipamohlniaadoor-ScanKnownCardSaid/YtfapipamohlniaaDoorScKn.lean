/- ScanKnown, walked. The tables as they are laid. -/
import Derived.Test.YtfapipamohlniaaDoorScMb
namespace Go.Proofs.YtfapipamohlniaaDoor
open Go.RowKit

set_option maxRecDepth 100000 in
theorem ek_a : ofS 3 (segK [5, 5]) = ⟨[16], [], 43, 23⟩ := Sc.eq_ (by decide +kernel)
set_option maxRecDepth 100000 in
theorem ek_b : ofS 3 (segK []) = ⟨[], [], 16, 0⟩ := Sc.eq_ (by decide +kernel)
set_option maxRecDepth 100000 in
theorem ek_c : ofS 3 [] = ⟨[], [], 0, 22⟩ := Sc.eq_ (by decide +kernel)
set_option maxRecDepth 100000 in
theorem ek_d : ofS 0 (segK []) = ⟨[], [], 0, 23⟩ := Sc.eq_ (by decide +kernel)
set_option maxRecDepth 100000 in
theorem ek_e : ofS 3 (segK [4] ++ List.replicate 21 0) = ⟨[16], [], 43, 23⟩ := Sc.eq_ (by decide +kernel)
set_option maxRecDepth 100000 in
theorem ek_f : ofS 3 (segK [2, 4, 9]) = ⟨[16, 43, 70], [], 97, 0⟩ := Sc.eq_ (by decide +kernel)
set_option maxRecDepth 100000 in
theorem el_l : lostS (segK [2, 4, 9]) 3 ⟨[16, 43, 70], [], 97, 0⟩ ⟨4, 97, 3, 2, 9⟩ = [(2, 9)] := by decide +kernel
set_option maxRecDepth 100000 in
theorem el_m : lostS (segK [2, 4, 9]) 3 ⟨[16, 43, 70], [], 97, 0⟩ ⟨3, 97, 3, 2, 8⟩ = [(2, 8)] := by decide +kernel
set_option maxRecDepth 100000 in
theorem el_n : lostS (segK [2, 4, 9]) 3 ⟨[16, 43, 70], [], 97, 0⟩ ⟨3, 98, 4, 2, 12⟩ = [(10, 12)] := by decide +kernel
set_option maxRecDepth 100000 in
theorem el_o : lostS (segK [2, 4, 9]) 3 ⟨[16, 43, 70], [], 97, 0⟩ ⟨3, 97, 3, 2, 9⟩ = [] := by decide +kernel
set_option maxRecDepth 100000 in
theorem el_p : lostS [] 3 ⟨[], [], 0, 22⟩ ⟨3, 97, 3, 2, 9⟩ = [(2, 9)] := by decide +kernel
set_option maxRecDepth 100000 in
theorem el_q : lostS [] 3 ⟨[], [], 0, 22⟩ ⟨3, 16, 0, 0, 0⟩ = [] := by decide +kernel
set_option maxRecDepth 100000 in
theorem es_b : sealS (segK []) 3 ⟨[], [], 16, 0⟩ = ⟨3, 16, 0, 0, 0⟩ := Sl.eq_ (by decide +kernel)

theorem zeros_bytes (n : Nat) : (Builtin.zeroCells (Value.int IntKind.u8 0).cells n).toList = bcells (List.replicate n 0) := by
  show (Builtin.zeroCells #[Value.int IntKind.u8 0] n).toList = _
  apply List.ext_getElem
  · simp [Builtin.zeroCells, bcells]
  · intro i h1 h2
    simp [Builtin.zeroCells, bcells, Nat.mod_one]
theorem one_any (g c f t : Nat) (w : World) (h0 : w.cell? ⟨g, 0, none⟩ = some (.int .u64 (f : Int))) (h1 : w.cell? ⟨g, 1, none⟩ = some (.int .u64 (t : Int))) :
    Calls Tryd.prog 14 #[.slice (some ⟨g, 0, none⟩) 1 c, .int .u64 (f : Int), .int .u64 (t : Int)] w fun e w' => e = .returned (.bool true) ∧ Below w.heap.size w w' := by
  go_enter Tryd.func14, Tryd.ntmps14
  go_wp2_with fail
  go_ret
  exact ⟨rfl, Below.refl _ _⟩
set_option maxRecDepth 100000 in
set_option maxHeartbeats 16000000 in
theorem known_walk (w : World) (hT : TabR w) : Calls Tryd.prog 5 #[] w fun e w' => e = .returned (.bool true) ∧ Below w.heap.size w w' := by
  have HT := Lib.hid hT
  have HB := Lib.hid (Below.refl w.heap.size w)
  clear hT
  go_enter Tryd.func5, Tryd.ntmps5
  have bA := (Below.refl _ w).alloc (Nat.le_refl _) (.cells #[.int .u64 5, .int .u64 5] 37)
  have HT := Lib.hid (HT.out.after bA)
  have HB := Lib.hid (belowGo HB.out bA)
  clear bA
  have q0 := Lib.hid (Blk.newAt w 37 #[.int .u64 5, .int .u64 5] (g := w.heap.size) (by simp))
  have H1 := Lib.hid (laidK_any [5, 5] (some ⟨w.heap.size, 0, none⟩) 2 2 _ (by decide) (by decide) (q0.out.rd (n := 2) rfl (by decide)))
  clear q0
  go_wp2_with fail
  refine H1.out.mono ?_
  rintro e w1 ⟨v, rfl, o, b⟩
  clear H1
  rw [show (segK [5, 5]).length = 70 by rw [segK_len]; rfl] at o
  have HT := Lib.hid (HT.out.after b)
  have HB := Lib.hid (belowGo HB.out b)
  clear b
  obtain ⟨g1, c1, rfl, hc1, _⟩ := own_ptr o (by decide)
  have r1 := Lib.hid (own_rd o)
  clear o
  have H2 := of_any 3 (segK [5, 5]) (some ⟨g1, 0, none⟩) 70 c1 w1 HT.out hc1 r1.out (by decide)
  unfold RetSc at H2
  rw [ek_a] at H2
  have H2 := Lib.hid H2
  simp only [Int.cast_ofNat_Int] at H2
  clear r1 hc1
  go_wp2_with fail
  refine H2.out.mono ?_
  rintro e w2 ⟨vF, vP, Xa, rfl, s, b⟩
  clear H2
  obtain ⟨AFa, cFa, rfl⟩ := own_slice s.2.1
  obtain ⟨APa, cPa, rfl⟩ := own_slice s.2.2.1
  have hX : Xa.length = 1 := by rw [← List.length_map (f := FX.off), s.1]; rfl
  rw [hX] at s ⊢
  clear hX
  have Ra := Lib.hid s
  clear s
  have HT := Lib.hid (HT.out.after b)
  have HB := Lib.hid (belowGo HB.out b)
  clear b
  simp only [scCells, Int.cast_ofNat_Int]
  have bA := (Below.refl _ w2).alloc (Nat.le_refl _) (.cells #[.int .u32 3, .slice AFa 1 cFa, .slice APa 0 cPa, .int .i64 43, .int .i64 23] 33)
  have HT := Lib.hid (HT.out.after bA)
  have HB := Lib.hid (belowGo HB.out bA)
  have Ra := Lib.hid (Ra.out.after bA)
  clear bA
  have Qa := Lib.hid (Blk.newAt w2 33 #[.int .u32 3, .slice AFa 1 cFa, .slice APa 0 cPa, .int .i64 43, .int .i64 23] (g := w2.heap.size) (by simp))
  have H3 := Lib.hid (laidK_any [] none 0 0 (w2.alloc (.cells #[.int .u32 3, .slice AFa 1 cFa, .slice APa 0 cPa, .int .i64 43, .int .i64 23] 33)) (by decide) (by decide) (Rd.nil_ _ _ _ _))
  go_wp2_with fail
  refine H3.out.mono ?_
  rintro e w3 ⟨v, rfl, o, b⟩
  clear H3
  rw [show (segK []).length = 16 by rw [segK_len]; rfl] at o
  have HT := Lib.hid (HT.out.after b)
  have HB := Lib.hid (belowGo HB.out b)
  have Ra := Lib.hid (Ra.out.after b)
  have Qa := Lib.hid (Qa.out.after b)
  clear b
  obtain ⟨g3, c3, rfl, hc3, _⟩ := own_ptr o (by decide)
  have r3 := Lib.hid (own_rd o)
  clear o
  have H4 := of_any 3 (segK []) (some ⟨g3, 0, none⟩) 16 c3 w3 HT.out hc3 r3.out (by decide)
  unfold RetSc at H4
  rw [ek_b] at H4
  have H4 := Lib.hid H4
  simp only [Int.cast_ofNat_Int] at H4
  clear r3 hc3
  go_wp2_with fail
  refine H4.out.mono ?_
  rintro e w4 ⟨vF, vP, Xb, rfl, s, b⟩
  clear H4
  obtain ⟨AFb, cFb, rfl⟩ := own_slice s.2.1
  obtain ⟨APb, cPb, rfl⟩ := own_slice s.2.2.1
  have hX : Xb.length = 0 := by rw [← List.length_map (f := FX.off), s.1]; rfl
  rw [hX] at s ⊢
  clear hX
  have Rb := Lib.hid s
  clear s
  have HT := Lib.hid (HT.out.after b)
  have HB := Lib.hid (belowGo HB.out b)
  have Ra := Lib.hid (Ra.out.after b)
  have Qa := Lib.hid (Qa.out.after b)
  clear b
  simp only [scCells, Int.cast_ofNat_Int]
  have bA := (Below.refl _ w4).alloc (Nat.le_refl _) (.cells #[.int .u32 3, .slice AFb 0 cFb, .slice APb 0 cPb, .int .i64 16, .int .i64 0] 33)
  have HT := Lib.hid (HT.out.after bA)
  have HB := Lib.hid (belowGo HB.out bA)
  have Ra := Lib.hid (Ra.out.after bA)
  have Qa := Lib.hid (Qa.out.after bA)
  have Rb := Lib.hid (Rb.out.after bA)
  clear bA
  have Qb := Lib.hid (Blk.newAt w4 33 #[.int .u32 3, .slice AFb 0 cFb, .slice APb 0 cPb, .int .i64 16, .int .i64 0] (g := w4.heap.size) (by simp))
  have H5 := of_any 3 [] none 0 0 (w4.alloc (.cells #[.int .u32 3, .slice AFb 0 cFb, .slice APb 0 cPb, .int .i64 16, .int .i64 0] 33)) HT.out (Nat.le_refl _) (Rd.nil_ _ _ _ _) (by decide)
  unfold RetSc at H5
  rw [ek_c] at H5
  have H5 := Lib.hid H5
  simp only [Int.cast_ofNat_Int] at H5
  go_wp2_with fail
  refine H5.out.mono ?_
  rintro e w5 ⟨vF, vP, Xc, rfl, s, b⟩
  clear H5
  obtain ⟨AFc, cFc, rfl⟩ := own_slice s.2.1
  obtain ⟨APc, cPc, rfl⟩ := own_slice s.2.2.1
  have hX : Xc.length = 0 := by rw [← List.length_map (f := FX.off), s.1]; rfl
  rw [hX] at s ⊢
  clear hX
  have Rc := Lib.hid s
  clear s
  have HT := Lib.hid (HT.out.after b)
  have HB := Lib.hid (belowGo HB.out b)
  have Ra := Lib.hid (Ra.out.after b)
  have Qa := Lib.hid (Qa.out.after b)
  have Rb := Lib.hid (Rb.out.after b)
  have Qb := Lib.hid (Qb.out.after b)
  clear b
  simp only [scCells, Int.cast_ofNat_Int]
  have bA := (Below.refl _ w5).alloc (Nat.le_refl _) (.cells #[.int .u32 3, .slice AFc 0 cFc, .slice APc 0 cPc, .int .i64 0, .int .i64 22] 33)
  have HT := Lib.hid (HT.out.after bA)
  have HB := Lib.hid (belowGo HB.out bA)
  have Ra := Lib.hid (Ra.out.after bA)
  have Qa := Lib.hid (Qa.out.after bA)
  have Rb := Lib.hid (Rb.out.after bA)
  have Qb := Lib.hid (Qb.out.after bA)
  have Rc := Lib.hid (Rc.out.after bA)
  clear bA
  have Qc := Lib.hid (Blk.newAt w5 33 #[.int .u32 3, .slice AFc 0 cFc, .slice APc 0 cPc, .int .i64 0, .int .i64 22] (g := w5.heap.size) (by simp))
  have H6 := Lib.hid (laidK_any [] none 0 0 (w5.alloc (.cells #[.int .u32 3, .slice AFc 0 cFc, .slice APc 0 cPc, .int .i64 0, .int .i64 22] 33)) (by decide) (by decide) (Rd.nil_ _ _ _ _))
  go_wp2_with fail
  refine H6.out.mono ?_
  rintro e w6 ⟨v, rfl, o, b⟩
  clear H6
  rw [show (segK []).length = 16 by rw [segK_len]; rfl] at o
  have HT := Lib.hid (HT.out.after b)
  have HB := Lib.hid (belowGo HB.out b)
  have Ra := Lib.hid (Ra.out.after b)
  have Qa := Lib.hid (Qa.out.after b)
  have Rb := Lib.hid (Rb.out.after b)
  have Qb := Lib.hid (Qb.out.after b)
  have Rc := Lib.hid (Rc.out.after b)
  have Qc := Lib.hid (Qc.out.after b)
  clear b
  obtain ⟨g6, c6, rfl, hc6, _⟩ := own_ptr o (by decide)
  have r6 := Lib.hid (own_rd o)
  clear o
  have H7 := of_any 0 (segK []) (some ⟨g6, 0, none⟩) 16 c6 w6 HT.out hc6 r6.out (by decide)
  unfold RetSc at H7
  rw [ek_d] at H7
  have H7 := Lib.hid H7
  simp only [Int.cast_ofNat_Int] at H7
  clear r6 hc6
  go_wp2_with fail
  refine H7.out.mono ?_
  rintro e w7 ⟨vF, vP, Xd, rfl, s, b⟩
  clear H7
  obtain ⟨AFd, cFd, rfl⟩ := own_slice s.2.1
  obtain ⟨APd, cPd, rfl⟩ := own_slice s.2.2.1
  have hX : Xd.length = 0 := by rw [← List.length_map (f := FX.off), s.1]; rfl
  rw [hX] at s ⊢
  clear hX
  have Rd := Lib.hid s
  clear s
  have HT := Lib.hid (HT.out.after b)
  have HB := Lib.hid (belowGo HB.out b)
  have Ra := Lib.hid (Ra.out.after b)
  have Qa := Lib.hid (Qa.out.after b)
  have Rb := Lib.hid (Rb.out.after b)
  have Qb := Lib.hid (Qb.out.after b)
  have Rc := Lib.hid (Rc.out.after b)
  have Qc := Lib.hid (Qc.out.after b)
  clear b
  simp only [scCells, Int.cast_ofNat_Int]
  have bA := (Below.refl _ w7).alloc (Nat.le_refl _) (.cells #[.int .u32 0, .slice AFd 0 cFd, .slice APd 0 cPd, .int .i64 0, .int .i64 23] 33)
  have HT := Lib.hid (HT.out.after bA)
  have HB := Lib.hid (belowGo HB.out bA)
  have Ra := Lib.hid (Ra.out.after bA)
  have Qa := Lib.hid (Qa.out.after bA)
  have Rb := Lib.hid (Rb.out.after bA)
  have Qb := Lib.hid (Qb.out.after bA)
  have Rc := Lib.hid (Rc.out.after bA)
  have Qc := Lib.hid (Qc.out.after bA)
  have Rd := Lib.hid (Rd.out.after bA)
  clear bA
  have Qd := Lib.hid (Blk.newAt w7 33 #[.int .u32 0, .slice AFd 0 cFd, .slice APd 0 cPd, .int .i64 0, .int .i64 23] (g := w7.heap.size) (by simp))
  have bA := (Below.refl _ (w7.alloc (.cells #[.int .u32 0, .slice AFd 0 cFd, .slice APd 0 cPd, .int .i64 0, .int .i64 23] 33))).alloc (Nat.le_refl _) (.cells #[.int .u64 4] 37)
  have HT := Lib.hid (HT.out.after bA)
  have HB := Lib.hid (belowGo HB.out bA)
  have Ra := Lib.hid (Ra.out.after bA)
  have Qa := Lib.hid (Qa.out.after bA)
  have Rb := Lib.hid (Rb.out.after bA)
  have Qb := Lib.hid (Qb.out.after bA)
  have Rc := Lib.hid (Rc.out.after bA)
  have Qc := Lib.hid (Qc.out.after bA)
  have Rd := Lib.hid (Rd.out.after bA)
  have Qd := Lib.hid (Qd.out.after bA)
  clear bA
  have q0 := Lib.hid (Blk.newAt (w7.alloc (.cells #[.int .u32 0, .slice AFd 0 cFd, .slice APd 0 cPd, .int .i64 0, .int .i64 23] 33)) 37 #[.int .u64 4] (g := w7.heap.size + 1) (by simp))
  have H8 := Lib.hid (laidK_any [4] (some ⟨w7.heap.size + 1, 0, none⟩) 1 1 _ (by decide) (by decide) (q0.out.rd (n := 1) rfl (by decide)))
  clear q0
  go_wp2_with fail
  refine H8.out.mono ?_
  rintro e w8 ⟨v, rfl, o, b⟩
  clear H8
  rw [show (segK [4]).length = 43 by rw [segK_len]; rfl] at o
  have hbz := b.size
  obtain ⟨v8, wz8, hrun, oz, gz⟩ := run_append_zeros_own (tn := 3) (kq := .i64) eltU8 Tryd.underlying3 w8 _ 25 v 43 _ o 21 (by decide) (by decide) (by decide) hbz (by rw [zeros_bytes]; exact bcells_one _)
  have b := below_of_grown b hbz o gz
  simp only [Int.cast_ofNat_Int] at hrun
  clear gz o
  have HR := Lib.hid hrun
  clear hrun
  have HT := Lib.hid (HT.out.after b)
  have HB := Lib.hid (belowGo HB.out b)
  have Ra := Lib.hid (Ra.out.after b)
  have Qa := Lib.hid (Qa.out.after b)
  have Rb := Lib.hid (Rb.out.after b)
  have Qb := Lib.hid (Qb.out.after b)
  have Rc := Lib.hid (Rc.out.after b)
  have Qc := Lib.hid (Qc.out.after b)
  have Rd := Lib.hid (Rd.out.after b)
  have Qd := Lib.hid (Qd.out.after b)
  clear b hbz
  go_wp2_with (at_builtin; refine Lib.wpList_append_run _ rfl _ _ _ _ rfl _ _ rfl rfl _ _ HR.out ?_)
  clear HR
  have o : Ow wz8 _ 5 1 v8 64 (bcells (segK [4] ++ List.replicate 21 0)) := own_eq oz rfl (by rw [bcells_append, zeros_bytes])
  clear oz
  obtain ⟨g8, c8, rfl, hc8, _⟩ := own_ptr o (by decide)
  have r8 := Lib.hid (own_rd o)
  clear o
  have H9 := of_any 3 (segK [4] ++ List.replicate 21 0) (some ⟨g8, 0, none⟩) 64 c8 wz8 HT.out hc8 r8.out (by decide)
  unfold RetSc at H9
  rw [ek_e] at H9
  have H9 := Lib.hid H9
  simp only [Int.cast_ofNat_Int] at H9
  clear r8 hc8
  go_wp2_with fail
  refine H9.out.mono ?_
  rintro e w9 ⟨vF, vP, Xe, rfl, s, b⟩
  clear H9
  obtain ⟨AFe, cFe, rfl⟩ := own_slice s.2.1
  obtain ⟨APe, cPe, rfl⟩ := own_slice s.2.2.1
  have hX : Xe.length = 1 := by rw [← List.length_map (f := FX.off), s.1]; rfl
  rw [hX] at s ⊢
  clear hX
  have Re := Lib.hid s
  clear s
  have HT := Lib.hid (HT.out.after b)
  have HB := Lib.hid (belowGo HB.out b)
  have Ra := Lib.hid (Ra.out.after b)
  have Qa := Lib.hid (Qa.out.after b)
  have Rb := Lib.hid (Rb.out.after b)
  have Qb := Lib.hid (Qb.out.after b)
  have Rc := Lib.hid (Rc.out.after b)
  have Qc := Lib.hid (Qc.out.after b)
  have Rd := Lib.hid (Rd.out.after b)
  have Qd := Lib.hid (Qd.out.after b)
  clear b
  simp only [scCells, Int.cast_ofNat_Int]
  have bA := (Below.refl _ w9).alloc (Nat.le_refl _) (.cells #[.int .u32 3, .slice AFe 1 cFe, .slice APe 0 cPe, .int .i64 43, .int .i64 23] 33)
  have HT := Lib.hid (HT.out.after bA)
  have HB := Lib.hid (belowGo HB.out bA)
  have Ra := Lib.hid (Ra.out.after bA)
  have Qa := Lib.hid (Qa.out.after bA)
  have Rb := Lib.hid (Rb.out.after bA)
  have Qb := Lib.hid (Qb.out.after bA)
  have Rc := Lib.hid (Rc.out.after bA)
  have Qc := Lib.hid (Qc.out.after bA)
  have Rd := Lib.hid (Rd.out.after bA)
  have Qd := Lib.hid (Qd.out.after bA)
  have Re := Lib.hid (Re.out.after bA)
  clear bA
  have Qe := Lib.hid (Blk.newAt w9 33 #[.int .u32 3, .slice AFe 1 cFe, .slice APe 0 cPe, .int .i64 43, .int .i64 23] (g := w9.heap.size) (by simp))
  have bA := (Below.refl _ (w9.alloc (.cells #[.int .u32 3, .slice AFe 1 cFe, .slice APe 0 cPe, .int .i64 43, .int .i64 23] 33))).alloc (Nat.le_refl _) (.cells #[.int .u64 2, .int .u64 4, .int .u64 9] 37)
  have HT := Lib.hid (HT.out.after bA)
  have HB := Lib.hid (belowGo HB.out bA)
  have Ra := Lib.hid (Ra.out.after bA)
  have Qa := Lib.hid (Qa.out.after bA)
  have Rb := Lib.hid (Rb.out.after bA)
  have Qb := Lib.hid (Qb.out.after bA)
  have Rc := Lib.hid (Rc.out.after bA)
  have Qc := Lib.hid (Qc.out.after bA)
  have Rd := Lib.hid (Rd.out.after bA)
  have Qd := Lib.hid (Qd.out.after bA)
  have Re := Lib.hid (Re.out.after bA)
  have Qe := Lib.hid (Qe.out.after bA)
  clear bA
  have q0 := Lib.hid (Blk.newAt (w9.alloc (.cells #[.int .u32 3, .slice AFe 1 cFe, .slice APe 0 cPe, .int .i64 43, .int .i64 23] 33)) 37 #[.int .u64 2, .int .u64 4, .int .u64 9] (g := w9.heap.size + 1) (by simp))
  have H10 := Lib.hid (laidK_any [2, 4, 9] (some ⟨w9.heap.size + 1, 0, none⟩) 3 3 _ (by decide) (by decide) (q0.out.rd (n := 3) rfl (by decide)))
  clear q0
  go_wp2_with fail
  refine H10.out.mono ?_
  rintro e w10 ⟨v, rfl, o, b⟩
  clear H10
  rw [show (segK [2, 4, 9]).length = 97 by rw [segK_len]; rfl] at o
  have HT := Lib.hid (HT.out.after b)
  have HB := Lib.hid (belowGo HB.out b)
  have Ra := Lib.hid (Ra.out.after b)
  have Qa := Lib.hid (Qa.out.after b)
  have Rb := Lib.hid (Rb.out.after b)
  have Qb := Lib.hid (Qb.out.after b)
  have Rc := Lib.hid (Rc.out.after b)
  have Qc := Lib.hid (Qc.out.after b)
  have Rd := Lib.hid (Rd.out.after b)
  have Qd := Lib.hid (Qd.out.after b)
  have Re := Lib.hid (Re.out.after b)
  have Qe := Lib.hid (Qe.out.after b)
  clear b
  obtain ⟨g10, c10, rfl, hc10, _⟩ := own_ptr o (by decide)
  have r10 := Lib.hid (own_rd o)
  clear o
  have H11 := of_any 3 (segK [2, 4, 9]) (some ⟨g10, 0, none⟩) 97 c10 w10 HT.out hc10 r10.out (by decide)
  unfold RetSc at H11
  rw [ek_f] at H11
  have H11 := Lib.hid H11
  simp only [Int.cast_ofNat_Int] at H11
  clear r10 hc10
  go_wp2_with fail
  refine H11.out.mono ?_
  rintro e w11 ⟨vF, vP, Xf, rfl, s, b⟩
  clear H11
  obtain ⟨AFf, cFf, rfl⟩ := own_slice s.2.1
  obtain ⟨APf, cPf, rfl⟩ := own_slice s.2.2.1
  have hX : Xf.length = 3 := by rw [← List.length_map (f := FX.off), s.1]; rfl
  rw [hX] at s ⊢
  clear hX
  have Rf := Lib.hid s
  clear s
  have HT := Lib.hid (HT.out.after b)
  have HB := Lib.hid (belowGo HB.out b)
  have Ra := Lib.hid (Ra.out.after b)
  have Qa := Lib.hid (Qa.out.after b)
  have Rb := Lib.hid (Rb.out.after b)
  have Qb := Lib.hid (Qb.out.after b)
  have Rc := Lib.hid (Rc.out.after b)
  have Qc := Lib.hid (Qc.out.after b)
  have Rd := Lib.hid (Rd.out.after b)
  have Qd := Lib.hid (Qd.out.after b)
  have Re := Lib.hid (Re.out.after b)
  have Qe := Lib.hid (Qe.out.after b)
  clear b
  simp only [scCells, Int.cast_ofNat_Int]
  have bA := (Below.refl _ w11).alloc (Nat.le_refl _) (.cells #[.int .u32 3, .slice AFf 3 cFf, .slice APf 0 cPf, .int .i64 97, .int .i64 0] 33)
  have HT := Lib.hid (HT.out.after bA)
  have HB := Lib.hid (belowGo HB.out bA)
  have Ra := Lib.hid (Ra.out.after bA)
  have Qa := Lib.hid (Qa.out.after bA)
  have Rb := Lib.hid (Rb.out.after bA)
  have Qb := Lib.hid (Qb.out.after bA)
  have Rc := Lib.hid (Rc.out.after bA)
  have Qc := Lib.hid (Qc.out.after bA)
  have Rd := Lib.hid (Rd.out.after bA)
  have Qd := Lib.hid (Qd.out.after bA)
  have Re := Lib.hid (Re.out.after bA)
  have Qe := Lib.hid (Qe.out.after bA)
  have Rf := Lib.hid (Rf.out.after bA)
  clear bA
  have Qf := Lib.hid (Blk.newAt w11 33 #[.int .u32 3, .slice AFf 3 cFf, .slice APf 0 cPf, .int .i64 97, .int .i64 0] (g := w11.heap.size) (by simp))
  have hi : ScInv (segK [2, 4, 9]) ⟨[16, 43, 70], [], 97, 0⟩ := by have := ofS_inv 3 (segK [2, 4, 9]); rwa [ek_f] at this
  have H12 := lost_any (segK [2, 4, 9]) _ 3 ⟨[16, 43, 70], [], 97, 0⟩ (.slice AFf 3 cFf) (.slice APf 0 cPf) Xf ⟨4, 97, 3, 2, 9⟩ (w11.alloc (.cells #[.int .u32 3, .slice AFf 3 cFf, .slice APf 0 cPf, .int .i64 97, .int .i64 0] 33)) Rf.out hi (by decide) (by decide)
  rw [el_l] at H12
  have H12 := Lib.hid H12
  simp only [scCells, slCells, Int.cast_ofNat_Int] at H12
  clear hi
  have x0 := Qf.out.cell 0
  have x1 := Qf.out.cell 1
  have x2 := Qf.out.cell 2
  have x3 := Qf.out.cell 3
  have x4 := Qf.out.cell 4
  go_wp2_with fail
  refine H12.out.mono ?_
  clear H12 x0 x1 x2 x3 x4
  unfold RetLost
  rintro e w12 ⟨v, rfl, o, b⟩
  have HT := Lib.hid (HT.out.after b)
  have HB := Lib.hid (belowGo HB.out b)
  have Ra := Lib.hid (Ra.out.after b)
  have Qa := Lib.hid (Qa.out.after b)
  have Rb := Lib.hid (Rb.out.after b)
  have Qb := Lib.hid (Qb.out.after b)
  have Rc := Lib.hid (Rc.out.after b)
  have Qc := Lib.hid (Qc.out.after b)
  have Rd := Lib.hid (Rd.out.after b)
  have Qd := Lib.hid (Qd.out.after b)
  have Re := Lib.hid (Re.out.after b)
  have Qe := Lib.hid (Qe.out.after b)
  have Rf := Lib.hid (Rf.out.after b)
  have Qf := Lib.hid (Qf.out.after b)
  clear b
  have o : Ow w12 _ 53 2 v 1 [.int .u64 2, .int .u64 9] := o
  obtain ⟨gll, cll, rfl, _, _⟩ := own_ptr o (by decide)
  have Ol : Hid (Ow _ _ _ _ _ _ _) := Lib.hid o
  clear o
  have hi : ScInv (segK [2, 4, 9]) ⟨[16, 43, 70], [], 97, 0⟩ := by have := ofS_inv 3 (segK [2, 4, 9]); rwa [ek_f] at this
  have H13 := lost_any (segK [2, 4, 9]) _ 3 ⟨[16, 43, 70], [], 97, 0⟩ (.slice AFf 3 cFf) (.slice APf 0 cPf) Xf ⟨3, 97, 3, 2, 8⟩ w12 Rf.out hi (by decide) (by decide)
  rw [el_m] at H13
  have H13 := Lib.hid H13
  simp only [scCells, slCells, Int.cast_ofNat_Int] at H13
  clear hi
  have x0 := Qf.out.cell 0
  have x1 := Qf.out.cell 1
  have x2 := Qf.out.cell 2
  have x3 := Qf.out.cell 3
  have x4 := Qf.out.cell 4
  go_wp2_with fail
  refine H13.out.mono ?_
  clear H13 x0 x1 x2 x3 x4
  unfold RetLost
  rintro e w13 ⟨v, rfl, o, b⟩
  have HT := Lib.hid (HT.out.after b)
  have HB := Lib.hid (belowGo HB.out b)
  have Ra := Lib.hid (Ra.out.after b)
  have Qa := Lib.hid (Qa.out.after b)
  have Rb := Lib.hid (Rb.out.after b)
  have Qb := Lib.hid (Qb.out.after b)
  have Rc := Lib.hid (Rc.out.after b)
  have Qc := Lib.hid (Qc.out.after b)
  have Rd := Lib.hid (Rd.out.after b)
  have Qd := Lib.hid (Qd.out.after b)
  have Re := Lib.hid (Re.out.after b)
  have Qe := Lib.hid (Qe.out.after b)
  have Rf := Lib.hid (Rf.out.after b)
  have Qf := Lib.hid (Qf.out.after b)
  have Ol : Hid (Ow _ _ _ _ _ _ _) := Lib.hid (Ow.after Ol.out b)
  clear b
  have o : Ow w13 _ 53 2 v 1 [.int .u64 2, .int .u64 8] := o
  obtain ⟨glm, clm, rfl, _, _⟩ := own_ptr o (by decide)
  have Om : Hid (Ow _ _ _ _ _ _ _) := Lib.hid o
  clear o
  have hi : ScInv (segK [2, 4, 9]) ⟨[16, 43, 70], [], 97, 0⟩ := by have := ofS_inv 3 (segK [2, 4, 9]); rwa [ek_f] at this
  have H14 := lost_any (segK [2, 4, 9]) _ 3 ⟨[16, 43, 70], [], 97, 0⟩ (.slice AFf 3 cFf) (.slice APf 0 cPf) Xf ⟨3, 98, 4, 2, 12⟩ w13 Rf.out hi (by decide) (by decide)
  rw [el_n] at H14
  have H14 := Lib.hid H14
  simp only [scCells, slCells, Int.cast_ofNat_Int] at H14
  clear hi
  have x0 := Qf.out.cell 0
  have x1 := Qf.out.cell 1
  have x2 := Qf.out.cell 2
  have x3 := Qf.out.cell 3
  have x4 := Qf.out.cell 4
  go_wp2_with fail
  refine H14.out.mono ?_
  clear H14 x0 x1 x2 x3 x4
  unfold RetLost
  rintro e w14 ⟨v, rfl, o, b⟩
  have HT := Lib.hid (HT.out.after b)
  have HB := Lib.hid (belowGo HB.out b)
  have Ra := Lib.hid (Ra.out.after b)
  have Qa := Lib.hid (Qa.out.after b)
  have Rb := Lib.hid (Rb.out.after b)
  have Qb := Lib.hid (Qb.out.after b)
  have Rc := Lib.hid (Rc.out.after b)
  have Qc := Lib.hid (Qc.out.after b)
  have Rd := Lib.hid (Rd.out.after b)
  have Qd := Lib.hid (Qd.out.after b)
  have Re := Lib.hid (Re.out.after b)
  have Qe := Lib.hid (Qe.out.after b)
  have Rf := Lib.hid (Rf.out.after b)
  have Qf := Lib.hid (Qf.out.after b)
  have Ol : Hid (Ow _ _ _ _ _ _ _) := Lib.hid (Ow.after Ol.out b)
  have Om : Hid (Ow _ _ _ _ _ _ _) := Lib.hid (Ow.after Om.out b)
  clear b
  have o : Ow w14 _ 53 2 v 1 [.int .u64 10, .int .u64 12] := o
  obtain ⟨gln, cln, rfl, _, _⟩ := own_ptr o (by decide)
  have On : Hid (Ow _ _ _ _ _ _ _) := Lib.hid o
  clear o
  have hi : ScInv (segK [2, 4, 9]) ⟨[16, 43, 70], [], 97, 0⟩ := by have := ofS_inv 3 (segK [2, 4, 9]); rwa [ek_f] at this
  have H15 := lost_any (segK [2, 4, 9]) _ 3 ⟨[16, 43, 70], [], 97, 0⟩ (.slice AFf 3 cFf) (.slice APf 0 cPf) Xf ⟨3, 97, 3, 2, 9⟩ w14 Rf.out hi (by decide) (by decide)
  rw [el_o] at H15
  have H15 := Lib.hid H15
  simp only [scCells, slCells, Int.cast_ofNat_Int] at H15
  clear hi
  have x0 := Qf.out.cell 0
  have x1 := Qf.out.cell 1
  have x2 := Qf.out.cell 2
  have x3 := Qf.out.cell 3
  have x4 := Qf.out.cell 4
  go_wp2_with fail
  refine H15.out.mono ?_
  clear H15 x0 x1 x2 x3 x4
  unfold RetLost
  rintro e w15 ⟨v, rfl, o, b⟩
  have HT := Lib.hid (HT.out.after b)
  have HB := Lib.hid (belowGo HB.out b)
  have Ra := Lib.hid (Ra.out.after b)
  have Qa := Lib.hid (Qa.out.after b)
  have Rb := Lib.hid (Rb.out.after b)
  have Qb := Lib.hid (Qb.out.after b)
  have Rc := Lib.hid (Rc.out.after b)
  have Qc := Lib.hid (Qc.out.after b)
  have Rd := Lib.hid (Rd.out.after b)
  have Qd := Lib.hid (Qd.out.after b)
  have Re := Lib.hid (Re.out.after b)
  have Qe := Lib.hid (Qe.out.after b)
  have Rf := Lib.hid (Rf.out.after b)
  have Qf := Lib.hid (Qf.out.after b)
  have Ol : Hid (Ow _ _ _ _ _ _ _) := Lib.hid (Ow.after Ol.out b)
  have Om : Hid (Ow _ _ _ _ _ _ _) := Lib.hid (Ow.after Om.out b)
  have On : Hid (Ow _ _ _ _ _ _ _) := Lib.hid (Ow.after On.out b)
  clear b
  obtain ⟨Alo, clo, rfl⟩ := own_slice o
  clear o
  have hi : ScInv [] ⟨[], [], 0, 22⟩ := by have := ofS_inv 3 []; rwa [ek_c] at this
  have H16 := lost_any [] _ 3 ⟨[], [], 0, 22⟩ (.slice AFc 0 cFc) (.slice APc 0 cPc) Xc ⟨3, 97, 3, 2, 9⟩ w15 Rc.out hi (by decide) (by decide)
  rw [el_p] at H16
  have H16 := Lib.hid H16
  simp only [scCells, slCells, Int.cast_ofNat_Int] at H16
  clear hi
  have x0 := Qc.out.cell 0
  have x1 := Qc.out.cell 1
  have x2 := Qc.out.cell 2
  have x3 := Qc.out.cell 3
  have x4 := Qc.out.cell 4
  go_wp2_with fail
  refine H16.out.mono ?_
  clear H16 x0 x1 x2 x3 x4
  unfold RetLost
  rintro e w16 ⟨v, rfl, o, b⟩
  have HT := Lib.hid (HT.out.after b)
  have HB := Lib.hid (belowGo HB.out b)
  have Ra := Lib.hid (Ra.out.after b)
  have Qa := Lib.hid (Qa.out.after b)
  have Rb := Lib.hid (Rb.out.after b)
  have Qb := Lib.hid (Qb.out.after b)
  have Rc := Lib.hid (Rc.out.after b)
  have Qc := Lib.hid (Qc.out.after b)
  have Rd := Lib.hid (Rd.out.after b)
  have Qd := Lib.hid (Qd.out.after b)
  have Re := Lib.hid (Re.out.after b)
  have Qe := Lib.hid (Qe.out.after b)
  have Rf := Lib.hid (Rf.out.after b)
  have Qf := Lib.hid (Qf.out.after b)
  have Ol : Hid (Ow _ _ _ _ _ _ _) := Lib.hid (Ow.after Ol.out b)
  have Om : Hid (Ow _ _ _ _ _ _ _) := Lib.hid (Ow.after Om.out b)
  have On : Hid (Ow _ _ _ _ _ _ _) := Lib.hid (Ow.after On.out b)
  clear b
  have o : Ow w16 _ 53 2 v 1 [.int .u64 2, .int .u64 9] := o
  obtain ⟨glp, clp, rfl, _, _⟩ := own_ptr o (by decide)
  have Op : Hid (Ow _ _ _ _ _ _ _) := Lib.hid o
  clear o
  have hi : ScInv [] ⟨[], [], 0, 22⟩ := by have := ofS_inv 3 []; rwa [ek_c] at this
  have H17 := lost_any [] _ 3 ⟨[], [], 0, 22⟩ (.slice AFc 0 cFc) (.slice APc 0 cPc) Xc ⟨3, 16, 0, 0, 0⟩ w16 Rc.out hi (by decide) (by decide)
  rw [el_q] at H17
  have H17 := Lib.hid H17
  simp only [scCells, slCells, Int.cast_ofNat_Int] at H17
  clear hi
  have x0 := Qc.out.cell 0
  have x1 := Qc.out.cell 1
  have x2 := Qc.out.cell 2
  have x3 := Qc.out.cell 3
  have x4 := Qc.out.cell 4
  go_wp2_with fail
  refine H17.out.mono ?_
  clear H17 x0 x1 x2 x3 x4
  unfold RetLost
  rintro e w17 ⟨v, rfl, o, b⟩
  have HT := Lib.hid (HT.out.after b)
  have HB := Lib.hid (belowGo HB.out b)
  have Ra := Lib.hid (Ra.out.after b)
  have Qa := Lib.hid (Qa.out.after b)
  have Rb := Lib.hid (Rb.out.after b)
  have Qb := Lib.hid (Qb.out.after b)
  have Rc := Lib.hid (Rc.out.after b)
  have Qc := Lib.hid (Qc.out.after b)
  have Rd := Lib.hid (Rd.out.after b)
  have Qd := Lib.hid (Qd.out.after b)
  have Re := Lib.hid (Re.out.after b)
  have Qe := Lib.hid (Qe.out.after b)
  have Rf := Lib.hid (Rf.out.after b)
  have Qf := Lib.hid (Qf.out.after b)
  have Ol : Hid (Ow _ _ _ _ _ _ _) := Lib.hid (Ow.after Ol.out b)
  have Om : Hid (Ow _ _ _ _ _ _ _) := Lib.hid (Ow.after Om.out b)
  have On : Hid (Ow _ _ _ _ _ _ _) := Lib.hid (Ow.after On.out b)
  have Op : Hid (Ow _ _ _ _ _ _ _) := Lib.hid (Ow.after Op.out b)
  clear b
  obtain ⟨Alq, clq, rfl⟩ := own_slice o
  clear o
  have a1 := Qa.out.cell 1
  have a3 := Qa.out.cell 3
  have a4 := Qa.out.cell 4
  have b0 := Qb.out.cell 0
  have b1 := Qb.out.cell 1
  have b2 := Qb.out.cell 2
  have b3 := Qb.out.cell 3
  have b4 := Qb.out.cell 4
  have HS := seal_any _ (segK []) 3 ⟨[], [], 16, 0⟩ (.slice AFb 0 cFb) (.slice APb 0 cPb) Xb _ Rb.out (by decide) (by decide)
  rw [es_b] at HS
  have HS := Lib.hid HS
  simp only [scCells, slCells, Int.cast_ofNat_Int] at HS
  go_wp2_with fail
  refine HS.out.mono ?_
  rintro e ws ⟨rfl, b⟩
  clear HS a1 a3 a4 b0 b1 b2 b3 b4
  have HT := Lib.hid (HT.out.after b)
  have HB := Lib.hid (belowGo HB.out b)
  have Ra := Lib.hid (Ra.out.after b)
  have Qa := Lib.hid (Qa.out.after b)
  have Rb := Lib.hid (Rb.out.after b)
  have Qb := Lib.hid (Qb.out.after b)
  have Rc := Lib.hid (Rc.out.after b)
  have Qc := Lib.hid (Qc.out.after b)
  have Rd := Lib.hid (Rd.out.after b)
  have Qd := Lib.hid (Qd.out.after b)
  have Re := Lib.hid (Re.out.after b)
  have Qe := Lib.hid (Qe.out.after b)
  have Rf := Lib.hid (Rf.out.after b)
  have Qf := Lib.hid (Qf.out.after b)
  have Ol : Hid (Ow _ _ _ _ _ _ _) := Lib.hid (Ow.after Ol.out b)
  have Om : Hid (Ow _ _ _ _ _ _ _) := Lib.hid (Ow.after Om.out b)
  have On : Hid (Ow _ _ _ _ _ _ _) := Lib.hid (Ow.after On.out b)
  have Op : Hid (Ow _ _ _ _ _ _ _) := Lib.hid (Ow.after Op.out b)
  clear b
  have c3 := Qc.out.cell 3
  have c4 := Qc.out.cell 4
  have d4 := Qd.out.cell 4
  have e3 := Qe.out.cell 3
  have e4 := Qe.out.cell 4
  have p0 := Ow.cell Ol.out rfl (by decide) (j := 0) (x := .int .u64 2) rfl
  rw [Nat.zero_add] at p0
  have p1 := Ow.cell Ol.out rfl (by decide) (j := 1) (x := .int .u64 9) rfl
  rw [Nat.zero_add] at p1
  have H18 := Lib.hid (one_any gll cll 2 9 _ p0 p1)
  clear p0 p1
  go_wp2_with fail
  refine H18.out.mono ?_
  rintro e w18 ⟨rfl, b⟩
  clear H18
  have HT := Lib.hid (HT.out.after b)
  have HB := Lib.hid (belowGo HB.out b)
  have Ra := Lib.hid (Ra.out.after b)
  have Qa := Lib.hid (Qa.out.after b)
  have Rb := Lib.hid (Rb.out.after b)
  have Qb := Lib.hid (Qb.out.after b)
  have Rc := Lib.hid (Rc.out.after b)
  have Qc := Lib.hid (Qc.out.after b)
  have Rd := Lib.hid (Rd.out.after b)
  have Qd := Lib.hid (Qd.out.after b)
  have Re := Lib.hid (Re.out.after b)
  have Qe := Lib.hid (Qe.out.after b)
  have Rf := Lib.hid (Rf.out.after b)
  have Qf := Lib.hid (Qf.out.after b)
  have Ol : Hid (Ow _ _ _ _ _ _ _) := Lib.hid (Ow.after Ol.out b)
  have Om : Hid (Ow _ _ _ _ _ _ _) := Lib.hid (Ow.after Om.out b)
  have On : Hid (Ow _ _ _ _ _ _ _) := Lib.hid (Ow.after On.out b)
  have Op : Hid (Ow _ _ _ _ _ _ _) := Lib.hid (Ow.after Op.out b)
  clear b
  have p0 := Ow.cell Om.out rfl (by decide) (j := 0) (x := .int .u64 2) rfl
  rw [Nat.zero_add] at p0
  have p1 := Ow.cell Om.out rfl (by decide) (j := 1) (x := .int .u64 8) rfl
  rw [Nat.zero_add] at p1
  have H19 := Lib.hid (one_any glm clm 2 8 _ p0 p1)
  clear p0 p1
  go_wp2_with fail
  refine H19.out.mono ?_
  rintro e w19 ⟨rfl, b⟩
  clear H19
  have HT := Lib.hid (HT.out.after b)
  have HB := Lib.hid (belowGo HB.out b)
  have Ra := Lib.hid (Ra.out.after b)
  have Qa := Lib.hid (Qa.out.after b)
  have Rb := Lib.hid (Rb.out.after b)
  have Qb := Lib.hid (Qb.out.after b)
  have Rc := Lib.hid (Rc.out.after b)
  have Qc := Lib.hid (Qc.out.after b)
  have Rd := Lib.hid (Rd.out.after b)
  have Qd := Lib.hid (Qd.out.after b)
  have Re := Lib.hid (Re.out.after b)
  have Qe := Lib.hid (Qe.out.after b)
  have Rf := Lib.hid (Rf.out.after b)
  have Qf := Lib.hid (Qf.out.after b)
  have Ol : Hid (Ow _ _ _ _ _ _ _) := Lib.hid (Ow.after Ol.out b)
  have Om : Hid (Ow _ _ _ _ _ _ _) := Lib.hid (Ow.after Om.out b)
  have On : Hid (Ow _ _ _ _ _ _ _) := Lib.hid (Ow.after On.out b)
  have Op : Hid (Ow _ _ _ _ _ _ _) := Lib.hid (Ow.after Op.out b)
  clear b
  have p0 := Ow.cell On.out rfl (by decide) (j := 0) (x := .int .u64 10) rfl
  rw [Nat.zero_add] at p0
  have p1 := Ow.cell On.out rfl (by decide) (j := 1) (x := .int .u64 12) rfl
  rw [Nat.zero_add] at p1
  have H20 := Lib.hid (one_any gln cln 10 12 _ p0 p1)
  clear p0 p1
  go_wp2_with fail
  refine H20.out.mono ?_
  rintro e w20 ⟨rfl, b⟩
  clear H20
  have HT := Lib.hid (HT.out.after b)
  have HB := Lib.hid (belowGo HB.out b)
  have Ra := Lib.hid (Ra.out.after b)
  have Qa := Lib.hid (Qa.out.after b)
  have Rb := Lib.hid (Rb.out.after b)
  have Qb := Lib.hid (Qb.out.after b)
  have Rc := Lib.hid (Rc.out.after b)
  have Qc := Lib.hid (Qc.out.after b)
  have Rd := Lib.hid (Rd.out.after b)
  have Qd := Lib.hid (Qd.out.after b)
  have Re := Lib.hid (Re.out.after b)
  have Qe := Lib.hid (Qe.out.after b)
  have Rf := Lib.hid (Rf.out.after b)
  have Qf := Lib.hid (Qf.out.after b)
  have Ol : Hid (Ow _ _ _ _ _ _ _) := Lib.hid (Ow.after Ol.out b)
  have Om : Hid (Ow _ _ _ _ _ _ _) := Lib.hid (Ow.after Om.out b)
  have On : Hid (Ow _ _ _ _ _ _ _) := Lib.hid (Ow.after On.out b)
  have Op : Hid (Ow _ _ _ _ _ _ _) := Lib.hid (Ow.after Op.out b)
  clear b
  have p0 := Ow.cell Op.out rfl (by decide) (j := 0) (x := .int .u64 2) rfl
  rw [Nat.zero_add] at p0
  have p1 := Ow.cell Op.out rfl (by decide) (j := 1) (x := .int .u64 9) rfl
  rw [Nat.zero_add] at p1
  have H21 := Lib.hid (one_any glp clp 2 9 _ p0 p1)
  clear p0 p1
  go_wp2_with fail
  refine H21.out.mono ?_
  rintro e w21 ⟨rfl, b⟩
  clear H21
  have HT := Lib.hid (HT.out.after b)
  have HB := Lib.hid (belowGo HB.out b)
  have Ra := Lib.hid (Ra.out.after b)
  have Qa := Lib.hid (Qa.out.after b)
  have Rb := Lib.hid (Rb.out.after b)
  have Qb := Lib.hid (Qb.out.after b)
  have Rc := Lib.hid (Rc.out.after b)
  have Qc := Lib.hid (Qc.out.after b)
  have Rd := Lib.hid (Rd.out.after b)
  have Qd := Lib.hid (Qd.out.after b)
  have Re := Lib.hid (Re.out.after b)
  have Qe := Lib.hid (Qe.out.after b)
  have Rf := Lib.hid (Rf.out.after b)
  have Qf := Lib.hid (Qf.out.after b)
  have Ol : Hid (Ow _ _ _ _ _ _ _) := Lib.hid (Ow.after Ol.out b)
  have Om : Hid (Ow _ _ _ _ _ _ _) := Lib.hid (Ow.after Om.out b)
  have On : Hid (Ow _ _ _ _ _ _ _) := Lib.hid (Ow.after On.out b)
  have Op : Hid (Ow _ _ _ _ _ _ _) := Lib.hid (Ow.after Op.out b)
  clear b
  have HK := Lib.hid (knows_any _ HT.out)
  go_wp2_with fail
  refine HK.out.mono ?_
  rintro e wk ⟨rfl, b⟩
  have HT := Lib.hid (HT.out.after b)
  have HB := Lib.hid (belowGo HB.out b)
  have Ra := Lib.hid (Ra.out.after b)
  have Qa := Lib.hid (Qa.out.after b)
  have Rb := Lib.hid (Rb.out.after b)
  have Qb := Lib.hid (Qb.out.after b)
  have Rc := Lib.hid (Rc.out.after b)
  have Qc := Lib.hid (Qc.out.after b)
  have Rd := Lib.hid (Rd.out.after b)
  have Qd := Lib.hid (Qd.out.after b)
  have Re := Lib.hid (Re.out.after b)
  have Qe := Lib.hid (Qe.out.after b)
  have Rf := Lib.hid (Rf.out.after b)
  have Qf := Lib.hid (Qf.out.after b)
  have Ol : Hid (Ow _ _ _ _ _ _ _) := Lib.hid (Ow.after Ol.out b)
  have Om : Hid (Ow _ _ _ _ _ _ _) := Lib.hid (Ow.after Om.out b)
  have On : Hid (Ow _ _ _ _ _ _ _) := Lib.hid (Ow.after On.out b)
  have Op : Hid (Ow _ _ _ _ _ _ _) := Lib.hid (Ow.after Op.out b)
  clear HK b
  go_wp2_with fail
  go_ret
  exact ⟨rfl, HB.out⟩
end Go.Proofs.YtfapipamohlniaaDoor
