/- What the law LocOrder comes to: true. -/
import Derived.Test.YtohddbehcfoecaaLoc3
import Derived.Test.YtohddbehcfoecaaCmp
namespace Go.Proofs.Ytohddbehcfoecaa
open Go.RowKit

theorem cmpL_le (s o s' o' : Nat) (h1 : o < 4294967296) (h2 : o' < 4294967296) : ((decide (cmpL s o s' o' < 0)) = decide (s * 4294967296 + o < s' * 4294967296 + o')) ∧ ((cmpL s o s' o' == 0) = ((s * 4294967296 + o) == (s' * 4294967296 + o'))) := by
  have := cmpL_vals s o s' o'
  constructor
  · rw [decide_eq_decide]; omega
  · rw [Bool.eq_iff_iff, beq_iff_eq, beq_iff_eq]; omega

set_option maxRecDepth 100000 in
set_option maxHeartbeats 4000000 in
theorem order_walk (s0 o0 s1 o1 : Nat) (w : World) : Calls Try.prog 3 #[locV s0 o0, locV s1 o1] w fun e w' => e = .returned (.bool true) ∧ Below w.heap.size w w' := by
  obtain ⟨ma, na, l1, l2, l3, l4⟩ := br_may s0 o0
  obtain ⟨mb, nb, k1, k2, k3, k4⟩ := br_may s1 o1
  have HA := fun W => Lib.hid (brought_any s0 o0 W)
  have HB := fun W => Lib.hid (brought_any s1 o1 W)
  generalize brS s0 = s at *
  generalize brO o0 = o at *
  generalize brS s1 = s' at *
  generalize brO o1 = o' at *
  have HPA := fun W => Lib.hid (pack_any s o W)
  have HPB := fun W => Lib.hid (pack_any s' o' W)
  rw [show packE s o = 0 by unfold packE; rw [ma]; rfl, show packN s o = s * 4294967296 + o by unfold packN; rw [ma]; rfl] at HPA
  rw [show packE s' o' = 0 by unfold packE; rw [mb]; rfl, show packN s' o' = s' * 4294967296 + o' by unfold packN; rw [mb]; rfl] at HPB
  rw [show ((0 : Nat) : Int) = 0 from rfl] at HPA HPB
  have eA : locB [] s o = pform s ++ pform (o - 16) := by unfold locB; rw [ma, na]; rfl
  have eB : locB [] s' o' = pform s' ++ pform (o' - 16) := by unfold locB; rw [mb, nb]; rfl
  have HXA := fun W => Lib.hid (putL_at s o s o (locB [] s o) (locB [] s o).length W rfl rfl ma rfl rfl)
  have HXB := fun W => Lib.hid (putL_at s' o' s' o' (locB [] s' o') (locB [] s' o').length W rfl rfl mb rfl rfl)
  have HXN := fun W => Lib.hid (putL_at 0 0 0 0 [0] 1 W rfl rfl (by decide) (by decide +kernel) rfl)
  have hlen : 0 < (locB [] s o).length ∧ 0 < (locB [] s' o').length := by
    simp only [eA, eB, List.length_append, pform_len]
    have := psize_pos s
    have := psize_pos s'
    omega
  have C1 := Lib.hid (show Lib.compareBytes (locB [] s o) (locB [] s' o') = cmpL s o s' o' by
    rw [eA, eB, loc_cmp (by omega) (by omega) (by omega) (by omega)]
    unfold cmpL
    rw [← cmpN_add (o - 16) (o' - 16) 16, Nat.sub_add_cancel l3, Nat.sub_add_cancel k3])
  have C2 := Lib.hid (show Lib.compareBytes [0] (locB [] s o) = -1 by
    rw [eA, ← show pform 0 = [0] by decide +kernel]
    exact none_ahead s _ l1 (by omega))
  have C3 := Lib.hid (cmpL_back s o s' o')
  have C4 := Lib.hid (cmpL_none s o l1)
  obtain ⟨C5, C6⟩ := cmpL_le s o s' o' (by omega) (by omega)
  have HC1 := fun W => Lib.hid (compareL_any s o s' o' W)
  have HC2 := fun W => Lib.hid (compareL_any s' o' s o W)
  have HC3 := fun W => Lib.hid (compareL_any 0 0 s o W)
  rw [C3.out] at HC2
  rw [C4.out] at HC3
  have hv := cmpL_vals s o s' o'
  generalize locB [] s o = X at *
  generalize locB [] s' o' = Y at *
  generalize cmpL s o s' o' = c at *
  have hc : c = -1 ∨ c = 0 ∨ c = 1 := by omega
  clear hv eA eB C3 C4 ma na mb nb
  obtain ⟨n, hn⟩ : ∃ n, n = s * 4294967296 + o := ⟨_, rfl⟩
  obtain ⟨m, hm⟩ : ∃ n, n = s' * 4294967296 + o' := ⟨_, rfl⟩
  rw [← hn] at HPA C5 C6
  rw [← hm] at HPB C5 C6
  clear hn hm
  have D5 : c < 0 ↔ n < m := by rwa [decide_eq_decide] at C5
  have D6 : (c == 0) = ((n : Int) == (m : Int)) := by
    rw [C6, Bool.eq_iff_iff, beq_iff_eq, beq_iff_eq]; omega
  clear C5 C6
  unfold locV at *
  have q0 := (Blk.new w 24 #[.int .u32 (s0 : Int), .int .u32 (o0 : Int)]).alloc (.cells #[.int .u32 (s1 : Int), .int .u32 (o1 : Int)] 24)
  have q1 := Blk.newAt (w.alloc (.cells #[.int .u32 (s0 : Int), .int .u32 (o0 : Int)] 24)) 24 #[.int .u32 (s1 : Int), .int .u32 (o1 : Int)] (g := w.heap.size + 1) (by simp)
  have b0 := ((Below.refl w.heap.size w).alloc (Nat.le_refl _) (.cells #[.int .u32 (s0 : Int), .int .u32 (o0 : Int)] 24)).alloc (by simp) (.cells #[.int .u32 (s1 : Int), .int .u32 (o1 : Int)] 24)
  go_enter Try.func3, Try.ntmps3
  go_wp2_with fail
  generalize (w.alloc (.cells #[.int .u32 (s0 : Int), .int .u32 (o0 : Int)] 24)).alloc (.cells #[.int .u32 (s1 : Int), .int .u32 (o1 : Int)] 24) = w0 at *
  have hcur : Below w0.heap.size w0 w0.drew := ⟨rfl, rfl, rfl, Nat.le_refl _, fun _ _ => rfl⟩
  refine wp_region_plan (fun W => Below w0.heap.size w0 W) [.read 0, .read 2, .act 1, .act 3, .act 4, .act 5] (by kernel_rfl) (by rfl) (by kernel_rfl) (by kernel_rfl) hcur ?_
  generalize w0.drew = w1 at *
  refine plan_read (by rfl) (.agg #[.int .u32 (s0 : Int), .int .u32 (o0 : Int)]) (by rfl) (fun W hW => exec_load_blk rfl rfl (q0.after hW) Try.underlying24 rfl (by kernel_rfl)) ?_
  refine plan_read (by rfl) (.agg #[.int .u32 (s1 : Int), .int .u32 (o1 : Int)]) (by rfl) (fun W hW => exec_load_blk rfl rfl (q1.after hW) Try.underlying24 rfl (by kernel_rfl)) ?_
  refine plan_act (by rfl) ?_
  go_wp2_with fail
  refine (HA _).out.mono ?_
  rintro e w2 ⟨rfl, b2⟩
  have hcur := belowGo hcur b2
  go_wp2_with fail
  refine ⟨hcur, plan_last (by rfl) (by kernel_rfl) ?_⟩
  go_wp2_with fail
  refine (HB _).out.mono ?_
  rintro e w3 ⟨rfl, b3⟩
  have hcur := belowGo hcur b3
  have q0 := q0.after hcur
  have q1 := q1.after hcur
  have c00 := q0.cell 0
  have c01 := q0.cell 1
  have c10 := q1.cell 0
  have c11 := q1.cell 1
  have f00 := q0.frozen 0
  have f01 := q0.frozen 1
  have f10 := q1.frozen 0
  have f11 := q1.frozen 1
  have q0 : Blk _ w.heap.size 24 #[.int .u32 (s : Int), .int .u32 (o : Int)] := (((q0.set_ 0 (.int .u32 (s : Int))).set_ 1 (.int .u32 (o : Int))).far (p := ⟨w.heap.size + 1, 0, none⟩) (by simp) (.int .u32 (s' : Int))).far (p := ⟨w.heap.size + 1, 1, none⟩) (by simp) (.int .u32 (o' : Int))
  have q1 : Blk _ (w.heap.size + 1) 24 #[.int .u32 (s' : Int), .int .u32 (o' : Int)] := (((q1.far (p := ⟨w.heap.size, 0, none⟩) (by simp) (.int .u32 (s : Int))).far (p := ⟨w.heap.size, 1, none⟩) (by simp) (.int .u32 (o : Int))).set_ 0 (.int .u32 (s' : Int))).set_ 1 (.int .u32 (o' : Int))
  have hbw := b0.trans (hcur.mono b0.size)
  have hbw := (((hbw.setCell (p := ⟨w.heap.size, 0, none⟩) (by simp) (.int .u32 (s : Int))).setCell (p := ⟨w.heap.size, 1, none⟩) (by simp) (.int .u32 (o : Int))).setCell (p := ⟨w.heap.size + 1, 0, none⟩) (by simp) (.int .u32 (s' : Int))).setCell (p := ⟨w.heap.size + 1, 1, none⟩) (by simp) (.int .u32 (o' : Int))
  go_wp2_with fail
  refine plan_last (by rfl) (by kernel_rfl) ?_
  go_wp2_with fail
  refine plan_last (by rfl) (by kernel_rfl) ?_
  go_wp2_with fail
  refine plan_end ?_
  clear hcur c00 c01 c10 c11 f00 f01 f10 f11 b2 b3 b0
  generalize (((w3.setCell ⟨w.heap.size, 0, none⟩ (.int .u32 (s : Int))).setCell ⟨w.heap.size, 1, none⟩ (.int .u32 (o : Int))).setCell ⟨w.heap.size + 1, 0, none⟩ (.int .u32 (s' : Int))).setCell ⟨w.heap.size + 1, 1, none⟩ (.int .u32 (o' : Int)) = w4 at *
  have c00 := q0.cell 0
  have c01 := q0.cell 1
  have c10 := q1.cell 0
  have c11 := q1.cell 1
  go_wp2_with fail
  refine (HPA _).out.mono ?_
  rintro e w5 ⟨rfl, b5⟩
  have hb := b5
  have q0 := q0.after b5
  have q1 := q1.after b5
  have c00 := q0.cell 0
  have c01 := q0.cell 1
  have c10 := q1.cell 0
  have c11 := q1.cell 1
  clear HPA HA HB b5
  go_wp2_with fail
  refine (HPB _).out.mono ?_
  rintro e w6 ⟨rfl, b5⟩
  have hb := belowGo hb b5
  have q0 := q0.after b5
  have q1 := q1.after b5
  have c00 := q0.cell 0
  have c01 := q0.cell 1
  have c10 := q1.cell 0
  have c11 := q1.cell 1
  clear HPB b5
  go_wp2_with fail
  refine (HXA _).out.mono ?_
  rintro e w7 ⟨vx, rfl, ox, b5⟩
  obtain ⟨gx, cx, rfl, _, _⟩ := own_ptr ox hlen.1
  have rx := own_rd ox
  have hb := belowGo hb b5
  have q0 := q0.after b5
  have q1 := q1.after b5
  have c00 := q0.cell 0
  have c01 := q0.cell 1
  have c10 := q1.cell 0
  have c11 := q1.cell 1
  clear HXA b5 ox
  go_wp2_with fail
  refine (HXB _).out.mono ?_
  rintro e w8 ⟨vy, rfl, oy, b5⟩
  obtain ⟨gy, cy, rfl, _, _⟩ := own_ptr oy hlen.2
  have ry := own_rd oy
  have rx := rx.after b5
  have hb := belowGo hb b5
  have q0 := q0.after b5
  have q1 := q1.after b5
  have c00 := q0.cell 0
  have c01 := q0.cell 1
  have c10 := q1.cell 0
  have c11 := q1.cell 1
  clear HXB b5 oy
  go_wp2_with fail
  refine (HXN _).out.mono ?_
  rintro e w9 ⟨vz, rfl, oz, b5⟩
  obtain ⟨gz, cz, rfl, _, _⟩ := own_ptr oz (by omega)
  have rz := own_rd oz
  have ry := ry.after b5
  have rx := rx.after b5
  have hb := belowGo hb b5
  have q0 := q0.after b5
  have q1 := q1.after b5
  have c00 := q0.cell 0
  have c01 := q0.cell 1
  have c10 := q1.cell 0
  have c11 := q1.cell 1
  clear HXN b5 oz
  go_wp2_with fail
  refine (HC1 _).out.mono ?_
  rintro e w10 ⟨rfl, b5⟩
  have rz := rz.after b5
  have ry := ry.after b5
  have rx := rx.after b5
  have hb := belowGo hb b5
  have q0 := q0.after b5
  have q1 := q1.after b5
  have c00 := q0.cell 0
  have c01 := q0.cell 1
  have c10 := q1.cell 0
  have c11 := q1.cell 1
  have HCB := fun W A n c' A' n' c'' (h : Rd W W.heap.size 1 A n (bcells X)) (h' : Rd W W.heap.size 1 A' n' (bcells Y)) => Lib.hid (compare_any X Y A n c' A' n' c'' W h h')
  rw [C1.out] at HCB
  have HCZ := fun W A n c' A' n' c'' (h : Rd W W.heap.size 1 A n (bcells [0])) (h' : Rd W W.heap.size 1 A' n' (bcells X)) => Lib.hid (compare_any [0] X A n c' A' n' c'' W h h')
  rw [C2.out] at HCZ
  clear HC1 b5 C1 C2
  go_wp2_with fail
  refine (HCB _ _ _ _ _ _ _ rx ry).out.mono ?_
  rintro e w11 ⟨rfl, b5⟩
  have rz := rz.after b5
  have rx := rx.after b5
  have hb := belowGo hb b5
  have q0 := q0.after b5
  have q1 := q1.after b5
  have c00 := q0.cell 0
  have c01 := q0.cell 1
  have c10 := q1.cell 0
  have c11 := q1.cell 1
  clear HCB b5
  go_wp2_with fail
  refine (HC2 _).out.mono ?_
  rintro e w12 ⟨rfl, b5⟩
  have rz := rz.after b5
  have rx := rx.after b5
  have hb := belowGo hb b5
  have q0 := q0.after b5
  have q1 := q1.after b5
  have c00 := q0.cell 0
  have c01 := q0.cell 1
  clear HC2 b5
  go_wp2_with fail
  refine (HC3 _).out.mono ?_
  rintro e w13 ⟨rfl, b5⟩
  have rz := rz.after b5
  have rx := rx.after b5
  have hb := belowGo hb b5
  clear HC3 b5
  go_wp2_with fail
  refine (HCZ _ _ _ _ _ _ _ rz rx).out.mono ?_
  rintro e w14 ⟨rfl, b5⟩
  have hb := belowGo hb b5
  clear HCZ b5
  go_wp2_with fail
  refine (wakes_any _).mono ?_
  rintro e w15 ⟨rfl, b5⟩
  go_wp2_with fail
  go_ret
  exact ⟨rfl, hbw.trans ((belowGo hb b5).mono hbw.size)⟩
end Go.Proofs.Ytohddbehcfoecaa
