/- What the law LocBack comes to: true. -/
import Derived.Test.YtohddbehcfoecaaLoc3
import Derived.Test.YtohddbehcfoecaaLocLaw2
import Derived.Test.YtohddbehcfoecaaCmp
import Derived.Deep.CutRange
namespace Go.Proofs.Ytohddbehcfoecaa
open Go.RowKit

def R5 (W5 : World) (s o L : Nat) (v13 v14 v15 : Value) (wx : World) : Prop := ∃ g, v13 = .pointer (some ⟨g, 0, none⟩) ∧ Blk wx g 24 #[.int .u32 (s : Int), .int .u32 (o : Int)] ∧ v14 = .int .i64 (L : Int) ∧ v15 = .int .i64 0 ∧ Below W5.heap.size W5 wx

set_option maxRecDepth 100000 in
set_option maxHeartbeats 8000000 in
theorem back_walk (s0 o0 N : Nat) (A : Option Addr) (n c : Nat) (l : List UInt8) (j0 : Nat) (w : World) (hN : N < 18446744073709551616) (hl : l.length = n) (hr : Rd w w.heap.size 1 A n (bcells l)) (hnc : n ≤ c) (hbig : n ≤ 140737488351232) (hj0 : j0 < 256) :
    Calls Try.prog 4 #[locV s0 o0, .agg #[.int .u64 (N : Int), .slice A n c], .int .u8 (j0 : Int)] w fun e w' => e = .returned (.bool true) ∧ Below w.heap.size w w' := by
  obtain ⟨ma, na, l1, l2, l3, l4⟩ := br_may s0 o0
  have HA := fun W => Lib.hid (brought_any s0 o0 W)
  generalize brS s0 = s at *
  generalize brO o0 = o at *
  obtain ⟨n0, hn0⟩ : ∃ n0, n0 = s * 4294967296 + o := ⟨_, rfl⟩
  have HP := fun W => Lib.hid (pack_any s o W)
  rw [show packE s o = 0 by unfold packE; rw [ma]; rfl, show packN s o = n0 by unfold packN; rw [ma, hn0]; rfl, show ((0 : Nat) : Int) = 0 from rfl] at HP
  have HU := fun W => Lib.hid (unpack_any n0 (by omega) W)
  rw [show n0 / 4294967296 = s by omega, show n0 % 4294967296 = o by omega, ma] at HU
  simp only [if_true] at HU
  have eX : locB [] s o = pform s ++ pform (o - 16) := by unfold locB; rw [ma, na]; rfl
  obtain ⟨X, hX⟩ : ∃ X, X = pform s ++ pform (o - 16) := ⟨_, rfl⟩
  obtain ⟨L, hL⟩ : ∃ L, L = psize s + psize (o - 16) := ⟨_, rfl⟩
  have hXl : X.length = L := by rw [hX, hL, List.length_append, pform_len, pform_len]
  have hL1 : 2 ≤ L ∧ L ≤ 18 := by have := psize_pos s; have := psize_pos (o - 16); have := psize_le s; have := psize_le (o - 16); omega
  have HX := fun W => Lib.hid (putL_at s o s o X L W rfl rfl ma (by rw [eX, hX]) hXl)
  have HM := fun W => Lib.hid (may_any s o W)
  have HN := fun W => Lib.hid (none_any s o W)
  rw [ma] at HM
  rw [na] at HN
  have HG1 := fun W g' c' (h1 : L + n ≤ c') (h : Rd W W.heap.size 1 (some ⟨g', 0, none⟩) (L + n) (bcells (X ++ l))) => Lib.hid (getL_any (X ++ l) (some ⟨g', 0, none⟩) (L + n) c' W h1 h)
  rw [hX, locGet_form l (by omega) (by omega) ma na, ← hX, ← hL] at HG1
  obtain ⟨k, hk⟩ : ∃ k, k = j0 % L := ⟨_, rfl⟩
  have hkL : k < L := by rw [hk]; exact Nat.mod_lt _ (by omega)
  have i1 : (j0 : Int) % (L : Int) = (k : Int) := by rw [hk]; exact Int.ofNat_mod_ofNat j0 L
  have HG2 := fun W g' c' (h1 : k ≤ c') (h : Rd W W.heap.size 1 (some ⟨g', 0, none⟩) k (bcells (X.take k))) => Lib.hid (getL_any (X.take k) (some ⟨g', 0, none⟩) k c' W h1 h)
  rw [hX, locGet_cut (by omega) (by omega) l1 k (by omega), ← hX] at HG2
  have HU2 := fun W => Lib.hid (unpack_any N hN W)
  have HPB := @pack_back N
  have hsd : N / 4294967296 < 4294967296 := by omega
  generalize N / 4294967296 = sp at *
  generalize N % 4294967296 = op at *
  have HPP := fun W => Lib.hid (pack_any sp op W)
  have HMP := fun W => Lib.hid (may_any sp op W)
  have HG3 := fun W (h : Rd W W.heap.size 1 A n (bcells l)) => Lib.hid (getL_any l A n c W hnc h)
  have HBK := locGet_back l
  generalize locGetP l = G at *
  obtain ⟨gs, go, gn, ge⟩ := G
  simp only at HG3 HBK
  unfold RetGet at HG1 HG2 HG3
  have hx1 : (1 : Nat) ≤ X.length := by omega
  have HXL := Lib.hid hXl
  have HLL := Lib.hid hl
  clear hX hL hXl eX hn0 hk hl hx1
  unfold locV at *
  have q0 := (Blk.new w 24 #[.int .u32 (s0 : Int), .int .u32 (o0 : Int)]).alloc (.cells #[.int .u64 (N : Int), .slice A n c] 38)
  have q1 := Blk.newAt (w.alloc (.cells #[.int .u32 (s0 : Int), .int .u32 (o0 : Int)] 24)) 38 #[.int .u64 (N : Int), .slice A n c] (g := w.heap.size + 1) (by simp)
  have b0 := ((Below.refl w.heap.size w).alloc (Nat.le_refl _) (.cells #[.int .u32 (s0 : Int), .int .u32 (o0 : Int)] 24)).alloc (by simp) (.cells #[.int .u64 (N : Int), .slice A n c] 38)
  have hw0 : ((w.alloc (.cells #[.int .u32 (s0 : Int), .int .u32 (o0 : Int)] 24)).alloc (.cells #[.int .u64 (N : Int), .slice A n c] 38)).heap.size = w.heap.size + 2 := by simp
  go_enter Try.func4, Try.ntmps4
  go_wp2_with fail
  generalize (w.alloc (.cells #[.int .u32 (s0 : Int), .int .u32 (o0 : Int)] 24)).alloc (.cells #[.int .u64 (N : Int), .slice A n c] 38) = w0 at *
  refine (HA _).out.mono ?_
  rintro e w1 ⟨rfl, b1⟩
  have q0 := q0.after b1
  have q1 := q1.after b1
  have hbw := b0.trans (b1.mono b0.size)
  have hw1 := b1.size
  have c00 := q0.cell 0
  have c01 := q0.cell 1
  have f00 := q0.frozen 0
  have f01 := q0.frozen 1
  have q0 : Blk _ w.heap.size 24 #[.int .u32 (s : Int), .int .u32 (o : Int)] := (q0.set_ 0 (.int .u32 (s : Int))).set_ 1 (.int .u32 (o : Int))
  have q1 := (q1.far (p := ⟨w.heap.size, 0, none⟩) (by simp) (.int .u32 (s : Int))).far (p := ⟨w.heap.size, 1, none⟩) (by simp) (.int .u32 (o : Int))
  have hbw := (hbw.setCell (p := ⟨w.heap.size, 0, none⟩) (by simp) (.int .u32 (s : Int))).setCell (p := ⟨w.heap.size, 1, none⟩) (by simp) (.int .u32 (o : Int))
  go_wp2_with fail
  clear c00 c01 f00 f01 b0 b1 hw0 hw1
  generalize (w1.setCell ⟨w.heap.size, 0, none⟩ (.int .u32 (s : Int))).setCell ⟨w.heap.size, 1, none⟩ (.int .u32 (o : Int)) = w2 at *
  refine (HP _).out.mono ?_
  rintro e w3 ⟨rfl, b⟩
  have hbw := hbw.trans (b.mono hbw.size)
  have q0 := q0.after b
  have q1 := q1.after b
  clear b
  go_wp2_with fail
  refine (HU _).out.mono ?_
  rintro e w4 ⟨rfl, b⟩
  have hbw := hbw.trans (b.mono hbw.size)
  have q0 := q0.after b
  have q1 := q1.after b
  have c00 := q0.cell 0
  have c01 := q0.cell 1
  have zq0 := q0.lt
  clear b
  have q9 := Blk.newAt w4 24 #[.int .u32 (s : Int), .int .u32 (o : Int)] (g := w4.heap.size) rfl
  have q0 := q0.alloc (.cells #[.int .u32 (s : Int), .int .u32 (o : Int)] 24)
  have q1 := q1.alloc (.cells #[.int .u32 (s : Int), .int .u32 (o : Int)] 24)
  have hbw := hbw.alloc hbw.size (.cells #[.int .u32 (s : Int), .int .u32 (o : Int)] 24)
  go_wp2_with fail
  obtain ⟨g9, hg9⟩ : ∃ g, g = w4.heap.size := ⟨_, rfl⟩
  rw [← hg9] at q9 ⊢
  clear hg9 c00 c01 zq0
  generalize w4.alloc (.cells #[.int .u32 (s : Int), .int .u32 (o : Int)] 24) = w45 at *
  refine (HX _).out.mono ?_
  rintro e w5 ⟨vX, rfl, oX, b⟩
  have hbw := hbw.trans (b.mono hbw.size)
  have q0 := q0.after b
  have q1 := q1.after b
  have q9 := q9.after b
  clear b
  obtain ⟨gX, cX, rfl, hcX, _⟩ := own_ptr oX (by omega)
  have rx := own_rd oX
  clear oX HP HU HX HA
  go_upto_region 5 with (fail)
  go_cut [13, 14, 15] from 45 to 54 (fun v13 v14 v15 wx => R5 w5 s o L v13 v14 v15 wx)
  case first =>
    have hcur : Below w5.heap.size w5 w5.drew := ⟨rfl, rfl, rfl, Nat.le_refl _, fun _ _ => rfl⟩
    have ra := (hr.below hbw (Nat.le_refl _)).more hbw.size
    refine wp_region_tree (fun W => Below w5.heap.size w5 W) (row [.calms [0, 2], .read 3] (.fork 1 (row [] (.fork 4 (row [] (.fork 5 (row [.calms [6, 7, 8, 9], .act 10, .act 11, .calms [12, 13]] .done) 10 (row [.act 5, .calms [6, 7, 8, 9], .act 11, .calms [12, 13]] .done))) 10 (row [.act 4, .act 5, .calms [6, 7, 8, 9], .act 11, .calms [12, 13]] .done))) 10 (row [.act 1, .act 4, .act 5, .calms [6, 7, 8, 9], .act 11, .calms [12, 13]] .done))) (by kernel_rfl) (by rfl) (by kernel_rfl) (by kernel_rfl) hcur ?_
    generalize w5.drew = wd at *
    refine plan_calms (by simp [calmRow, need]; rfl) ?_
    go_wp2_with fail
    refine plan_read (by rfl) (.slice A n c) (by rfl) (fun W hW => exec_load rfl rfl (by kernel_rfl) ((q1.after hW).cell 1)) ?_
    refine plan_fork (by rfl) (by rfl) ?_ ?_
    · skip
      go_wp2_with fail
      refine (clone_any X _ _ _ wd (rx.below hcur (Nat.le_refl _) |>.more hcur.size) (by omega)).mono ?_
      rintro e w100 ⟨vc, rfl, oc, bc⟩
      obtain ⟨gx, cx2, rfl, _, hgx⟩ := own_ptr oc (by omega)
      have hlow := hcur.size
      have hcur := belowGo hcur bc
      have hbase : wd.heap.size ≤ w100.heap.size := bc.size
      clear bc
      go_wp2_with fail
      refine ⟨hcur, ?_⟩
      refine plan_fork (by rfl) (by rfl) ?_ ?_
      · skip
        refine wpList_app eltU8 rfl (.tmp 47) (.tmp 49) rfl rfl oc rfl (ra.below hcur (Nat.le_refl _)) (bcells_one l) (by omega) (by unfold maxLen; omega) (Below.refl _ _) (by omega) ?_
        intro va w101 oa ba ga hga
        rw [← bcells_append] at oa
        have hcur := below_of_grown hcur hcur.size (own_low oc hlow) ga
        obtain ⟨gy, cy, rfl, hgy, _⟩ := own_ptr oa (by omega)
        have ry := own_rd oa
        clear ba ga hga oa oc
        refine plan_next hcur ?_
        refine plan_fork (by rfl) (by rfl) ?_ ?_
        · skip
          go_wp2_with fail
          refine (HG1 _ _ _ hgy ry).out.mono ?_
          rintro e w102 ⟨rfl, bg⟩
          have hcur := belowGo hcur bg
          clear bg
          go_wp2_with fail
          refine ⟨hcur, ?_⟩
          refine plan_calms (by simp [calmRow, need]; rfl) ?_
          go_wp2_with fail
          refine plan_act (by rfl) ?_
          go_wp2_with fail
          have hsz := hcur.size
          have hcur := hcur.alloc hcur.size (.cells #[.int .u32 0, .int .u32 0] 24)
          refine ⟨hcur, ?_⟩
          obtain ⟨g, hg⟩ : ∃ g, g = w102.heap.size := ⟨_, rfl⟩
          have qg := Blk.newAt w102 24 #[.int .u32 0, .int .u32 0] hg
          have hgg : w5.heap.size ≤ g := by omega
          have hgl : g < (w102.alloc (.cells #[.int .u32 0, .int .u32 0] 24)).heap.size := qg.lt
          rw [← hg]
          generalize w102.alloc (.cells #[.int .u32 0, .int .u32 0] 24) = w103 at *
          clear hg
          have c0 := qg.cell 0
          have c1 := qg.cell 1
          have f0 := qg.frozen 0
          have f1 := qg.frozen 1
          refine plan_act (by rfl) ?_
          go_wp2_with fail
          have hcur := (hcur.setCell (p := ⟨g, 0, none⟩) hgg (.int .u32 (s : Int))).setCell (p := ⟨g, 1, none⟩) hgg (.int .u32 (o : Int))
          refine ⟨hcur, plan_calms (by simp [calmRow, need]; rfl) ?_⟩
          go_wp2_with fail
          refine plan_end ?_
          go_wp2_with fail
          go_meet
          case rel => exact ⟨g, rfl, (qg.set_ 0 _).set_ 1 _, rfl, rfl, hcur⟩
        · skip
          go_wp2_with fail
          have hsz := hcur.size
          have hcur := hcur.alloc hcur.size (.cells #[.int .u32 0, .int .u32 0] 24)
          refine ⟨hcur, ?_⟩
          obtain ⟨g, hg⟩ : ∃ g, g = w101.heap.size := ⟨_, rfl⟩
          have qg := Blk.newAt w101 24 #[.int .u32 0, .int .u32 0] hg
          have hgg : w5.heap.size ≤ g := by omega
          have hgl : g < (w101.alloc (.cells #[.int .u32 0, .int .u32 0] 24)).heap.size := qg.lt
          have ry := ry.allocs (.cells #[.int .u32 0, .int .u32 0] 24)
          rw [← hg]
          generalize w101.alloc (.cells #[.int .u32 0, .int .u32 0] 24) = w104 at *
          clear hg
          refine plan_act (by rfl) ?_
          go_wp2_with fail
          refine (HG1 _ _ _ hgy ry).out.mono ?_
          rintro e w105 ⟨rfl, bg⟩
          have qg := qg.after bg
          have hcur := belowGo hcur bg
          clear bg
          go_wp2_with fail
          refine ⟨hcur, ?_⟩
          refine plan_calms (by simp [calmRow, need]; rfl) ?_
          go_wp2_with fail
          have c0 := qg.cell 0
          have c1 := qg.cell 1
          have f0 := qg.frozen 0
          have f1 := qg.frozen 1
          refine plan_act (by rfl) ?_
          go_wp2_with fail
          have hcur := (hcur.setCell (p := ⟨g, 0, none⟩) hgg (.int .u32 (s : Int))).setCell (p := ⟨g, 1, none⟩) hgg (.int .u32 (o : Int))
          refine ⟨hcur, plan_calms (by simp [calmRow, need]; rfl) ?_⟩
          go_wp2_with fail
          refine plan_end ?_
          go_wp2_with fail
          go_meet
          case rel => exact ⟨g, rfl, (qg.set_ 0 _).set_ 1 _, rfl, rfl, hcur⟩
      · skip
        go_wp2_with fail
        have hsz := hcur.size
        have hcur := hcur.alloc hcur.size (.cells #[.int .u32 0, .int .u32 0] 24)
        refine ⟨hcur, ?_⟩
        obtain ⟨g, hg⟩ : ∃ g, g = w100.heap.size := ⟨_, rfl⟩
        have qg := Blk.newAt w100 24 #[.int .u32 0, .int .u32 0] hg
        have hgg : w5.heap.size ≤ g := by omega
        have hgl : g < (w100.alloc (.cells #[.int .u32 0, .int .u32 0] 24)).heap.size := qg.lt
        have hne : gx ≠ g := by have := (oc.lt gx rfl).2; omega
        have oc := oc.alloc (.cells #[.int .u32 0, .int .u32 0] 24)
        have hbase := Nat.le_trans hbase (show w100.heap.size ≤ (w100.alloc (.cells #[.int .u32 0, .int .u32 0] 24)).heap.size by simp)
        rw [← hg]
        generalize w100.alloc (.cells #[.int .u32 0, .int .u32 0] 24) = w106 at *
        clear hg
        refine plan_act (by rfl) ?_
        refine wpList_app eltU8 rfl (.tmp 47) (.tmp 49) rfl rfl oc rfl (ra.below hcur (Nat.le_refl _)) (bcells_one l) (by omega) (by unfold maxLen; omega) (Below.refl _ _) (by omega) ?_
        intro va w107 oa ba ga hga
        rw [← bcells_append] at oa
        have qg := qg.grown ga (fun h => hne (by injection h with h; exact h.symm))
        have hcur := below_of_grown hcur hcur.size (own_low oc hlow) ga
        obtain ⟨gy, cy, rfl, hgy, _⟩ := own_ptr oa (by omega)
        have ry := own_rd oa
        clear ba ga hga oa oc
        refine plan_next hcur ?_
        refine plan_act (by rfl) ?_
        go_wp2_with fail
        refine (HG1 _ _ _ hgy ry).out.mono ?_
        rintro e w108 ⟨rfl, bg⟩
        have qg := qg.after bg
        have hcur := belowGo hcur bg
        clear bg
        go_wp2_with fail
        refine ⟨hcur, ?_⟩
        refine plan_calms (by simp [calmRow, need]; rfl) ?_
        go_wp2_with fail
        have c0 := qg.cell 0
        have c1 := qg.cell 1
        have f0 := qg.frozen 0
        have f1 := qg.frozen 1
        refine plan_act (by rfl) ?_
        go_wp2_with fail
        have hcur := (hcur.setCell (p := ⟨g, 0, none⟩) hgg (.int .u32 (s : Int))).setCell (p := ⟨g, 1, none⟩) hgg (.int .u32 (o : Int))
        refine ⟨hcur, plan_calms (by simp [calmRow, need]; rfl) ?_⟩
        go_wp2_with fail
        refine plan_end ?_
        go_wp2_with fail
        go_meet
        case rel => exact ⟨g, rfl, (qg.set_ 0 _).set_ 1 _, rfl, rfl, hcur⟩
    · skip
      go_wp2_with fail
      have hsz := hcur.size
      have hcur := hcur.alloc hcur.size (.cells #[.int .u32 0, .int .u32 0] 24)
      refine ⟨hcur, ?_⟩
      obtain ⟨g, hg⟩ : ∃ g, g = wd.heap.size := ⟨_, rfl⟩
      have qg := Blk.newAt wd 24 #[.int .u32 0, .int .u32 0] hg
      have hgg : w5.heap.size ≤ g := by omega
      have hgl : g < (wd.alloc (.cells #[.int .u32 0, .int .u32 0] 24)).heap.size := qg.lt
      rw [← hg]
      generalize wd.alloc (.cells #[.int .u32 0, .int .u32 0] 24) = w109 at *
      clear hg
      refine plan_act (by rfl) ?_
      go_wp2_with fail
      refine (clone_any X _ _ _ w109 (rx.below hcur (Nat.le_refl _) |>.more hcur.size) (by omega)).mono ?_
      rintro e w110 ⟨vc, rfl, oc, bc⟩
      obtain ⟨gx, cx2, rfl, _, hgx⟩ := own_ptr oc (by omega)
      have hlow := hcur.size
      have qg := qg.after bc
      have hne : gx ≠ g := by omega
      have hcur := belowGo hcur bc
      have hbase : w109.heap.size ≤ w110.heap.size := bc.size
      clear bc
      go_wp2_with fail
      refine ⟨hcur, ?_⟩
      refine plan_act (by rfl) ?_
      refine wpList_app eltU8 rfl (.tmp 47) (.tmp 49) rfl rfl oc rfl (ra.below hcur (Nat.le_refl _)) (bcells_one l) (by omega) (by unfold maxLen; omega) (Below.refl _ _) (by omega) ?_
      intro va w111 oa ba ga hga
      rw [← bcells_append] at oa
      have qg := qg.grown ga (fun h => hne (by injection h with h; exact h.symm))
      have hcur := below_of_grown hcur hcur.size (own_low oc hlow) ga
      obtain ⟨gy, cy, rfl, hgy, _⟩ := own_ptr oa (by omega)
      have ry := own_rd oa
      clear ba ga hga oa oc
      refine plan_next hcur ?_
      refine plan_act (by rfl) ?_
      go_wp2_with fail
      refine (HG1 _ _ _ hgy ry).out.mono ?_
      rintro e w112 ⟨rfl, bg⟩
      have qg := qg.after bg
      have hcur := belowGo hcur bg
      clear bg
      go_wp2_with fail
      refine ⟨hcur, ?_⟩
      refine plan_calms (by simp [calmRow, need]; rfl) ?_
      go_wp2_with fail
      have c0 := qg.cell 0
      have c1 := qg.cell 1
      have f0 := qg.frozen 0
      have f1 := qg.frozen 1
      refine plan_act (by rfl) ?_
      go_wp2_with fail
      have hcur := (hcur.setCell (p := ⟨g, 0, none⟩) hgg (.int .u32 (s : Int))).setCell (p := ⟨g, 1, none⟩) hgg (.int .u32 (o : Int))
      refine ⟨hcur, plan_calms (by simp [calmRow, need]; rfl) ?_⟩
      go_wp2_with fail
      refine plan_end ?_
      go_wp2_with fail
      go_meet
      case rel => exact ⟨g, rfl, (qg.set_ 0 _).set_ 1 _, rfl, rfl, hcur⟩
  case rest =>
    obtain ⟨g13, rfl, q13, rfl, rfl, b6⟩ := hcut
    have rx := rx.after b6
    have hbw := hbw.trans (b6.mono hbw.size)
    have q0 := q0.after b6
    have q1 := q1.after b6
    have q9 := q9.after b6
    have c00 := q0.cell 0
    have c01 := q0.cell 1
    have c90 := q9.cell 0
    have c91 := q9.cell 1
    have cd0 := q13.cell 0
    have cd1 := q13.cell 1
    have zq0 := q0.lt
    have zq13 := q13.lt
    have zq9 := q9.lt
    clear b6
    go_wp2_with fail
    refine (HM _).out.mono ?_
    rintro e w7 ⟨rfl, b⟩
    have rx := rx.after b
    clear zq0 zq9 zq13 c90 c91 cd0 cd1
    have hbw := hbw.trans (b.mono hbw.size)
    have q0 := q0.after b
    have q1 := q1.after b
    have c00 := q0.cell 0
    have c01 := q0.cell 1
    have zq0 := q0.lt
    clear b
    go_wp2_with fail
    refine (HN _).out.mono ?_
    rintro e w8 ⟨rfl, b⟩
    have rx := rx.after b
    clear zq0 c00 c01 HM
    have hbw := hbw.trans (b.mono hbw.size)
    have q1 := q1.after b
    clear b
    have rk := rx.btake (k := k) (by omega)
    have i2 : 0 < (L : Int) := by omega
    have i3 : k ≤ cX := by omega
    have i4 : (k : Int) ≤ (cX : Int) := by omega
    have i5 : ((L : Int) == 0) = false := by simp; omega
    have i6 : ¬ (L : Int) = 0 := by omega
    go_wp2_with fail
    refine (HG2 _ _ _ (by omega) rk).out.mono ?_
    rintro e w9 ⟨rfl, b⟩
    clear HN
    have hbw := hbw.trans (b.mono hbw.size)
    have q1 := q1.after b
    have c10 := q1.cell 0
    have zq1 := q1.lt
    clear b
    clear rx rk
    go_wp2_with fail
    obtain ⟨g16, hg16⟩ : ∃ g, g = w9.heap.size := ⟨_, rfl⟩
    have q16 := Blk.newAt w9 24 #[.int .u32 0, .int .u32 0] hg16
    have q1 := q1.alloc (.cells #[.int .u32 0, .int .u32 0] 24)
    have hbw := hbw.alloc hbw.size (.cells #[.int .u32 0, .int .u32 0] 24)
    rw [← hg16]
    clear hg16
    generalize w9.alloc (.cells #[.int .u32 0, .int .u32 0] 24) = w10 at *
    clear q16 c10
    by_cases hm : mayL sp op = true
    · rw [hm] at HU2 HMP
      simp only [if_true] at HU2
      obtain ⟨e1, e2⟩ := HPB hm
      rw [e1, e2, show ((0 : Nat) : Int) = 0 from rfl] at HPP
      clear HPB e1 e2 HG2
      refine (HU2 _).out.mono ?_
      rintro e w11 ⟨rfl, b⟩
      have hbw := hbw.trans (b.mono hbw.size)
      have q1 := q1.after b
      have c10 := q1.cell 0
      have zq1 := q1.lt
      clear b
      go_wp2_with fail
      obtain ⟨g19, hg19⟩ : ∃ g, g = w11.heap.size := ⟨_, rfl⟩
      have q19 := Blk.newAt w11 24 #[.int .u32 (sp : Int), .int .u32 (op : Int)] hg19
      have q1 := q1.alloc (.cells #[.int .u32 (sp : Int), .int .u32 (op : Int)] 24)
      have hbw := hbw.alloc hbw.size (.cells #[.int .u32 (sp : Int), .int .u32 (op : Int)] 24)
      rw [← hg19]
      clear hg19 zq1 c10
      generalize w11.alloc (.cells #[.int .u32 (sp : Int), .int .u32 (op : Int)] 24) = w12 at *
      refine (HPP _).out.mono ?_
      rintro e w13 ⟨rfl, b⟩
      have hbw := hbw.trans (b.mono hbw.size)
      have q1 := q1.after b
      have q19 := q19.after b
      have c10 := q1.cell 0
      have c190 := q19.cell 0
      have c191 := q19.cell 1
      have zq1 := q1.lt
      have zq19 := q19.lt
      clear b
      clear zq1 zq19
      go_wp2_with fail
      clear c10 c190 c191
      refine (HMP _).out.mono ?_
      rintro e w14 ⟨rfl, b⟩
      have hbw := hbw.trans (b.mono hbw.size)
      have q1 := q1.after b
      have c10 := q1.cell 0
      have c11 := q1.cell 1
      have zq1 := q1.lt
      clear b
      go_wp2_with fail
      clear zq1 c10 c11
      have ra := (hr.below hbw (Nat.le_refl _)).more hbw.size
      refine (HG3 _ ra).out.mono ?_
      rintro e w20 ⟨rfl, b⟩
      have hbw := hbw.trans (b.mono hbw.size)
      have q1 := q1.after b
      have c10 := q1.cell 0
      have c11 := q1.cell 1
      have zq1 := q1.lt
      clear b
      clear HG3 ra
      by_cases hge : ge = 0
      · subst hge
        obtain ⟨hb1, hb2, hb3⟩ := HBK rfl
        have HX2 := fun W => Lib.hid (putL_at gs go gs go (l.take gn) (l.take gn).length W rfl rfl hb2 hb1 rfl)
        have HLT := Lib.hid (show (l.take gn).length = gn by rw [List.length_take]; omega)
        have hgn : gn ≤ n := by have := HLL.out; omega
        rw [HLT.out] at HX2
        clear hb1 hb2 hb3 HBK
        have i2 : gn ≤ c := by omega
        have i3 : (gn : Int) ≤ (c : Int) := by omega
        go_wp2_with fail
        have q1 := q1.alloc (.cells #[.int .u32 (gs : Int), .int .u32 (go : Int)] 24)
        have hbw := hbw.alloc hbw.size (.cells #[.int .u32 (gs : Int), .int .u32 (go : Int)] 24)
        generalize w20.alloc (.cells #[.int .u32 (gs : Int), .int .u32 (go : Int)] 24) = w21 at *
        refine (HX2 _).out.mono ?_
        rintro e w22 ⟨vY, rfl, oY, b⟩
        clear zq1 c10 c11
        have hbw := hbw.trans (b.mono hbw.size)
        have q1 := q1.after b
        have c11 := q1.cell 1
        have zq1 := q1.lt
        clear b
        obtain ⟨A2, c2, rfl, _⟩ := own_cap oY
        have ry := own_rd oY
        have ra := (hr.below hbw (Nat.le_refl _)).more hbw.size
        have rb := ra.btake hgn
        clear ra oY zq1
        go_wp2_with fail
        refine (equal_same (l.take gn) _ _ _ _ _ _ _ ry rb).mono ?_
        rintro e w23 ⟨rfl, rfl⟩
        go_wp2_with fail
        refine (wakes_any _).mono ?_
        rintro e w24 ⟨rfl, b⟩
        go_wp2_with fail
        go_ret
        exact ⟨rfl, hbw.trans (b.mono hbw.size)⟩
      · have i2 : ((ge : Int) == 0) = false := by simp; omega
        have i3 : ¬ (ge : Int) = 0 := by omega
        go_wp2_with fail
        have hbw := hbw.alloc hbw.size (.cells #[.int .u32 (gs : Int), .int .u32 (go : Int)] 24)
        refine (wakes_any _).mono ?_
        rintro e w24 ⟨rfl, b⟩
        go_wp2_with fail
        go_ret
        exact ⟨rfl, hbw.trans (b.mono hbw.size)⟩
    · have hm : mayL sp op = false := by simpa using hm
      rw [hm] at HU2
      simp only [Bool.false_eq_true, if_false] at HU2
      clear HPB HG2 HMP HPP
      refine (HU2 _).out.mono ?_
      rintro e w11 ⟨rfl, b⟩
      have hbw := hbw.trans (b.mono hbw.size)
      have q1 := q1.after b
      have c10 := q1.cell 0
      have c11 := q1.cell 1
      have zq1 := q1.lt
      clear b
      go_wp2_with fail
      have q1 := q1.alloc (.cells #[.int .u32 0, .int .u32 0] 24)
      have hbw := hbw.alloc hbw.size (.cells #[.int .u32 0, .int .u32 0] 24)
      clear zq1 c10 c11
      generalize w11.alloc (.cells #[.int .u32 0, .int .u32 0] 24) = w12 at *
      have ra := (hr.below hbw (Nat.le_refl _)).more hbw.size
      refine (HG3 _ ra).out.mono ?_
      rintro e w20 ⟨rfl, b⟩
      have hbw := hbw.trans (b.mono hbw.size)
      have q1 := q1.after b
      have c10 := q1.cell 0
      have c11 := q1.cell 1
      have zq1 := q1.lt
      clear b
      clear HG3 ra
      by_cases hge : ge = 0
      · subst hge
        obtain ⟨hb1, hb2, hb3⟩ := HBK rfl
        have HX2 := fun W => Lib.hid (putL_at gs go gs go (l.take gn) (l.take gn).length W rfl rfl hb2 hb1 rfl)
        have HLT := Lib.hid (show (l.take gn).length = gn by rw [List.length_take]; omega)
        have hgn : gn ≤ n := by have := HLL.out; omega
        rw [HLT.out] at HX2
        clear hb1 hb2 hb3 HBK
        have i2 : gn ≤ c := by omega
        have i3 : (gn : Int) ≤ (c : Int) := by omega
        go_wp2_with fail
        have q1 := q1.alloc (.cells #[.int .u32 (gs : Int), .int .u32 (go : Int)] 24)
        have hbw := hbw.alloc hbw.size (.cells #[.int .u32 (gs : Int), .int .u32 (go : Int)] 24)
        generalize w20.alloc (.cells #[.int .u32 (gs : Int), .int .u32 (go : Int)] 24) = w21 at *
        refine (HX2 _).out.mono ?_
        rintro e w22 ⟨vY, rfl, oY, b⟩
        clear zq1 c10 c11
        have hbw := hbw.trans (b.mono hbw.size)
        have q1 := q1.after b
        have c11 := q1.cell 1
        have zq1 := q1.lt
        clear b
        obtain ⟨A2, c2, rfl, _⟩ := own_cap oY
        have ry := own_rd oY
        have ra := (hr.below hbw (Nat.le_refl _)).more hbw.size
        have rb := ra.btake hgn
        clear ra oY zq1
        go_wp2_with fail
        refine (equal_same (l.take gn) _ _ _ _ _ _ _ ry rb).mono ?_
        rintro e w23 ⟨rfl, rfl⟩
        go_wp2_with fail
        refine (wakes_any _).mono ?_
        rintro e w24 ⟨rfl, b⟩
        go_wp2_with fail
        go_ret
        exact ⟨rfl, hbw.trans (b.mono hbw.size)⟩
      · have i2 : ((ge : Int) == 0) = false := by simp; omega
        have i3 : ¬ (ge : Int) = 0 := by omega
        go_wp2_with fail
        have hbw := hbw.alloc hbw.size (.cells #[.int .u32 (gs : Int), .int .u32 (go : Int)] 24)
        refine (wakes_any _).mono ?_
        rintro e w24 ⟨rfl, b⟩
        go_wp2_with fail
        go_ret
        exact ⟨rfl, hbw.trans (b.mono hbw.size)⟩
end Go.Proofs.Ytohddbehcfoecaa
