/- Package record: Get. For every bytes; the tables as they are laid. -/
import Derived.Test.YtfapipamohlniaaDoorRec5
namespace Go.Proofs.YtfapipamohlniaaDoor
open Go.RowKit

def RetGet (l : List UInt8) (w : World) (e : Ending) (w' : World) : Prop :=
  (((getS l).2 ≠ 0 ∧ e = .returned (.tuple #[recV 0 0 (.slice none 0 0) (.slice none 0 0) 0 0, .int .i64 ((getS l).1 : Int), .int .i64 ((getS l).2 : Int)])) ∨
    ((getS l).2 = 0 ∧ ∃ gK gV, e = .returned (.tuple #[recV (numH l 3) (numH l 0 : Int) (.slice (some ⟨gK, 0, none⟩) (numH l 1) (numH l 1)) (.slice (some ⟨gV, 0, none⟩) (numH l 2) (numH l 2)) (numH l 4) (numH l 5), .int .i64 ((getS l).1 : Int), .int .i64 0]) ∧
      Blk w' gK 5 (bcells (keyG l)).toArray ∧ Blk w' gV 5 (bcells (valG l)).toArray ∧ gK ≠ gV ∧ w.heap.size ≤ gK ∧ w.heap.size ≤ gV)) ∧ Below w.heap.size w w'
theorem RetGet.no {l : List UInt8} {w w' : World} {s c : Nat} (h : getS l = (s, c)) (hc : c ≠ 0) (hb : Below w.heap.size w w') : RetGet l w (.returned (.tuple #[.agg #[.int .u64 0, .int .i64 0, .slice none 0 0, .slice none 0 0, .int .u32 0, .int .u32 0], .int .i64 (s : Int), .int .i64 (c : Int)])) w' := by
  unfold RetGet
  rw [h]
  exact ⟨.inl ⟨hc, rfl⟩, hb⟩
theorem right_len {l : List UInt8} {n : Nat} (h : l.length = n) : rightL l = (coverC (l.take (n - 4)) == l) := by unfold rightL; rw [h]
def R7 (w : World) (g2 g6 a b c d e f : Nat) (wx : World) : Prop := ∃ gK gV, Blk wx g6 44 #[.int .u64 (a : Int), .int .i64 (b : Int), .slice (some ⟨gK, 0, none⟩) c c, .slice (some ⟨gV, 0, none⟩) d d, .int .u32 (e : Int), .int .u32 (f : Int)] ∧
  Blk wx gK 5 (madeCells #[.int .u8 0] c) ∧ Blk wx gV 5 (madeCells #[.int .u8 0] d) ∧ Blk wx g2 44 #[.int .u64 0, .int .i64 0, .slice none 0 0, .slice none 0 0, .int .u32 0, .int .u32 0] ∧ gK ≠ gV ∧ gK ≠ g6 ∧ gV ≠ g6 ∧ gK ≠ g2 ∧ gV ≠ g2 ∧ w.heap.size ≤ gK ∧ w.heap.size ≤ gV ∧ Below w.heap.size w wx

set_option maxRecDepth 100000 in
set_option maxHeartbeats 4000000 in
theorem getR_any (l : List UInt8) (A : Option Addr) (n c : Nat) (w : World) (hT : TabR w) (hnc : n ≤ c) (h : Rd w w.heap.size 1 A n (bcells l)) :
    Calls Tryd.prog 35 #[.slice A n c] w (RetGet l w) := by
  have hln := h.1
  have hmx := h.2.1
  unfold maxLen at hmx
  rw [bcells_len, Nat.mul_one] at hln
  have q2 := Blk.new w 44 #[.int .u64 0, .int .i64 0, .slice none 0 0, .slice none 0 0, .int .u32 0, .int .u32 0]
  have hb := (Below.refl w.heap.size w).alloc (Nat.le_refl _) (.cells #[.int .u64 0, .int .i64 0, .slice none 0 0, .slice none 0 0, .int .u32 0, .int .u32 0] 44)
  have r0 := h.allocs (.cells #[.int .u64 0, .int .i64 0, .slice none 0 0, .slice none 0 0, .int .u32 0, .int .u32 0] 44)
  have hT0 := hT.alloc (.cells #[.int .u64 0, .int .i64 0, .slice none 0 0, .slice none 0 0, .int .u32 0, .int .u32 0] 44)
  have HFa := fun s c W => Lib.hid (fails_any s c W)
  unfold recV at HFa
  have hg2 : w.heap.size ≤ w.heap.size := Nat.le_refl _
  by_cases h21 : n < 21
  · have hS : getS l = (0, 22) := by unfold getS; rw [if_pos (by omega)]
    have HS := Lib.hid hS
    clear hS
    go_enter Tryd.func35, Tryd.ntmps35
    go_wp2_with fail
    refine (HFa 0 22 _).out.mono ?_
    rintro e wx ⟨rfl, bx⟩
    have q2 := q2.after bx
    have hb := hb.trans (bx.mono hb.size)
    have d0 := q2.cell 0
    have d1 := q2.cell 1
    have d2 := q2.cell 2
    have d3 := q2.cell 3
    have d4 := q2.cell 4
    have d5 := q2.cell 5
    have f0 := q2.frozen 0
    have f1 := q2.frozen 1
    have f2 := q2.frozen 2
    have f3 := q2.frozen 3
    have f4 := q2.frozen 4
    have f5 := q2.frozen 5
    go_wp2_with fail
    exact bodyPost_ret (results_cell3 rfl rfl (res_load (cs := #[.int .u64 0, .int .i64 0, .slice none 0 0, .slice none 0 0, .int .u32 0, .int .u32 0]) ((((((q2.set_ 0 (.int .u64 0)).set_ 1 (.int .i64 0)).set_ 2 (.slice none 0 0)).set_ 3 (.slice none 0 0)).set_ 4 (.int .u32 0)).set_ 5 (.int .u32 0)) Tryd.underlying44 rfl (by kernel_rfl))) rfl (RetGet.no HS.out (by decide) ((((((hb.setCell (p := ⟨w.heap.size, 0, none⟩) hg2 (.int .u64 0)).setCell (p := ⟨w.heap.size, 1, none⟩) hg2 (.int .i64 0)).setCell (p := ⟨w.heap.size, 2, none⟩) hg2 (.slice none 0 0)).setCell (p := ⟨w.heap.size, 3, none⟩) hg2 (.slice none 0 0)).setCell (p := ⟨w.heap.size, 4, none⟩) hg2 (.int .u32 0)).setCell (p := ⟨w.heap.size, 5, none⟩) hg2 (.int .u32 0)))
  · obtain ⟨b, off, rfl, _, _⟩ := r0.2.2 (by omega)
    have h21' : (l.take 21).length = 21 := by rw [List.length_take]; omega
    have HR := fun W hT' r => Lib.hid (right_any (l.take 21) (some ⟨b, off, none⟩) 21 c W hT' (by omega) (by omega) r)
    rw [← right_len h21'] at HR
    have i1 : ¬ (n : Int) < 21 := by omega
    have i2 : (21 : Int) ≤ (c : Int) := by omega
    have i3 : 21 ≤ c := by omega
    have rt := r0.btake (k := 21) (by omega)
    by_cases hr : rightL (l.take 21) = false
    · have hS : getS l = (0, 23) := by unfold getS; rw [if_neg (by omega), if_pos hr]
      have HS := Lib.hid hS
      rw [hr] at HR
      clear hS hr
      go_enter Tryd.func35, Tryd.ntmps35
      go_wp2_with fail
      refine (HR _ hT0.1 rt).out.mono ?_
      rintro e w1 ⟨rfl, b1⟩
      have q2 := q2.after b1
      have hb := hb.trans (b1.mono hb.size)
      clear HR b1
      go_wp2_with fail
      refine (HFa 0 23 _).out.mono ?_
      rintro e wx ⟨rfl, bx⟩
      have q2 := q2.after bx
      have hb := hb.trans (bx.mono hb.size)
      have d0 := q2.cell 0
      have d1 := q2.cell 1
      have d2 := q2.cell 2
      have d3 := q2.cell 3
      have d4 := q2.cell 4
      have d5 := q2.cell 5
      have f0 := q2.frozen 0
      have f1 := q2.frozen 1
      have f2 := q2.frozen 2
      have f3 := q2.frozen 3
      have f4 := q2.frozen 4
      have f5 := q2.frozen 5
      go_wp2_with fail
      exact bodyPost_ret (results_cell3 rfl rfl (res_load (cs := #[.int .u64 0, .int .i64 0, .slice none 0 0, .slice none 0 0, .int .u32 0, .int .u32 0]) ((((((q2.set_ 0 (.int .u64 0)).set_ 1 (.int .i64 0)).set_ 2 (.slice none 0 0)).set_ 3 (.slice none 0 0)).set_ 4 (.int .u32 0)).set_ 5 (.int .u32 0)) Tryd.underlying44 rfl (by kernel_rfl))) rfl (RetGet.no HS.out (by decide) ((((((hb.setCell (p := ⟨w.heap.size, 0, none⟩) hg2 (.int .u64 0)).setCell (p := ⟨w.heap.size, 1, none⟩) hg2 (.int .i64 0)).setCell (p := ⟨w.heap.size, 2, none⟩) hg2 (.slice none 0 0)).setCell (p := ⟨w.heap.size, 3, none⟩) hg2 (.slice none 0 0)).setCell (p := ⟨w.heap.size, 4, none⟩) hg2 (.int .u32 0)).setCell (p := ⟨w.heap.size, 5, none⟩) hg2 (.int .u32 0)))
    · have hr' : rightL (l.take 21) = true := by simpa using hr
      rw [hr'] at HR
      have HTo := fun W hT' r => Lib.hid (told_any l (some ⟨b, off, none⟩) n c W hT' (by omega) hnc r)
      unfold recV at HTo
      have hV := fun j hj => numH_lt (l := l) (by omega) (j := j) hj
      have v0 := hV 0 (by omega)
      have v1 := hV 1 (by omega)
      have v2 := hV 2 (by omega)
      have v3 := hV 3 (by omega)
      have v4 := hV 4 (by omega)
      have v5 := hV 5 (by omega)
      simp only [sizeC, sizesC, List.getD_cons_zero, List.getD_cons_succ, Nat.reduceMul, Nat.reducePow] at v0 v1 v2 v3 v4 v5
      have hS : getS l = if mayG l = false then (0, 23) else if l.length < sizeG l then (0, 22) else if rightL (l.take (sizeG l)) = false then (sizeG l, 23) else (sizeG l, 0) := by unfold getS; rw [if_neg (by omega), if_neg hr]
      have HG : ∀ gK gV w', getS l = (sizeG l, 0) → Blk w' gK 5 (bcells ((l.drop 21).take (numH l 1))).toArray → Blk w' gV 5 (bcells ((l.drop (21 + numH l 1)).take (numH l 2))).toArray → gK ≠ gV → w.heap.size ≤ gK → w.heap.size ≤ gV → Below w.heap.size w w' →
          RetGet l w (.returned (.tuple #[.agg #[.int .u64 (numH l 3 : Int), .int .i64 (numH l 0 : Int), .slice (some ⟨gK, 0, none⟩) (numH l 1) (numH l 1), .slice (some ⟨gV, 0, none⟩) (numH l 2) (numH l 2), .int .u32 (numH l 4 : Int), .int .u32 (numH l 5 : Int)], .int .i64 (sizeG l : Int), .int .i64 0])) w' :=
        fun gK gV w' e h1 h2 h3 h4 h5 h6 => ⟨.inr ⟨by rw [e], gK, gV, by rw [e]; rfl, h1, h2, h3, h4, h5⟩, h6⟩
      have hsz : sizeG l = 25 + numH l 1 + numH l 2 := rfl
      unfold mayG at hS
      generalize sizeG l = sz at *
      generalize numH l 0 = kd at *
      generalize numH l 1 = lo at *
      generalize numH l 2 = wi at *
      generalize numH l 3 = sq at *
      generalize numH l 4 = sg at *
      generalize numH l 5 = of at *
      have HS := Lib.hid hS
      have HGh := Lib.hid HG
      have HSZ := Lib.hid hsz
      have hml : ∀ k : Nat, k ≤ 65536 → ∀ W : World, (Instr.makeSlice 25 (.int .i64 (k : Int)) (.int .i64 (k : Int))).run Tryd.prog W = .ok (.slice (some ⟨W.heap.size, 0, none⟩) k k) (W.alloc (.cells (madeCells #[.int .u8 0] k) 5)) := fun k hk W =>
        run_make_rowN (P := Tryd.prog) 25 5 ((Tryd.prog.info? 5).get!) (.int .u8 0) Tryd.underlying25 (by kernel_rfl) (by kernel_rfl) .i64 .i64 k k (Nat.le_refl _) (by show 1 * k ≤ _; omega) (by omega) W |>.trans (by rw [show k * ((Tryd.prog.info? 5).get!).size = k from Nat.mul_one k]; rfl)
      have hm1 := hml lo (by omega)
      have hm2 := hml wi (by omega)
      clear hS HG hsz hr hr' hV h21' hml
      go_enter Tryd.func35, Tryd.ntmps35
      go_wp2_with fail
      refine (HR _ hT0.1 rt).out.mono ?_
      rintro e w1 ⟨rfl, b1⟩
      have q2 := q2.after b1
      have hb := hb.trans (b1.mono hb.size)
      have r1 := r0.after b1
      have hT1 := hT0.after b1
      clear HR b1 rt r0 hT0
      go_wp2_with fail
      refine (HTo _ hT1 r1).out.mono ?_
      rintro e w2 ⟨rfl, b2⟩
      have q2 := q2.after b2
      have hb := hb.trans (b2.mono hb.size)
      have r2 := r1.after b2
      have hT2 := hT1.after b2
      clear HTo b2 r1 hT1
      go_wp2_with fail

      have hlt6 := q2.lt
      have hb6 : w.heap.size ≤ w2.heap.size := hb.size
      have q6 := Blk.new w2 44 #[.int .u64 (sq : Int), .int .i64 (kd : Int), .slice none 0 0, .slice none 0 0, .int .u32 (sg : Int), .int .u32 (of : Int)]
      have q2 := q2.alloc (.cells #[.int .u64 (sq : Int), .int .i64 (kd : Int), .slice none 0 0, .slice none 0 0, .int .u32 (sg : Int), .int .u32 (of : Int)] 44)
      have r6 := r2.allocs (.cells #[.int .u64 (sq : Int), .int .i64 (kd : Int), .slice none 0 0, .slice none 0 0, .int .u32 (sg : Int), .int .u32 (of : Int)] 44)
      have hT6 := hT2.alloc (.cells #[.int .u64 (sq : Int), .int .i64 (kd : Int), .slice none 0 0, .slice none 0 0, .int .u32 (sg : Int), .int .u32 (of : Int)] 44)
      have hb := hb.alloc hb.size (.cells #[.int .u64 (sq : Int), .int .i64 (kd : Int), .slice none 0 0, .slice none 0 0, .int .u32 (sg : Int), .int .u32 (of : Int)] 44)
      obtain ⟨g6, hg6⟩ : ∃ g, g = w2.heap.size := ⟨_, rfl⟩
      rw [← hg6] at q6 hlt6 hb6 ⊢
      have h26 : w.heap.size ≠ g6 := by omega
      clear hg6 r2 hT2
      generalize w2.alloc (.cells #[.int .u64 (sq : Int), .int .i64 (kd : Int), .slice none 0 0, .slice none 0 0, .int .u32 (sg : Int), .int .u32 (of : Int)] 44) = w6 at *
      go_cut [] from 35 to 40 (fun wx => R7 w w.heap.size g6 sq kd lo wi sg of wx)
      case first =>
        refine wp_region_tree (fun _ => True) (row [.calms [0, 2]] (.fork 1 (row [.calms [4]] (.fork 3 (row [.act 5, .calms [6], .act 7] .done) 5 (row [.act 3, .calms [6], .act 7] .done))) 3 (row [.act 1, .calms [4], .act 5, .calms [6], .act 7] .done))) (by kernel_rfl) (by rfl) (by kernel_rfl) (by kernel_rfl) trivial ?_
        have q6 : Blk w6.drew g6 44 #[.int .u64 (sq : Int), .int .i64 (kd : Int), .slice none 0 0, .slice none 0 0, .int .u32 (sg : Int), .int .u32 (of : Int)] := q6
        have q2 : Blk w6.drew w.heap.size 44 #[.int .u64 0, .int .i64 0, .slice none 0 0, .slice none 0 0, .int .u32 0, .int .u32 0] := q2
        have hb : Below w.heap.size w w6.drew := hb.drew
        generalize w6.drew = wd at *
        refine plan_calms (by simp [calmRow, need]; rfl) ?_
        go_wp2_with fail
        refine plan_fork' (by rfl) (by rfl) (by kernel_rfl) (by kernel_rfl) ?_ ?_
        · skip
          go_wp2_with fail
          have l6 := q6.lt
          have l2 := q2.lt
          have lb := hb.size
          have qK := Blk.new wd 5 (madeCells #[.int .u8 0] lo)
          have q6 := q6.alloc (.cells (madeCells #[.int .u8 0] lo) 5)
          have q2 := q2.alloc (.cells (madeCells #[.int .u8 0] lo) 5)
          have hb := hb.alloc hb.size (.cells (madeCells #[.int .u8 0] lo) 5)
          obtain ⟨gK, hgK⟩ : ∃ g, g = wd.heap.size := ⟨_, rfl⟩
          rw [← hgK] at qK ⊢
          have nK6 : gK ≠ g6 := by omega
          have nK2 : gK ≠ w.heap.size := by omega
          have bK : w.heap.size ≤ gK := by omega
          clear hgK l6 l2 lb 
          generalize wd.alloc (.cells (madeCells #[.int .u8 0] lo) 5) = x1 at *
          refine plan_calms (by simp [calmRow, need]; rfl) ?_
          go_wp2_with fail
          refine plan_fork' (by rfl) (by rfl) (by kernel_rfl) (by kernel_rfl) ?_ ?_
          · skip
            go_wp2_with fail
            have l6 := q6.lt
            have l2 := q2.lt
            have lb := hb.size
            have lK := qK.lt
            have qV := Blk.new x1 5 (madeCells #[.int .u8 0] wi)
            have q6 := q6.alloc (.cells (madeCells #[.int .u8 0] wi) 5)
            have q2 := q2.alloc (.cells (madeCells #[.int .u8 0] wi) 5)
            have hb := hb.alloc hb.size (.cells (madeCells #[.int .u8 0] wi) 5)
            have qK := qK.alloc (.cells (madeCells #[.int .u8 0] wi) 5)
            obtain ⟨gV, hgV⟩ : ∃ g, g = x1.heap.size := ⟨_, rfl⟩
            rw [← hgV] at qV ⊢
            have nV6 : gV ≠ g6 := by omega
            have nV2 : gV ≠ w.heap.size := by omega
            have bV : w.heap.size ≤ gV := by omega
            have nKV : gK ≠ gV := by omega
            clear hgV l6 l2 lb lK
            generalize x1.alloc (.cells (madeCells #[.int .u8 0] wi) 5) = x2 at *
            refine plan_last (by rfl) (by kernel_rfl) ?_
            have d2 := q6.cell 2
            have f2 := q6.frozen 2
            go_wp2_with fail
            have q6 : Blk (World.setCell x2 ⟨g6, 2, none⟩ (.slice (some ⟨gK, 0, none⟩) lo lo)) g6 44 #[.int .u64 (sq : Int), .int .i64 (kd : Int), .slice (some ⟨gK, 0, none⟩) lo lo, .slice none 0 0, .int .u32 (sg : Int), .int .u32 (of : Int)] := q6.set_ 2 (.slice (some ⟨gK, 0, none⟩) lo lo)
            have q2 := q2.far (p := ⟨g6, 2, none⟩) h26 (.slice (some ⟨gK, 0, none⟩) lo lo)
            have qK := qK.far (p := ⟨g6, 2, none⟩) nK6 (.slice (some ⟨gK, 0, none⟩) lo lo)
            have qV := qV.far (p := ⟨g6, 2, none⟩) nV6 (.slice (some ⟨gK, 0, none⟩) lo lo)
            have hb := hb.setCell (p := ⟨g6, 2, none⟩) hb6 (.slice (some ⟨gK, 0, none⟩) lo lo)
            clear d2 f2
            generalize (World.setCell x2 ⟨g6, 2, none⟩ (.slice (some ⟨gK, 0, none⟩) lo lo)) = x3 at *
            refine plan_calms (by simp [calmRow, need]; rfl) ?_
            go_wp2_with fail
            refine plan_last (by rfl) (by kernel_rfl) ?_
            have d3 := q6.cell 3
            have f3 := q6.frozen 3
            go_wp2_with fail
            have q6 : Blk (World.setCell x3 ⟨g6, 3, none⟩ (.slice (some ⟨gV, 0, none⟩) wi wi)) g6 44 #[.int .u64 (sq : Int), .int .i64 (kd : Int), .slice (some ⟨gK, 0, none⟩) lo lo, .slice (some ⟨gV, 0, none⟩) wi wi, .int .u32 (sg : Int), .int .u32 (of : Int)] := q6.set_ 3 (.slice (some ⟨gV, 0, none⟩) wi wi)
            have q2 := q2.far (p := ⟨g6, 3, none⟩) h26 (.slice (some ⟨gV, 0, none⟩) wi wi)
            have qK := qK.far (p := ⟨g6, 3, none⟩) nK6 (.slice (some ⟨gV, 0, none⟩) wi wi)
            have qV := qV.far (p := ⟨g6, 3, none⟩) nV6 (.slice (some ⟨gV, 0, none⟩) wi wi)
            have hb := hb.setCell (p := ⟨g6, 3, none⟩) hb6 (.slice (some ⟨gV, 0, none⟩) wi wi)
            clear d3 f3
            generalize (World.setCell x3 ⟨g6, 3, none⟩ (.slice (some ⟨gV, 0, none⟩) wi wi)) = x4 at *
            refine plan_end ?_
            go_wp2_with fail
            go_meet
            case rel => exact ⟨gK, gV, q6, qK, qV, q2, nKV, nK6, nV6, nK2, nV2, bK, bV, hb⟩
          · skip
            have d2 := q6.cell 2
            have f2 := q6.frozen 2
            go_wp2_with fail
            have q6 : Blk (World.setCell x1 ⟨g6, 2, none⟩ (.slice (some ⟨gK, 0, none⟩) lo lo)) g6 44 #[.int .u64 (sq : Int), .int .i64 (kd : Int), .slice (some ⟨gK, 0, none⟩) lo lo, .slice none 0 0, .int .u32 (sg : Int), .int .u32 (of : Int)] := q6.set_ 2 (.slice (some ⟨gK, 0, none⟩) lo lo)
            have q2 := q2.far (p := ⟨g6, 2, none⟩) h26 (.slice (some ⟨gK, 0, none⟩) lo lo)
            have qK := qK.far (p := ⟨g6, 2, none⟩) nK6 (.slice (some ⟨gK, 0, none⟩) lo lo)
            have hb := hb.setCell (p := ⟨g6, 2, none⟩) hb6 (.slice (some ⟨gK, 0, none⟩) lo lo)
            clear d2 f2
            generalize (World.setCell x1 ⟨g6, 2, none⟩ (.slice (some ⟨gK, 0, none⟩) lo lo)) = x5 at *
            refine plan_last (by rfl) (by kernel_rfl) ?_
            go_wp2_with fail
            have l6 := q6.lt
            have l2 := q2.lt
            have lb := hb.size
            have lK := qK.lt
            have qV := Blk.new x5 5 (madeCells #[.int .u8 0] wi)
            have q6 := q6.alloc (.cells (madeCells #[.int .u8 0] wi) 5)
            have q2 := q2.alloc (.cells (madeCells #[.int .u8 0] wi) 5)
            have hb := hb.alloc hb.size (.cells (madeCells #[.int .u8 0] wi) 5)
            have qK := qK.alloc (.cells (madeCells #[.int .u8 0] wi) 5)
            obtain ⟨gV, hgV⟩ : ∃ g, g = x5.heap.size := ⟨_, rfl⟩
            rw [← hgV] at qV ⊢
            have nV6 : gV ≠ g6 := by omega
            have nV2 : gV ≠ w.heap.size := by omega
            have bV : w.heap.size ≤ gV := by omega
            have nKV : gK ≠ gV := by omega
            clear hgV l6 l2 lb lK
            generalize x5.alloc (.cells (madeCells #[.int .u8 0] wi) 5) = x6 at *
            refine plan_calms (by simp [calmRow, need]; rfl) ?_
            go_wp2_with fail
            refine plan_last (by rfl) (by kernel_rfl) ?_
            have d3 := q6.cell 3
            have f3 := q6.frozen 3
            go_wp2_with fail
            have q6 : Blk (World.setCell x6 ⟨g6, 3, none⟩ (.slice (some ⟨gV, 0, none⟩) wi wi)) g6 44 #[.int .u64 (sq : Int), .int .i64 (kd : Int), .slice (some ⟨gK, 0, none⟩) lo lo, .slice (some ⟨gV, 0, none⟩) wi wi, .int .u32 (sg : Int), .int .u32 (of : Int)] := q6.set_ 3 (.slice (some ⟨gV, 0, none⟩) wi wi)
            have q2 := q2.far (p := ⟨g6, 3, none⟩) h26 (.slice (some ⟨gV, 0, none⟩) wi wi)
            have qK := qK.far (p := ⟨g6, 3, none⟩) nK6 (.slice (some ⟨gV, 0, none⟩) wi wi)
            have qV := qV.far (p := ⟨g6, 3, none⟩) nV6 (.slice (some ⟨gV, 0, none⟩) wi wi)
            have hb := hb.setCell (p := ⟨g6, 3, none⟩) hb6 (.slice (some ⟨gV, 0, none⟩) wi wi)
            clear d3 f3
            generalize (World.setCell x6 ⟨g6, 3, none⟩ (.slice (some ⟨gV, 0, none⟩) wi wi)) = x7 at *
            refine plan_end ?_
            go_wp2_with fail
            go_meet
            case rel => exact ⟨gK, gV, q6, qK, qV, q2, nKV, nK6, nV6, nK2, nV2, bK, bV, hb⟩
        · skip
          go_wp2_with fail
          have l6 := q6.lt
          have l2 := q2.lt
          have lb := hb.size
          have qV := Blk.new wd 5 (madeCells #[.int .u8 0] wi)
          have q6 := q6.alloc (.cells (madeCells #[.int .u8 0] wi) 5)
          have q2 := q2.alloc (.cells (madeCells #[.int .u8 0] wi) 5)
          have hb := hb.alloc hb.size (.cells (madeCells #[.int .u8 0] wi) 5)
          obtain ⟨gV, hgV⟩ : ∃ g, g = wd.heap.size := ⟨_, rfl⟩
          rw [← hgV] at qV ⊢
          have nV6 : gV ≠ g6 := by omega
          have nV2 : gV ≠ w.heap.size := by omega
          have bV : w.heap.size ≤ gV := by omega
          clear hgV l6 l2 lb 
          generalize wd.alloc (.cells (madeCells #[.int .u8 0] wi) 5) = x8 at *
          refine plan_last (by rfl) (by kernel_rfl) ?_
          go_wp2_with fail
          have l6 := q6.lt
          have l2 := q2.lt
          have lb := hb.size
          have lV := qV.lt
          have qK := Blk.new x8 5 (madeCells #[.int .u8 0] lo)
          have q6 := q6.alloc (.cells (madeCells #[.int .u8 0] lo) 5)
          have q2 := q2.alloc (.cells (madeCells #[.int .u8 0] lo) 5)
          have hb := hb.alloc hb.size (.cells (madeCells #[.int .u8 0] lo) 5)
          have qV := qV.alloc (.cells (madeCells #[.int .u8 0] lo) 5)
          obtain ⟨gK, hgK⟩ : ∃ g, g = x8.heap.size := ⟨_, rfl⟩
          rw [← hgK] at qK ⊢
          have nK6 : gK ≠ g6 := by omega
          have nK2 : gK ≠ w.heap.size := by omega
          have bK : w.heap.size ≤ gK := by omega
          have nKV : gK ≠ gV := by omega
          clear hgK l6 l2 lb lV
          generalize x8.alloc (.cells (madeCells #[.int .u8 0] lo) 5) = x9 at *
          refine plan_calms (by simp [calmRow, need]; rfl) ?_
          go_wp2_with fail
          refine plan_last (by rfl) (by kernel_rfl) ?_
          have d2 := q6.cell 2
          have f2 := q6.frozen 2
          go_wp2_with fail
          have q6 : Blk (World.setCell x9 ⟨g6, 2, none⟩ (.slice (some ⟨gK, 0, none⟩) lo lo)) g6 44 #[.int .u64 (sq : Int), .int .i64 (kd : Int), .slice (some ⟨gK, 0, none⟩) lo lo, .slice none 0 0, .int .u32 (sg : Int), .int .u32 (of : Int)] := q6.set_ 2 (.slice (some ⟨gK, 0, none⟩) lo lo)
          have q2 := q2.far (p := ⟨g6, 2, none⟩) h26 (.slice (some ⟨gK, 0, none⟩) lo lo)
          have qK := qK.far (p := ⟨g6, 2, none⟩) nK6 (.slice (some ⟨gK, 0, none⟩) lo lo)
          have qV := qV.far (p := ⟨g6, 2, none⟩) nV6 (.slice (some ⟨gK, 0, none⟩) lo lo)
          have hb := hb.setCell (p := ⟨g6, 2, none⟩) hb6 (.slice (some ⟨gK, 0, none⟩) lo lo)
          clear d2 f2
          generalize (World.setCell x9 ⟨g6, 2, none⟩ (.slice (some ⟨gK, 0, none⟩) lo lo)) = x10 at *
          refine plan_calms (by simp [calmRow, need]; rfl) ?_
          go_wp2_with fail
          refine plan_last (by rfl) (by kernel_rfl) ?_
          have d3 := q6.cell 3
          have f3 := q6.frozen 3
          go_wp2_with fail
          have q6 : Blk (World.setCell x10 ⟨g6, 3, none⟩ (.slice (some ⟨gV, 0, none⟩) wi wi)) g6 44 #[.int .u64 (sq : Int), .int .i64 (kd : Int), .slice (some ⟨gK, 0, none⟩) lo lo, .slice (some ⟨gV, 0, none⟩) wi wi, .int .u32 (sg : Int), .int .u32 (of : Int)] := q6.set_ 3 (.slice (some ⟨gV, 0, none⟩) wi wi)
          have q2 := q2.far (p := ⟨g6, 3, none⟩) h26 (.slice (some ⟨gV, 0, none⟩) wi wi)
          have qK := qK.far (p := ⟨g6, 3, none⟩) nK6 (.slice (some ⟨gV, 0, none⟩) wi wi)
          have qV := qV.far (p := ⟨g6, 3, none⟩) nV6 (.slice (some ⟨gV, 0, none⟩) wi wi)
          have hb := hb.setCell (p := ⟨g6, 3, none⟩) hb6 (.slice (some ⟨gV, 0, none⟩) wi wi)
          clear d3 f3
          generalize (World.setCell x10 ⟨g6, 3, none⟩ (.slice (some ⟨gV, 0, none⟩) wi wi)) = x11 at *
          refine plan_end ?_
          go_wp2_with fail
          go_meet
          case rel => exact ⟨gK, gV, q6, qK, qV, q2, nKV, nK6, nV6, nK2, nV2, bK, bV, hb⟩
      case rest =>
        obtain ⟨gK, gV, q6, qK, qV, q2, nKV, nK6, nV6, nK2, nV2, bK, bV, hb⟩ := hcut
        have hHM := fun W => Lib.hid (mayR_any sq (kd : Int) (some ⟨gK, 0, none⟩) lo lo (some ⟨gV, 0, none⟩) wi wi sg of W (by omega))
        have hHS := fun W => Lib.hid (sizeR_any sq (kd : Int) (some ⟨gK, 0, none⟩) lo lo (some ⟨gV, 0, none⟩) wi wi sg of W (by omega) (by omega))
        unfold recV at hHM hHS
        rw [← HSZ.out] at hHS
        generalize mayR sq (kd : Int) lo wi sg of = my at *
        clear r6 hT6 hm1 hm2
        have c0 := q6.cell 0
        have c1 := q6.cell 1
        have c2 := q6.cell 2
        have c3 := q6.cell 3
        have c4 := q6.cell 4
        have c5 := q6.cell 5
        go_wp2_with fail
        refine (hHM _).out.mono ?_
        rintro e w8 ⟨rfl, b8⟩
        have q6 := q6.after b8
        have qK := qK.after b8
        have qV := qV.after b8
        have q2 := q2.after b8
        have hb := hb.trans (b8.mono hb.size)
        clear c0 c1 c2 c3 c4 c5
        clear b8 hHM
        cases my
        · clear hHS HSZ
          go_wp2_with fail
          refine (HFa 0 23 _).out.mono ?_
          rintro e wx ⟨rfl, bx⟩
          have q2 := q2.after bx
          have hb := hb.trans (bx.mono hb.size)
          have d0 := q2.cell 0
          have d1 := q2.cell 1
          have d2 := q2.cell 2
          have d3 := q2.cell 3
          have d4 := q2.cell 4
          have d5 := q2.cell 5
          have f0 := q2.frozen 0
          have f1 := q2.frozen 1
          have f2 := q2.frozen 2
          have f3 := q2.frozen 3
          have f4 := q2.frozen 4
          have f5 := q2.frozen 5
          go_wp2_with fail
          exact bodyPost_ret (results_cell3 rfl rfl (res_load (cs := #[.int .u64 0, .int .i64 0, .slice none 0 0, .slice none 0 0, .int .u32 0, .int .u32 0]) ((((((q2.set_ 0 (.int .u64 0)).set_ 1 (.int .i64 0)).set_ 2 (.slice none 0 0)).set_ 3 (.slice none 0 0)).set_ 4 (.int .u32 0)).set_ 5 (.int .u32 0)) Tryd.underlying44 rfl (by kernel_rfl))) rfl (RetGet.no (by have := HS.out; simpa using this) (by decide) ((((((hb.setCell (p := ⟨w.heap.size, 0, none⟩) hg2 (.int .u64 0)).setCell (p := ⟨w.heap.size, 1, none⟩) hg2 (.int .i64 0)).setCell (p := ⟨w.heap.size, 2, none⟩) hg2 (.slice none 0 0)).setCell (p := ⟨w.heap.size, 3, none⟩) hg2 (.slice none 0 0)).setCell (p := ⟨w.heap.size, 4, none⟩) hg2 (.int .u32 0)).setCell (p := ⟨w.heap.size, 5, none⟩) hg2 (.int .u32 0)))
        · skip
          have c0 := q6.cell 0
          have c1 := q6.cell 1
          have c2 := q6.cell 2
          have c3 := q6.cell 3
          have c4 := q6.cell 4
          have c5 := q6.cell 5
          go_wp2_with fail
          refine (hHS _).out.mono ?_
          rintro e w9 ⟨rfl, b9⟩
          have q6 := q6.after b9
          have qK := qK.after b9
          have qV := qV.after b9
          have q2 := q2.after b9
          have hb := hb.trans (b9.mono hb.size)
          clear c0 c1 c2 c3 c4 c5
          clear b9 hHS
          by_cases hns : n < sz
          · have i4 : (n : Int) < (sz : Int) := by omega
            have hS2 : getS l = (0, 22) := by have := HS.out; rw [if_neg (by simp), if_pos (by omega)] at this; exact this
            have HS2 := Lib.hid hS2
            clear hS2 HS HGh HSZ
            go_wp2_with fail
            refine (HFa 0 22 _).out.mono ?_
            rintro e wx ⟨rfl, bx⟩
            have q2 := q2.after bx
            have hb := hb.trans (bx.mono hb.size)
            have d0 := q2.cell 0
            have d1 := q2.cell 1
            have d2 := q2.cell 2
            have d3 := q2.cell 3
            have d4 := q2.cell 4
            have d5 := q2.cell 5
            have f0 := q2.frozen 0
            have f1 := q2.frozen 1
            have f2 := q2.frozen 2
            have f3 := q2.frozen 3
            have f4 := q2.frozen 4
            have f5 := q2.frozen 5
            go_wp2_with fail
            exact bodyPost_ret (results_cell3 rfl rfl (res_load (cs := #[.int .u64 0, .int .i64 0, .slice none 0 0, .slice none 0 0, .int .u32 0, .int .u32 0]) ((((((q2.set_ 0 (.int .u64 0)).set_ 1 (.int .i64 0)).set_ 2 (.slice none 0 0)).set_ 3 (.slice none 0 0)).set_ 4 (.int .u32 0)).set_ 5 (.int .u32 0)) Tryd.underlying44 rfl (by kernel_rfl))) rfl (RetGet.no HS2.out (by decide) ((((((hb.setCell (p := ⟨w.heap.size, 0, none⟩) hg2 (.int .u64 0)).setCell (p := ⟨w.heap.size, 1, none⟩) hg2 (.int .i64 0)).setCell (p := ⟨w.heap.size, 2, none⟩) hg2 (.slice none 0 0)).setCell (p := ⟨w.heap.size, 3, none⟩) hg2 (.slice none 0 0)).setCell (p := ⟨w.heap.size, 4, none⟩) hg2 (.int .u32 0)).setCell (p := ⟨w.heap.size, 5, none⟩) hg2 (.int .u32 0)))
          · have i4 : ¬ (n : Int) < (sz : Int) := by omega
            have hsz := HSZ.out
            have hz1 : 25 + lo + wi ≤ sz := by omega
            have hz2 : sz ≤ 25 + lo + wi := by omega
            clear hsz
            have i5 : (sz : Int) ≤ (c : Int) := by omega
            have i6 : sz ≤ c := by omega
            have r9 := (h.below hb (Nat.le_refl _)).more hb.size
            have hT9 := hT.below hb hT.1.1 hT.2.1
            have hlz : (l.take sz).length = sz := by rw [List.length_take]; omega
            have hR2 := Lib.hid (right_any (l.take sz) (some ⟨b, off, none⟩) sz c _ hT9.1 (by omega) i6 (r9.btake (k := sz) (by omega)))
            rw [← right_len hlz] at hR2
            have hS2 : getS l = if rightL (l.take sz) = false then (sz, 23) else (sz, 0) := by have := HS.out; rw [if_neg (by simp), if_neg (by omega)] at this; exact this
            generalize rightL (l.take sz) = rt at *
            have HS2 := Lib.hid hS2
            clear hS2 HS hlz hns
            go_wp2_with fail
            refine hR2.out.mono ?_
            rintro e w10 ⟨rfl, b10⟩
            have h21 : 25 + lo + wi ≤ n := by omega
            have q6 := q6.after b10
            have qK := qK.after b10
            have qV := qV.after b10
            have q2 := q2.after b10
            have hb := hb.trans (b10.mono hb.size)
            have r10 := r9.after b10
            clear b10 hR2 hT9 r9
            cases rt
            · clear HGh HSZ
              go_wp2_with fail
              refine (HFa sz 23 _).out.mono ?_
              rintro e wx ⟨rfl, bx⟩
              have q2 := q2.after bx
              have hb := hb.trans (bx.mono hb.size)
              have d0 := q2.cell 0
              have d1 := q2.cell 1
              have d2 := q2.cell 2
              have d3 := q2.cell 3
              have d4 := q2.cell 4
              have d5 := q2.cell 5
              have f0 := q2.frozen 0
              have f1 := q2.frozen 1
              have f2 := q2.frozen 2
              have f3 := q2.frozen 3
              have f4 := q2.frozen 4
              have f5 := q2.frozen 5
              go_wp2_with fail
              exact bodyPost_ret (results_cell3 rfl rfl (res_load (cs := #[.int .u64 0, .int .i64 0, .slice none 0 0, .slice none 0 0, .int .u32 0, .int .u32 0]) ((((((q2.set_ 0 (.int .u64 0)).set_ 1 (.int .i64 0)).set_ 2 (.slice none 0 0)).set_ 3 (.slice none 0 0)).set_ 4 (.int .u32 0)).set_ 5 (.int .u32 0)) Tryd.underlying44 rfl (by kernel_rfl))) rfl (RetGet.no (by have := HS2.out; simpa using this) (by decide) ((((((hb.setCell (p := ⟨w.heap.size, 0, none⟩) hg2 (.int .u64 0)).setCell (p := ⟨w.heap.size, 1, none⟩) hg2 (.int .i64 0)).setCell (p := ⟨w.heap.size, 2, none⟩) hg2 (.slice none 0 0)).setCell (p := ⟨w.heap.size, 3, none⟩) hg2 (.slice none 0 0)).setCell (p := ⟨w.heap.size, 4, none⟩) hg2 (.int .u32 0)).setCell (p := ⟨w.heap.size, 5, none⟩) hg2 (.int .u32 0)))
            · have hS3 : getS l = (sz, 0) := by have := HS2.out; simpa using this
              have HS3 := Lib.hid hS3
              clear hS3 HS2 HSZ
              have hs1 : ∀ W : World, (Instr.sliceAt 25 (.slice (some ⟨b, off, none⟩) n c) (some (.int .i64 21)) none none).run Tryd.prog W = .ok (.slice (some ⟨b, off + 21, none⟩) (n - 21) (c - 21)) W := fun W => by
                have := run_low W (b := b) (off := off) (n := n) (c := c) (k := 21) (by omega) hnc
                rwa [if_neg (by omega)] at this
              have hs2 : ∀ W : World, (Instr.sliceAt 25 (.slice (some ⟨b, off, none⟩) n c) (some (.int .i64 (21 + (lo : Int)))) none none).run Tryd.prog W = .ok (.slice (some ⟨b, off + (21 + lo), none⟩) (n - (21 + lo)) (c - (21 + lo))) W := fun W => by
                have := run_low W (b := b) (off := off) (n := n) (c := c) (k := 21 + lo) (by omega) hnc
                rwa [if_neg (by omega), show ((21 + lo : Nat) : Int) = 21 + (lo : Int) by omega] at this
              have hHs1 := Lib.hid hs1
              have hHs2 := Lib.hid hs2
              clear hs1 hs2
              go_wp2_with fail
              refine wp_region_plan (fun _ => True) [.calms [0, 2, 3], .act 1, .act 4] (by kernel_rfl) (by rfl) (by kernel_rfl) (by kernel_rfl) trivial ?_
              have hcur : Below w10.heap.size w10 w10.drew := ⟨rfl, rfl, rfl, Nat.le_refl _, fun _ _ => rfl⟩
              have q6 := q6.after hcur
              have qK := qK.after hcur
              have qV := qV.after hcur
              have q2 := q2.after hcur
              have hb := hb.trans (hcur.mono hb.size)
              have r10 := r10.after hcur
              generalize w10.drew = w10d at *
              clear hcur
              have hs := hHs1.out
              refine plan_calms (by simp [calmRow, need]; rfl) ?_
              go_wp2_with fail
              clear hs
              refine plan_last (by rfl) (by kernel_rfl) ?_
              have c2 := q6.cell 2
              go_wp2_with fail
              clear c2
              refine plan_last (by rfl) (by kernel_rfl) ?_
              refine wpList_copyRd rfl (.tmp 74) (.tmp 76) 25 25 rfl 5 Tryd.underlying25 (by kernel_rfl) rfl rfl (r10.bdrop (k := 21) (by omega)) (by omega) (by omega) qK (size_madeCells _ _) ?_
              intro w10c qN gr
              have qV := qV.grown gr (by simp; omega)
              have q6 := q6.grown gr (by simp; omega)
              have q2 := q2.grown gr (by simp; omega)
              have hb := hb.grown gr hb.size (fun g e => by injection e with e; omega)
              have r10 := ((h.below hb (Nat.le_refl _)).more hb.size)
              have qK := qN
              clear qN gr
              refine plan_done (plan_end ?_)
              go_wp2_with fail
              refine wp_region_plan (fun _ => True) [.calms [0, 2, 3, 4, 5], .act 1, .act 6] (by kernel_rfl) (by rfl) (by kernel_rfl) (by kernel_rfl) trivial ?_
              have hcur : Below w10c.heap.size w10c w10c.drew := ⟨rfl, rfl, rfl, Nat.le_refl _, fun _ _ => rfl⟩
              have q6 := q6.after hcur
              have qK := qK.after hcur
              have qV := qV.after hcur
              have q2 := q2.after hcur
              have hb := hb.trans (hcur.mono hb.size)
              have r10 := r10.after hcur
              generalize w10c.drew = w10cd at *
              clear hcur
              have hs := hHs2.out
              refine plan_calms (by simp [calmRow, need, chk]; rfl) ?_
              go_wp2_with fail
              clear hs
              refine plan_last (by rfl) (by kernel_rfl) ?_
              have c3 := q6.cell 3
              go_wp2_with fail
              clear c3
              refine plan_last (by rfl) (by kernel_rfl) ?_
              refine wpList_copyRd rfl (.tmp 79) (.tmp 83) 25 25 rfl 5 Tryd.underlying25 (by kernel_rfl) rfl rfl (r10.bdrop (k := 21 + lo) (by omega)) (by omega) (by omega) qV (size_madeCells _ _) ?_
              intro w10cc qN gr
              have qK := qK.grown gr (by simp; omega)
              have q6 := q6.grown gr (by simp; omega)
              have q2 := q2.grown gr (by simp; omega)
              have hb := hb.grown gr hb.size (fun g e => by injection e with e; omega)
              have r10 := ((h.below hb (Nat.le_refl _)).more hb.size)
              have qV := qN
              clear qN gr
              refine plan_done (plan_end ?_)
              have c0 := q6.cell 0
              have c1 := q6.cell 1
              have c2 := q6.cell 2
              have c3 := q6.cell 3
              have c4 := q6.cell 4
              have c5 := q6.cell 5
              have d0 := q2.cell 0
              have d1 := q2.cell 1
              have d2 := q2.cell 2
              have d3 := q2.cell 3
              have d4 := q2.cell 4
              have d5 := q2.cell 5
              have f0 := q2.frozen 0
              have f1 := q2.frozen 1
              have f2 := q2.frozen 2
              have f3 := q2.frozen 3
              have f4 := q2.frozen 4
              have f5 := q2.frozen 5
              go_wp2_with fail
              have hbf : Below w.heap.size w (World.setCell (World.setCell (World.setCell (World.setCell (World.setCell (World.setCell w10cc ⟨w.heap.size, 0, none⟩ (.int .u64 (sq : Int))) ⟨w.heap.size, 1, none⟩ (.int .i64 (kd : Int))) ⟨w.heap.size, 2, none⟩ (.slice (some ⟨gK, 0, none⟩) lo lo)) ⟨w.heap.size, 3, none⟩ (.slice (some ⟨gV, 0, none⟩) wi wi)) ⟨w.heap.size, 4, none⟩ (.int .u32 (sg : Int))) ⟨w.heap.size, 5, none⟩ (.int .u32 (of : Int))) := ((((((hb.setCell (p := ⟨w.heap.size, 0, none⟩) hg2 (.int .u64 (sq : Int))).setCell (p := ⟨w.heap.size, 1, none⟩) hg2 (.int .i64 (kd : Int))).setCell (p := ⟨w.heap.size, 2, none⟩) hg2 (.slice (some ⟨gK, 0, none⟩) lo lo)).setCell (p := ⟨w.heap.size, 3, none⟩) hg2 (.slice (some ⟨gV, 0, none⟩) wi wi)).setCell (p := ⟨w.heap.size, 4, none⟩) hg2 (.int .u32 (sg : Int))).setCell (p := ⟨w.heap.size, 5, none⟩) hg2 (.int .u32 (of : Int)))
              have qKf : Blk (World.setCell (World.setCell (World.setCell (World.setCell (World.setCell (World.setCell w10cc ⟨w.heap.size, 0, none⟩ (.int .u64 (sq : Int))) ⟨w.heap.size, 1, none⟩ (.int .i64 (kd : Int))) ⟨w.heap.size, 2, none⟩ (.slice (some ⟨gK, 0, none⟩) lo lo)) ⟨w.heap.size, 3, none⟩ (.slice (some ⟨gV, 0, none⟩) wi wi)) ⟨w.heap.size, 4, none⟩ (.int .u32 (sg : Int))) ⟨w.heap.size, 5, none⟩ (.int .u32 (of : Int))) gK 5 _ := ((((((qK.far (p := ⟨w.heap.size, 0, none⟩) nK2 (.int .u64 (sq : Int))).far (p := ⟨w.heap.size, 1, none⟩) nK2 (.int .i64 (kd : Int))).far (p := ⟨w.heap.size, 2, none⟩) nK2 (.slice (some ⟨gK, 0, none⟩) lo lo)).far (p := ⟨w.heap.size, 3, none⟩) nK2 (.slice (some ⟨gV, 0, none⟩) wi wi)).far (p := ⟨w.heap.size, 4, none⟩) nK2 (.int .u32 (sg : Int))).far (p := ⟨w.heap.size, 5, none⟩) nK2 (.int .u32 (of : Int)))
              have qVf : Blk (World.setCell (World.setCell (World.setCell (World.setCell (World.setCell (World.setCell w10cc ⟨w.heap.size, 0, none⟩ (.int .u64 (sq : Int))) ⟨w.heap.size, 1, none⟩ (.int .i64 (kd : Int))) ⟨w.heap.size, 2, none⟩ (.slice (some ⟨gK, 0, none⟩) lo lo)) ⟨w.heap.size, 3, none⟩ (.slice (some ⟨gV, 0, none⟩) wi wi)) ⟨w.heap.size, 4, none⟩ (.int .u32 (sg : Int))) ⟨w.heap.size, 5, none⟩ (.int .u32 (of : Int))) gV 5 _ := ((((((qV.far (p := ⟨w.heap.size, 0, none⟩) nV2 (.int .u64 (sq : Int))).far (p := ⟨w.heap.size, 1, none⟩) nV2 (.int .i64 (kd : Int))).far (p := ⟨w.heap.size, 2, none⟩) nV2 (.slice (some ⟨gK, 0, none⟩) lo lo)).far (p := ⟨w.heap.size, 3, none⟩) nV2 (.slice (some ⟨gV, 0, none⟩) wi wi)).far (p := ⟨w.heap.size, 4, none⟩) nV2 (.int .u32 (sg : Int))).far (p := ⟨w.heap.size, 5, none⟩) nV2 (.int .u32 (of : Int)))
              exact bodyPost_ret (results_cell3 rfl rfl (res_load (cs := #[.int .u64 (sq : Int), .int .i64 (kd : Int), .slice (some ⟨gK, 0, none⟩) lo lo, .slice (some ⟨gV, 0, none⟩) wi wi, .int .u32 (sg : Int), .int .u32 (of : Int)]) ((((((q2.set_ 0 (.int .u64 (sq : Int))).set_ 1 (.int .i64 (kd : Int))).set_ 2 (.slice (some ⟨gK, 0, none⟩) lo lo)).set_ 3 (.slice (some ⟨gV, 0, none⟩) wi wi)).set_ 4 (.int .u32 (sg : Int))).set_ 5 (.int .u32 (of : Int))) Tryd.underlying44 rfl (by kernel_rfl))) rfl (HGh.out gK gV _ HS3.out qKf qVf nKV bK bV hbf)
end Go.Proofs.YtfapipamohlniaaDoor
