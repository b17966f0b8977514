/- RecordKnown: true. No condition but the tables. -/
import Derived.Test.YtlnidmjnomoddaaDoorRecK
namespace Go.Proofs.YtlnidmjnomoddaaDoor
open Go.RowKit

theorem made_bytes (n : Nat) : (madeCells #[.int .u8 0] n).toList = bcells (List.replicate n 0) := by
  rw [madeCells_one]
  unfold bcells
  simp
theorem blk_zeros {w : World} {g n : Nat} (h : Blk w g 5 (madeCells #[.int .u8 0] n)) (hn : n ≤ maxLen) : Rd w w.heap.size 1 (some ⟨g, 0, none⟩) n (bcells (List.replicate n 0)) := by
  have := h.rd (n := n) (size := 1) (by rw [size_madeCells, Nat.mul_one]) hn
  rwa [made_bytes] at this
def RK (w : World) (v2 : Value) (wx : World) : Prop := ∃ g gK gV, v2 = .pointer (some ⟨g, 0, none⟩) ∧ Blk wx g 28 #[.int .u64 1099511627776, .int .i64 1, .slice (some ⟨gK, 0, none⟩) 64 64, .slice (some ⟨gV, 0, none⟩) 1024 1024, .int .u32 16777215, .int .u32 16777216] ∧ Rd wx wx.heap.size 1 (some ⟨gK, 0, none⟩) 64 (bcells (List.replicate 64 0)) ∧ Rd wx wx.heap.size 1 (some ⟨gV, 0, none⟩) 1024 (bcells (List.replicate 1024 0)) ∧ Below w.heap.size w wx

set_option maxRecDepth 100000 in
set_option maxHeartbeats 4000000 in
theorem known_walk (w : World) (hT : TabR w) : Calls Tryd.prog 8 #[] w fun e w' => e = .returned (.bool true) ∧ Below w.heap.size w w' := by
  have B2 := fun W => Lib.hid (bad_any 23 (run_enter Tryd.func23 (by kernel_rfl) (by kernel_rfl)) (fun g gK gV W q => ch2_any g gK gV W q) W)
  have B3 := fun W => Lib.hid (bad_any 24 (run_enter Tryd.func24 (by kernel_rfl) (by kernel_rfl)) (fun g gK gV W q => ch3_any g gK gV W q) W)
  have B4 := fun W => Lib.hid (bad_any 25 (run_enter Tryd.func25 (by kernel_rfl) (by kernel_rfl)) (fun g gK gV W q => ch4_any g gK gV W q) W)
  have B5 := fun W => Lib.hid (bad_any 26 (run_enter Tryd.func26 (by kernel_rfl) (by kernel_rfl)) (fun g gK gV W q => ch5_any g gK gV W q) W)
  have B6 := fun W => Lib.hid (bad_any 27 (run_enter Tryd.func27 (by kernel_rfl) (by kernel_rfl)) (fun g gK gV W q => ch6_any g gK gV W q) W)
  have B7 := fun W => Lib.hid (bad_any 28 (run_enter Tryd.func28 (by kernel_rfl) (by kernel_rfl)) (fun g gK gV W q => ch7_any g gK gV W q) W)
  have B8 := fun W => Lib.hid (bad_any 29 (run_enter Tryd.func29 (by kernel_rfl) (by kernel_rfl)) (fun g gK gV W q => ch8_any g gK gV W q) W)
  have B9 := fun W => Lib.hid (bad_any 30 (run_enter Tryd.func30 (by kernel_rfl) (by kernel_rfl)) (fun g gK gV W q => ch9_any g gK gV W q) W)
  have B10 := fun W => Lib.hid (bad_any 31 (run_enter Tryd.func31 (by kernel_rfl) (by kernel_rfl)) (fun g gK gV W q => ch10_any g gK gV W q) W)
  have B11 := fun W => Lib.hid (bad_any 32 (run_enter Tryd.func32 (by kernel_rfl) (by kernel_rfl)) (fun g gK gV W q => ch11_any g gK gV W q) W)
  have hb := Below.refl w.heap.size w
  have hm1 : ∀ W : World, (Instr.makeSlice 22 (.int .i64 64) (.int .i64 64)).run Tryd.prog W = .ok (.slice (some ⟨W.heap.size, 0, none⟩) 64 64) (W.alloc (.cells (madeCells #[.int .u8 0] 64) 5)) := fun W =>
    run_make_rowN (P := Tryd.prog) 22 5 ((Tryd.prog.info? 5).get!) (.int .u8 0) Tryd.underlying22 (by kernel_rfl) (by kernel_rfl) .i64 .i64 64 64 (Nat.le_refl _) (by show 1 * 64 ≤ _; omega) (by omega) W
  have hm2 : ∀ W : World, (Instr.makeSlice 22 (.int .i64 1024) (.int .i64 1024)).run Tryd.prog W = .ok (.slice (some ⟨W.heap.size, 0, none⟩) 1024 1024) (W.alloc (.cells (madeCells #[.int .u8 0] 1024) 5)) := fun W =>
    run_make_rowN (P := Tryd.prog) 22 5 ((Tryd.prog.info? 5).get!) (.int .u8 0) Tryd.underlying22 (by kernel_rfl) (by kernel_rfl) .i64 .i64 1024 1024 (Nat.le_refl _) (by show 1 * 1024 ≤ _; omega) (by omega) W
  go_enter Tryd.func8, Tryd.ntmps8
  go_wp2_with fail
  go_cut [2] from 14 to 17 (fun v2 wx => RK w v2 wx)
  case first =>
    refine wp_region_tree (fun _ => True) (row [.read 2] (.fork3 0 (row [] (.fork 1 (row [.read 3, .act 4, .act 5] .done) 4 (row [.act 1, .read 3, .act 5] .done))) 1 (row [] (.fork 0 (row [.read 3, .act 4, .act 5] .done) 4 (row [.act 0, .read 3, .act 5] .done))) 4 (row [] (.fork 0 (row [.act 1, .read 3, .act 5] .done) 1 (row [.act 0, .read 3, .act 5] .done))))) (by kernel_rfl) (by rfl) (by kernel_rfl) (by kernel_rfl) trivial ?_
    have hb : Below w.heap.size w w.drew := hb.drew
    generalize w.drew = wd at *
    refine plan_read (by rfl) (.agg #[.int .u32 16777215, .int .u32 16777216]) (by rfl) (fun W _ => exec_build rfl (by kernel_rfl)) ?_
    refine plan_fork3 (by rfl) (by rfl) (by rfl) ?_ ?_ ?_
    · skip
      go_wp2_with fail
      have lb := hb.size
      have qK := Blk.new wd 5 (madeCells #[.int .u8 0] 64)
      have hb := hb.alloc hb.size (.cells (madeCells #[.int .u8 0] 64) 5)
      obtain ⟨gK, hgK⟩ : ∃ g, g = wd.heap.size := ⟨_, rfl⟩
      rw [← hgK] at qK ⊢
      have bK : w.heap.size ≤ gK := by omega
      clear hgK lb 
      generalize wd.alloc (.cells (madeCells #[.int .u8 0] 64) 5) = x1 at *
      refine ⟨trivial, ?_⟩
      refine plan_fork (by rfl) (by rfl) ?_ ?_
      · skip
        go_wp2_with fail
        have lb := hb.size
        have lK := qK.lt
        have qV := Blk.new x1 5 (madeCells #[.int .u8 0] 1024)
        have qK := qK.alloc (.cells (madeCells #[.int .u8 0] 1024) 5)
        have hb := hb.alloc hb.size (.cells (madeCells #[.int .u8 0] 1024) 5)
        obtain ⟨gV, hgV⟩ : ∃ g, g = x1.heap.size := ⟨_, rfl⟩
        rw [← hgV] at qV ⊢
        have bV : w.heap.size ≤ gV := by omega
        have nKV : gK ≠ gV := by omega
        clear hgV lb lK
        generalize x1.alloc (.cells (madeCells #[.int .u8 0] 1024) 5) = x2 at *
        refine ⟨trivial, ?_⟩
        refine plan_read (by rfl) (.agg #[.int .u64 1099511627776, .int .i64 1, .slice (some ⟨gK, 0, none⟩) 64 64, .slice (some ⟨gV, 0, none⟩) 1024 1024, .int .u32 16777215, .int .u32 16777216]) (by rfl) (fun W _ => exec_build rfl (by kernel_rfl)) ?_
        refine plan_act (by rfl) ?_
        go_wp2_with fail
        have lb := hb.size
        have lK := qK.lt
        have lV := qV.lt
        have qR := Blk.new x2 28 #[.int .u64 0, .int .i64 0, .slice none 0 0, .slice none 0 0, .int .u32 0, .int .u32 0]
        have qK := qK.alloc (.cells #[.int .u64 0, .int .i64 0, .slice none 0 0, .slice none 0 0, .int .u32 0, .int .u32 0] 28)
        have qV := qV.alloc (.cells #[.int .u64 0, .int .i64 0, .slice none 0 0, .slice none 0 0, .int .u32 0, .int .u32 0] 28)
        have hb := hb.alloc hb.size (.cells #[.int .u64 0, .int .i64 0, .slice none 0 0, .slice none 0 0, .int .u32 0, .int .u32 0] 28)
        obtain ⟨gR, hgR⟩ : ∃ g, g = x2.heap.size := ⟨_, rfl⟩
        rw [← hgR] at qR ⊢
        have bR : w.heap.size ≤ gR := by omega
        have nKR : gK ≠ gR := by omega
        have nRV : gR ≠ gV := by omega
        clear hgR lb lK lV
        generalize x2.alloc (.cells #[.int .u64 0, .int .i64 0, .slice none 0 0, .slice none 0 0, .int .u32 0, .int .u32 0] 28) = x3 at *
        refine ⟨trivial, ?_⟩
        have d0 := qR.cell 0
        have f0 := qR.frozen 0
        have d1 := qR.cell 1
        have f1 := qR.frozen 1
        have d2 := qR.cell 2
        have f2 := qR.frozen 2
        have d3 := qR.cell 3
        have f3 := qR.frozen 3
        have d4 := qR.cell 4
        have f4 := qR.frozen 4
        have d5 := qR.cell 5
        have f5 := qR.frozen 5
        refine plan_last (by rfl) (by kernel_rfl) ?_
        go_wp2_with fail
        have q6 : Blk (World.setCell (World.setCell (World.setCell (World.setCell (World.setCell (World.setCell x3 ⟨gR, 0, none⟩ (.int .u64 1099511627776)) ⟨gR, 1, none⟩ (.int .i64 1)) ⟨gR, 2, none⟩ (.slice (some ⟨gK, 0, none⟩) 64 64)) ⟨gR, 3, none⟩ (.slice (some ⟨gV, 0, none⟩) 1024 1024)) ⟨gR, 4, none⟩ (.int .u32 16777215)) ⟨gR, 5, none⟩ (.int .u32 16777216)) gR 28 #[.int .u64 1099511627776, .int .i64 1, .slice (some ⟨gK, 0, none⟩) 64 64, .slice (some ⟨gV, 0, none⟩) 1024 1024, .int .u32 16777215, .int .u32 16777216] := ((((((qR.set_ 0 (.int .u64 1099511627776)).set_ 1 (.int .i64 1)).set_ 2 (.slice (some ⟨gK, 0, none⟩) 64 64)).set_ 3 (.slice (some ⟨gV, 0, none⟩) 1024 1024)).set_ 4 (.int .u32 16777215)).set_ 5 (.int .u32 16777216))
        have qK6 : Blk (World.setCell (World.setCell (World.setCell (World.setCell (World.setCell (World.setCell x3 ⟨gR, 0, none⟩ (.int .u64 1099511627776)) ⟨gR, 1, none⟩ (.int .i64 1)) ⟨gR, 2, none⟩ (.slice (some ⟨gK, 0, none⟩) 64 64)) ⟨gR, 3, none⟩ (.slice (some ⟨gV, 0, none⟩) 1024 1024)) ⟨gR, 4, none⟩ (.int .u32 16777215)) ⟨gR, 5, none⟩ (.int .u32 16777216)) gK 5 _ := ((((((qK.far (p := ⟨gR, 0, none⟩) nKR (.int .u64 1099511627776)).far (p := ⟨gR, 1, none⟩) nKR (.int .i64 1)).far (p := ⟨gR, 2, none⟩) nKR (.slice (some ⟨gK, 0, none⟩) 64 64)).far (p := ⟨gR, 3, none⟩) nKR (.slice (some ⟨gV, 0, none⟩) 1024 1024)).far (p := ⟨gR, 4, none⟩) nKR (.int .u32 16777215)).far (p := ⟨gR, 5, none⟩) nKR (.int .u32 16777216))
        have qV6 : Blk (World.setCell (World.setCell (World.setCell (World.setCell (World.setCell (World.setCell x3 ⟨gR, 0, none⟩ (.int .u64 1099511627776)) ⟨gR, 1, none⟩ (.int .i64 1)) ⟨gR, 2, none⟩ (.slice (some ⟨gK, 0, none⟩) 64 64)) ⟨gR, 3, none⟩ (.slice (some ⟨gV, 0, none⟩) 1024 1024)) ⟨gR, 4, none⟩ (.int .u32 16777215)) ⟨gR, 5, none⟩ (.int .u32 16777216)) gV 5 _ := ((((((qV.far (p := ⟨gR, 0, none⟩) nRV.symm (.int .u64 1099511627776)).far (p := ⟨gR, 1, none⟩) nRV.symm (.int .i64 1)).far (p := ⟨gR, 2, none⟩) nRV.symm (.slice (some ⟨gK, 0, none⟩) 64 64)).far (p := ⟨gR, 3, none⟩) nRV.symm (.slice (some ⟨gV, 0, none⟩) 1024 1024)).far (p := ⟨gR, 4, none⟩) nRV.symm (.int .u32 16777215)).far (p := ⟨gR, 5, none⟩) nRV.symm (.int .u32 16777216))
        have hb6 := ((((((hb.setCell (p := ⟨gR, 0, none⟩) bR (.int .u64 1099511627776)).setCell (p := ⟨gR, 1, none⟩) bR (.int .i64 1)).setCell (p := ⟨gR, 2, none⟩) bR (.slice (some ⟨gK, 0, none⟩) 64 64)).setCell (p := ⟨gR, 3, none⟩) bR (.slice (some ⟨gV, 0, none⟩) 1024 1024)).setCell (p := ⟨gR, 4, none⟩) bR (.int .u32 16777215)).setCell (p := ⟨gR, 5, none⟩) bR (.int .u32 16777216))
        refine plan_end ?_
        go_wp2_with fail
        go_meet
        case rel => exact ⟨gR, gK, gV, rfl, q6, blk_zeros qK6 (by unfold maxLen; omega), blk_zeros qV6 (by unfold maxLen; omega), hb6⟩
      · skip
        go_wp2_with fail
        have lb := hb.size
        have lK := qK.lt
        have qR := Blk.new x1 28 #[.int .u64 0, .int .i64 0, .slice none 0 0, .slice none 0 0, .int .u32 0, .int .u32 0]
        have qK := qK.alloc (.cells #[.int .u64 0, .int .i64 0, .slice none 0 0, .slice none 0 0, .int .u32 0, .int .u32 0] 28)
        have hb := hb.alloc hb.size (.cells #[.int .u64 0, .int .i64 0, .slice none 0 0, .slice none 0 0, .int .u32 0, .int .u32 0] 28)
        obtain ⟨gR, hgR⟩ : ∃ g, g = x1.heap.size := ⟨_, rfl⟩
        rw [← hgR] at qR ⊢
        have bR : w.heap.size ≤ gR := by omega
        have nKR : gK ≠ gR := by omega
        clear hgR lb lK
        generalize x1.alloc (.cells #[.int .u64 0, .int .i64 0, .slice none 0 0, .slice none 0 0, .int .u32 0, .int .u32 0] 28) = x4 at *
        refine ⟨trivial, ?_⟩
        refine plan_act (by rfl) ?_
        go_wp2_with fail
        have lb := hb.size
        have lK := qK.lt
        have lR := qR.lt
        have qV := Blk.new x4 5 (madeCells #[.int .u8 0] 1024)
        have qK := qK.alloc (.cells (madeCells #[.int .u8 0] 1024) 5)
        have qR := qR.alloc (.cells (madeCells #[.int .u8 0] 1024) 5)
        have hb := hb.alloc hb.size (.cells (madeCells #[.int .u8 0] 1024) 5)
        obtain ⟨gV, hgV⟩ : ∃ g, g = x4.heap.size := ⟨_, rfl⟩
        rw [← hgV] at qV ⊢
        have bV : w.heap.size ≤ gV := by omega
        have nKV : gK ≠ gV := by omega
        have nRV : gR ≠ gV := by omega
        clear hgV lb lK lR
        generalize x4.alloc (.cells (madeCells #[.int .u8 0] 1024) 5) = x5 at *
        refine ⟨trivial, ?_⟩
        refine plan_read (by rfl) (.agg #[.int .u64 1099511627776, .int .i64 1, .slice (some ⟨gK, 0, none⟩) 64 64, .slice (some ⟨gV, 0, none⟩) 1024 1024, .int .u32 16777215, .int .u32 16777216]) (by rfl) (fun W _ => exec_build rfl (by kernel_rfl)) ?_
        have d0 := qR.cell 0
        have f0 := qR.frozen 0
        have d1 := qR.cell 1
        have f1 := qR.frozen 1
        have d2 := qR.cell 2
        have f2 := qR.frozen 2
        have d3 := qR.cell 3
        have f3 := qR.frozen 3
        have d4 := qR.cell 4
        have f4 := qR.frozen 4
        have d5 := qR.cell 5
        have f5 := qR.frozen 5
        refine plan_last (by rfl) (by kernel_rfl) ?_
        go_wp2_with fail
        have q6 : Blk (World.setCell (World.setCell (World.setCell (World.setCell (World.setCell (World.setCell x5 ⟨gR, 0, none⟩ (.int .u64 1099511627776)) ⟨gR, 1, none⟩ (.int .i64 1)) ⟨gR, 2, none⟩ (.slice (some ⟨gK, 0, none⟩) 64 64)) ⟨gR, 3, none⟩ (.slice (some ⟨gV, 0, none⟩) 1024 1024)) ⟨gR, 4, none⟩ (.int .u32 16777215)) ⟨gR, 5, none⟩ (.int .u32 16777216)) gR 28 #[.int .u64 1099511627776, .int .i64 1, .slice (some ⟨gK, 0, none⟩) 64 64, .slice (some ⟨gV, 0, none⟩) 1024 1024, .int .u32 16777215, .int .u32 16777216] := ((((((qR.set_ 0 (.int .u64 1099511627776)).set_ 1 (.int .i64 1)).set_ 2 (.slice (some ⟨gK, 0, none⟩) 64 64)).set_ 3 (.slice (some ⟨gV, 0, none⟩) 1024 1024)).set_ 4 (.int .u32 16777215)).set_ 5 (.int .u32 16777216))
        have qK6 : Blk (World.setCell (World.setCell (World.setCell (World.setCell (World.setCell (World.setCell x5 ⟨gR, 0, none⟩ (.int .u64 1099511627776)) ⟨gR, 1, none⟩ (.int .i64 1)) ⟨gR, 2, none⟩ (.slice (some ⟨gK, 0, none⟩) 64 64)) ⟨gR, 3, none⟩ (.slice (some ⟨gV, 0, none⟩) 1024 1024)) ⟨gR, 4, none⟩ (.int .u32 16777215)) ⟨gR, 5, none⟩ (.int .u32 16777216)) gK 5 _ := ((((((qK.far (p := ⟨gR, 0, none⟩) nKR (.int .u64 1099511627776)).far (p := ⟨gR, 1, none⟩) nKR (.int .i64 1)).far (p := ⟨gR, 2, none⟩) nKR (.slice (some ⟨gK, 0, none⟩) 64 64)).far (p := ⟨gR, 3, none⟩) nKR (.slice (some ⟨gV, 0, none⟩) 1024 1024)).far (p := ⟨gR, 4, none⟩) nKR (.int .u32 16777215)).far (p := ⟨gR, 5, none⟩) nKR (.int .u32 16777216))
        have qV6 : Blk (World.setCell (World.setCell (World.setCell (World.setCell (World.setCell (World.setCell x5 ⟨gR, 0, none⟩ (.int .u64 1099511627776)) ⟨gR, 1, none⟩ (.int .i64 1)) ⟨gR, 2, none⟩ (.slice (some ⟨gK, 0, none⟩) 64 64)) ⟨gR, 3, none⟩ (.slice (some ⟨gV, 0, none⟩) 1024 1024)) ⟨gR, 4, none⟩ (.int .u32 16777215)) ⟨gR, 5, none⟩ (.int .u32 16777216)) gV 5 _ := ((((((qV.far (p := ⟨gR, 0, none⟩) nRV.symm (.int .u64 1099511627776)).far (p := ⟨gR, 1, none⟩) nRV.symm (.int .i64 1)).far (p := ⟨gR, 2, none⟩) nRV.symm (.slice (some ⟨gK, 0, none⟩) 64 64)).far (p := ⟨gR, 3, none⟩) nRV.symm (.slice (some ⟨gV, 0, none⟩) 1024 1024)).far (p := ⟨gR, 4, none⟩) nRV.symm (.int .u32 16777215)).far (p := ⟨gR, 5, none⟩) nRV.symm (.int .u32 16777216))
        have hb6 := ((((((hb.setCell (p := ⟨gR, 0, none⟩) bR (.int .u64 1099511627776)).setCell (p := ⟨gR, 1, none⟩) bR (.int .i64 1)).setCell (p := ⟨gR, 2, none⟩) bR (.slice (some ⟨gK, 0, none⟩) 64 64)).setCell (p := ⟨gR, 3, none⟩) bR (.slice (some ⟨gV, 0, none⟩) 1024 1024)).setCell (p := ⟨gR, 4, none⟩) bR (.int .u32 16777215)).setCell (p := ⟨gR, 5, none⟩) bR (.int .u32 16777216))
        refine plan_end ?_
        go_wp2_with fail
        go_meet
        case rel => exact ⟨gR, gK, gV, rfl, q6, blk_zeros qK6 (by unfold maxLen; omega), blk_zeros qV6 (by unfold maxLen; omega), hb6⟩
    · skip
      go_wp2_with fail
      have lb := hb.size
      have qV := Blk.new wd 5 (madeCells #[.int .u8 0] 1024)
      have hb := hb.alloc hb.size (.cells (madeCells #[.int .u8 0] 1024) 5)
      obtain ⟨gV, hgV⟩ : ∃ g, g = wd.heap.size := ⟨_, rfl⟩
      rw [← hgV] at qV ⊢
      have bV : w.heap.size ≤ gV := by omega
      clear hgV lb 
      generalize wd.alloc (.cells (madeCells #[.int .u8 0] 1024) 5) = x6 at *
      refine ⟨trivial, ?_⟩
      refine plan_fork (by rfl) (by rfl) ?_ ?_
      · skip
        go_wp2_with fail
        have lb := hb.size
        have lV := qV.lt
        have qK := Blk.new x6 5 (madeCells #[.int .u8 0] 64)
        have qV := qV.alloc (.cells (madeCells #[.int .u8 0] 64) 5)
        have hb := hb.alloc hb.size (.cells (madeCells #[.int .u8 0] 64) 5)
        obtain ⟨gK, hgK⟩ : ∃ g, g = x6.heap.size := ⟨_, rfl⟩
        rw [← hgK] at qK ⊢
        have bK : w.heap.size ≤ gK := by omega
        have nKV : gK ≠ gV := by omega
        clear hgK lb lV
        generalize x6.alloc (.cells (madeCells #[.int .u8 0] 64) 5) = x7 at *
        refine ⟨trivial, ?_⟩
        refine plan_read (by rfl) (.agg #[.int .u64 1099511627776, .int .i64 1, .slice (some ⟨gK, 0, none⟩) 64 64, .slice (some ⟨gV, 0, none⟩) 1024 1024, .int .u32 16777215, .int .u32 16777216]) (by rfl) (fun W _ => exec_build rfl (by kernel_rfl)) ?_
        refine plan_act (by rfl) ?_
        go_wp2_with fail
        have lb := hb.size
        have lV := qV.lt
        have lK := qK.lt
        have qR := Blk.new x7 28 #[.int .u64 0, .int .i64 0, .slice none 0 0, .slice none 0 0, .int .u32 0, .int .u32 0]
        have qV := qV.alloc (.cells #[.int .u64 0, .int .i64 0, .slice none 0 0, .slice none 0 0, .int .u32 0, .int .u32 0] 28)
        have qK := qK.alloc (.cells #[.int .u64 0, .int .i64 0, .slice none 0 0, .slice none 0 0, .int .u32 0, .int .u32 0] 28)
        have hb := hb.alloc hb.size (.cells #[.int .u64 0, .int .i64 0, .slice none 0 0, .slice none 0 0, .int .u32 0, .int .u32 0] 28)
        obtain ⟨gR, hgR⟩ : ∃ g, g = x7.heap.size := ⟨_, rfl⟩
        rw [← hgR] at qR ⊢
        have bR : w.heap.size ≤ gR := by omega
        have nRV : gR ≠ gV := by omega
        have nKR : gK ≠ gR := by omega
        clear hgR lb lV lK
        generalize x7.alloc (.cells #[.int .u64 0, .int .i64 0, .slice none 0 0, .slice none 0 0, .int .u32 0, .int .u32 0] 28) = x8 at *
        refine ⟨trivial, ?_⟩
        have d0 := qR.cell 0
        have f0 := qR.frozen 0
        have d1 := qR.cell 1
        have f1 := qR.frozen 1
        have d2 := qR.cell 2
        have f2 := qR.frozen 2
        have d3 := qR.cell 3
        have f3 := qR.frozen 3
        have d4 := qR.cell 4
        have f4 := qR.frozen 4
        have d5 := qR.cell 5
        have f5 := qR.frozen 5
        refine plan_last (by rfl) (by kernel_rfl) ?_
        go_wp2_with fail
        have q6 : Blk (World.setCell (World.setCell (World.setCell (World.setCell (World.setCell (World.setCell x8 ⟨gR, 0, none⟩ (.int .u64 1099511627776)) ⟨gR, 1, none⟩ (.int .i64 1)) ⟨gR, 2, none⟩ (.slice (some ⟨gK, 0, none⟩) 64 64)) ⟨gR, 3, none⟩ (.slice (some ⟨gV, 0, none⟩) 1024 1024)) ⟨gR, 4, none⟩ (.int .u32 16777215)) ⟨gR, 5, none⟩ (.int .u32 16777216)) gR 28 #[.int .u64 1099511627776, .int .i64 1, .slice (some ⟨gK, 0, none⟩) 64 64, .slice (some ⟨gV, 0, none⟩) 1024 1024, .int .u32 16777215, .int .u32 16777216] := ((((((qR.set_ 0 (.int .u64 1099511627776)).set_ 1 (.int .i64 1)).set_ 2 (.slice (some ⟨gK, 0, none⟩) 64 64)).set_ 3 (.slice (some ⟨gV, 0, none⟩) 1024 1024)).set_ 4 (.int .u32 16777215)).set_ 5 (.int .u32 16777216))
        have qK6 : Blk (World.setCell (World.setCell (World.setCell (World.setCell (World.setCell (World.setCell x8 ⟨gR, 0, none⟩ (.int .u64 1099511627776)) ⟨gR, 1, none⟩ (.int .i64 1)) ⟨gR, 2, none⟩ (.slice (some ⟨gK, 0, none⟩) 64 64)) ⟨gR, 3, none⟩ (.slice (some ⟨gV, 0, none⟩) 1024 1024)) ⟨gR, 4, none⟩ (.int .u32 16777215)) ⟨gR, 5, none⟩ (.int .u32 16777216)) gK 5 _ := ((((((qK.far (p := ⟨gR, 0, none⟩) nKR (.int .u64 1099511627776)).far (p := ⟨gR, 1, none⟩) nKR (.int .i64 1)).far (p := ⟨gR, 2, none⟩) nKR (.slice (some ⟨gK, 0, none⟩) 64 64)).far (p := ⟨gR, 3, none⟩) nKR (.slice (some ⟨gV, 0, none⟩) 1024 1024)).far (p := ⟨gR, 4, none⟩) nKR (.int .u32 16777215)).far (p := ⟨gR, 5, none⟩) nKR (.int .u32 16777216))
        have qV6 : Blk (World.setCell (World.setCell (World.setCell (World.setCell (World.setCell (World.setCell x8 ⟨gR, 0, none⟩ (.int .u64 1099511627776)) ⟨gR, 1, none⟩ (.int .i64 1)) ⟨gR, 2, none⟩ (.slice (some ⟨gK, 0, none⟩) 64 64)) ⟨gR, 3, none⟩ (.slice (some ⟨gV, 0, none⟩) 1024 1024)) ⟨gR, 4, none⟩ (.int .u32 16777215)) ⟨gR, 5, none⟩ (.int .u32 16777216)) gV 5 _ := ((((((qV.far (p := ⟨gR, 0, none⟩) nRV.symm (.int .u64 1099511627776)).far (p := ⟨gR, 1, none⟩) nRV.symm (.int .i64 1)).far (p := ⟨gR, 2, none⟩) nRV.symm (.slice (some ⟨gK, 0, none⟩) 64 64)).far (p := ⟨gR, 3, none⟩) nRV.symm (.slice (some ⟨gV, 0, none⟩) 1024 1024)).far (p := ⟨gR, 4, none⟩) nRV.symm (.int .u32 16777215)).far (p := ⟨gR, 5, none⟩) nRV.symm (.int .u32 16777216))
        have hb6 := ((((((hb.setCell (p := ⟨gR, 0, none⟩) bR (.int .u64 1099511627776)).setCell (p := ⟨gR, 1, none⟩) bR (.int .i64 1)).setCell (p := ⟨gR, 2, none⟩) bR (.slice (some ⟨gK, 0, none⟩) 64 64)).setCell (p := ⟨gR, 3, none⟩) bR (.slice (some ⟨gV, 0, none⟩) 1024 1024)).setCell (p := ⟨gR, 4, none⟩) bR (.int .u32 16777215)).setCell (p := ⟨gR, 5, none⟩) bR (.int .u32 16777216))
        refine plan_end ?_
        go_wp2_with fail
        go_meet
        case rel => exact ⟨gR, gK, gV, rfl, q6, blk_zeros qK6 (by unfold maxLen; omega), blk_zeros qV6 (by unfold maxLen; omega), hb6⟩
      · skip
        go_wp2_with fail
        have lb := hb.size
        have lV := qV.lt
        have qR := Blk.new x6 28 #[.int .u64 0, .int .i64 0, .slice none 0 0, .slice none 0 0, .int .u32 0, .int .u32 0]
        have qV := qV.alloc (.cells #[.int .u64 0, .int .i64 0, .slice none 0 0, .slice none 0 0, .int .u32 0, .int .u32 0] 28)
        have hb := hb.alloc hb.size (.cells #[.int .u64 0, .int .i64 0, .slice none 0 0, .slice none 0 0, .int .u32 0, .int .u32 0] 28)
        obtain ⟨gR, hgR⟩ : ∃ g, g = x6.heap.size := ⟨_, rfl⟩
        rw [← hgR] at qR ⊢
        have bR : w.heap.size ≤ gR := by omega
        have nRV : gR ≠ gV := by omega
        clear hgR lb lV
        generalize x6.alloc (.cells #[.int .u64 0, .int .i64 0, .slice none 0 0, .slice none 0 0, .int .u32 0, .int .u32 0] 28) = x9 at *
        refine ⟨trivial, ?_⟩
        refine plan_act (by rfl) ?_
        go_wp2_with fail
        have lb := hb.size
        have lV := qV.lt
        have lR := qR.lt
        have qK := Blk.new x9 5 (madeCells #[.int .u8 0] 64)
        have qV := qV.alloc (.cells (madeCells #[.int .u8 0] 64) 5)
        have qR := qR.alloc (.cells (madeCells #[.int .u8 0] 64) 5)
        have hb := hb.alloc hb.size (.cells (madeCells #[.int .u8 0] 64) 5)
        obtain ⟨gK, hgK⟩ : ∃ g, g = x9.heap.size := ⟨_, rfl⟩
        rw [← hgK] at qK ⊢
        have bK : w.heap.size ≤ gK := by omega
        have nKV : gK ≠ gV := by omega
        have nKR : gK ≠ gR := by omega
        clear hgK lb lV lR
        generalize x9.alloc (.cells (madeCells #[.int .u8 0] 64) 5) = x10 at *
        refine ⟨trivial, ?_⟩
        refine plan_read (by rfl) (.agg #[.int .u64 1099511627776, .int .i64 1, .slice (some ⟨gK, 0, none⟩) 64 64, .slice (some ⟨gV, 0, none⟩) 1024 1024, .int .u32 16777215, .int .u32 16777216]) (by rfl) (fun W _ => exec_build rfl (by kernel_rfl)) ?_
        have d0 := qR.cell 0
        have f0 := qR.frozen 0
        have d1 := qR.cell 1
        have f1 := qR.frozen 1
        have d2 := qR.cell 2
        have f2 := qR.frozen 2
        have d3 := qR.cell 3
        have f3 := qR.frozen 3
        have d4 := qR.cell 4
        have f4 := qR.frozen 4
        have d5 := qR.cell 5
        have f5 := qR.frozen 5
        refine plan_last (by rfl) (by kernel_rfl) ?_
        go_wp2_with fail
        have q6 : Blk (World.setCell (World.setCell (World.setCell (World.setCell (World.setCell (World.setCell x10 ⟨gR, 0, none⟩ (.int .u64 1099511627776)) ⟨gR, 1, none⟩ (.int .i64 1)) ⟨gR, 2, none⟩ (.slice (some ⟨gK, 0, none⟩) 64 64)) ⟨gR, 3, none⟩ (.slice (some ⟨gV, 0, none⟩) 1024 1024)) ⟨gR, 4, none⟩ (.int .u32 16777215)) ⟨gR, 5, none⟩ (.int .u32 16777216)) gR 28 #[.int .u64 1099511627776, .int .i64 1, .slice (some ⟨gK, 0, none⟩) 64 64, .slice (some ⟨gV, 0, none⟩) 1024 1024, .int .u32 16777215, .int .u32 16777216] := ((((((qR.set_ 0 (.int .u64 1099511627776)).set_ 1 (.int .i64 1)).set_ 2 (.slice (some ⟨gK, 0, none⟩) 64 64)).set_ 3 (.slice (some ⟨gV, 0, none⟩) 1024 1024)).set_ 4 (.int .u32 16777215)).set_ 5 (.int .u32 16777216))
        have qK6 : Blk (World.setCell (World.setCell (World.setCell (World.setCell (World.setCell (World.setCell x10 ⟨gR, 0, none⟩ (.int .u64 1099511627776)) ⟨gR, 1, none⟩ (.int .i64 1)) ⟨gR, 2, none⟩ (.slice (some ⟨gK, 0, none⟩) 64 64)) ⟨gR, 3, none⟩ (.slice (some ⟨gV, 0, none⟩) 1024 1024)) ⟨gR, 4, none⟩ (.int .u32 16777215)) ⟨gR, 5, none⟩ (.int .u32 16777216)) gK 5 _ := ((((((qK.far (p := ⟨gR, 0, none⟩) nKR (.int .u64 1099511627776)).far (p := ⟨gR, 1, none⟩) nKR (.int .i64 1)).far (p := ⟨gR, 2, none⟩) nKR (.slice (some ⟨gK, 0, none⟩) 64 64)).far (p := ⟨gR, 3, none⟩) nKR (.slice (some ⟨gV, 0, none⟩) 1024 1024)).far (p := ⟨gR, 4, none⟩) nKR (.int .u32 16777215)).far (p := ⟨gR, 5, none⟩) nKR (.int .u32 16777216))
        have qV6 : Blk (World.setCell (World.setCell (World.setCell (World.setCell (World.setCell (World.setCell x10 ⟨gR, 0, none⟩ (.int .u64 1099511627776)) ⟨gR, 1, none⟩ (.int .i64 1)) ⟨gR, 2, none⟩ (.slice (some ⟨gK, 0, none⟩) 64 64)) ⟨gR, 3, none⟩ (.slice (some ⟨gV, 0, none⟩) 1024 1024)) ⟨gR, 4, none⟩ (.int .u32 16777215)) ⟨gR, 5, none⟩ (.int .u32 16777216)) gV 5 _ := ((((((qV.far (p := ⟨gR, 0, none⟩) nRV.symm (.int .u64 1099511627776)).far (p := ⟨gR, 1, none⟩) nRV.symm (.int .i64 1)).far (p := ⟨gR, 2, none⟩) nRV.symm (.slice (some ⟨gK, 0, none⟩) 64 64)).far (p := ⟨gR, 3, none⟩) nRV.symm (.slice (some ⟨gV, 0, none⟩) 1024 1024)).far (p := ⟨gR, 4, none⟩) nRV.symm (.int .u32 16777215)).far (p := ⟨gR, 5, none⟩) nRV.symm (.int .u32 16777216))
        have hb6 := ((((((hb.setCell (p := ⟨gR, 0, none⟩) bR (.int .u64 1099511627776)).setCell (p := ⟨gR, 1, none⟩) bR (.int .i64 1)).setCell (p := ⟨gR, 2, none⟩) bR (.slice (some ⟨gK, 0, none⟩) 64 64)).setCell (p := ⟨gR, 3, none⟩) bR (.slice (some ⟨gV, 0, none⟩) 1024 1024)).setCell (p := ⟨gR, 4, none⟩) bR (.int .u32 16777215)).setCell (p := ⟨gR, 5, none⟩) bR (.int .u32 16777216))
        refine plan_end ?_
        go_wp2_with fail
        go_meet
        case rel => exact ⟨gR, gK, gV, rfl, q6, blk_zeros qK6 (by unfold maxLen; omega), blk_zeros qV6 (by unfold maxLen; omega), hb6⟩
    · skip
      go_wp2_with fail
      have lb := hb.size
      have qR := Blk.new wd 28 #[.int .u64 0, .int .i64 0, .slice none 0 0, .slice none 0 0, .int .u32 0, .int .u32 0]
      have hb := hb.alloc hb.size (.cells #[.int .u64 0, .int .i64 0, .slice none 0 0, .slice none 0 0, .int .u32 0, .int .u32 0] 28)
      obtain ⟨gR, hgR⟩ : ∃ g, g = wd.heap.size := ⟨_, rfl⟩
      rw [← hgR] at qR ⊢
      have bR : w.heap.size ≤ gR := by omega
      clear hgR lb 
      generalize wd.alloc (.cells #[.int .u64 0, .int .i64 0, .slice none 0 0, .slice none 0 0, .int .u32 0, .int .u32 0] 28) = x11 at *
      refine ⟨trivial, ?_⟩
      refine plan_fork (by rfl) (by rfl) ?_ ?_
      · skip
        go_wp2_with fail
        have lb := hb.size
        have lR := qR.lt
        have qK := Blk.new x11 5 (madeCells #[.int .u8 0] 64)
        have qR := qR.alloc (.cells (madeCells #[.int .u8 0] 64) 5)
        have hb := hb.alloc hb.size (.cells (madeCells #[.int .u8 0] 64) 5)
        obtain ⟨gK, hgK⟩ : ∃ g, g = x11.heap.size := ⟨_, rfl⟩
        rw [← hgK] at qK ⊢
        have bK : w.heap.size ≤ gK := by omega
        have nKR : gK ≠ gR := by omega
        clear hgK lb lR
        generalize x11.alloc (.cells (madeCells #[.int .u8 0] 64) 5) = x12 at *
        refine ⟨trivial, ?_⟩
        refine plan_act (by rfl) ?_
        go_wp2_with fail
        have lb := hb.size
        have lR := qR.lt
        have lK := qK.lt
        have qV := Blk.new x12 5 (madeCells #[.int .u8 0] 1024)
        have qR := qR.alloc (.cells (madeCells #[.int .u8 0] 1024) 5)
        have qK := qK.alloc (.cells (madeCells #[.int .u8 0] 1024) 5)
        have hb := hb.alloc hb.size (.cells (madeCells #[.int .u8 0] 1024) 5)
        obtain ⟨gV, hgV⟩ : ∃ g, g = x12.heap.size := ⟨_, rfl⟩
        rw [← hgV] at qV ⊢
        have bV : w.heap.size ≤ gV := by omega
        have nRV : gR ≠ gV := by omega
        have nKV : gK ≠ gV := by omega
        clear hgV lb lR lK
        generalize x12.alloc (.cells (madeCells #[.int .u8 0] 1024) 5) = x13 at *
        refine ⟨trivial, ?_⟩
        refine plan_read (by rfl) (.agg #[.int .u64 1099511627776, .int .i64 1, .slice (some ⟨gK, 0, none⟩) 64 64, .slice (some ⟨gV, 0, none⟩) 1024 1024, .int .u32 16777215, .int .u32 16777216]) (by rfl) (fun W _ => exec_build rfl (by kernel_rfl)) ?_
        have d0 := qR.cell 0
        have f0 := qR.frozen 0
        have d1 := qR.cell 1
        have f1 := qR.frozen 1
        have d2 := qR.cell 2
        have f2 := qR.frozen 2
        have d3 := qR.cell 3
        have f3 := qR.frozen 3
        have d4 := qR.cell 4
        have f4 := qR.frozen 4
        have d5 := qR.cell 5
        have f5 := qR.frozen 5
        refine plan_last (by rfl) (by kernel_rfl) ?_
        go_wp2_with fail
        have q6 : Blk (World.setCell (World.setCell (World.setCell (World.setCell (World.setCell (World.setCell x13 ⟨gR, 0, none⟩ (.int .u64 1099511627776)) ⟨gR, 1, none⟩ (.int .i64 1)) ⟨gR, 2, none⟩ (.slice (some ⟨gK, 0, none⟩) 64 64)) ⟨gR, 3, none⟩ (.slice (some ⟨gV, 0, none⟩) 1024 1024)) ⟨gR, 4, none⟩ (.int .u32 16777215)) ⟨gR, 5, none⟩ (.int .u32 16777216)) gR 28 #[.int .u64 1099511627776, .int .i64 1, .slice (some ⟨gK, 0, none⟩) 64 64, .slice (some ⟨gV, 0, none⟩) 1024 1024, .int .u32 16777215, .int .u32 16777216] := ((((((qR.set_ 0 (.int .u64 1099511627776)).set_ 1 (.int .i64 1)).set_ 2 (.slice (some ⟨gK, 0, none⟩) 64 64)).set_ 3 (.slice (some ⟨gV, 0, none⟩) 1024 1024)).set_ 4 (.int .u32 16777215)).set_ 5 (.int .u32 16777216))
        have qK6 : Blk (World.setCell (World.setCell (World.setCell (World.setCell (World.setCell (World.setCell x13 ⟨gR, 0, none⟩ (.int .u64 1099511627776)) ⟨gR, 1, none⟩ (.int .i64 1)) ⟨gR, 2, none⟩ (.slice (some ⟨gK, 0, none⟩) 64 64)) ⟨gR, 3, none⟩ (.slice (some ⟨gV, 0, none⟩) 1024 1024)) ⟨gR, 4, none⟩ (.int .u32 16777215)) ⟨gR, 5, none⟩ (.int .u32 16777216)) gK 5 _ := ((((((qK.far (p := ⟨gR, 0, none⟩) nKR (.int .u64 1099511627776)).far (p := ⟨gR, 1, none⟩) nKR (.int .i64 1)).far (p := ⟨gR, 2, none⟩) nKR (.slice (some ⟨gK, 0, none⟩) 64 64)).far (p := ⟨gR, 3, none⟩) nKR (.slice (some ⟨gV, 0, none⟩) 1024 1024)).far (p := ⟨gR, 4, none⟩) nKR (.int .u32 16777215)).far (p := ⟨gR, 5, none⟩) nKR (.int .u32 16777216))
        have qV6 : Blk (World.setCell (World.setCell (World.setCell (World.setCell (World.setCell (World.setCell x13 ⟨gR, 0, none⟩ (.int .u64 1099511627776)) ⟨gR, 1, none⟩ (.int .i64 1)) ⟨gR, 2, none⟩ (.slice (some ⟨gK, 0, none⟩) 64 64)) ⟨gR, 3, none⟩ (.slice (some ⟨gV, 0, none⟩) 1024 1024)) ⟨gR, 4, none⟩ (.int .u32 16777215)) ⟨gR, 5, none⟩ (.int .u32 16777216)) gV 5 _ := ((((((qV.far (p := ⟨gR, 0, none⟩) nRV.symm (.int .u64 1099511627776)).far (p := ⟨gR, 1, none⟩) nRV.symm (.int .i64 1)).far (p := ⟨gR, 2, none⟩) nRV.symm (.slice (some ⟨gK, 0, none⟩) 64 64)).far (p := ⟨gR, 3, none⟩) nRV.symm (.slice (some ⟨gV, 0, none⟩) 1024 1024)).far (p := ⟨gR, 4, none⟩) nRV.symm (.int .u32 16777215)).far (p := ⟨gR, 5, none⟩) nRV.symm (.int .u32 16777216))
        have hb6 := ((((((hb.setCell (p := ⟨gR, 0, none⟩) bR (.int .u64 1099511627776)).setCell (p := ⟨gR, 1, none⟩) bR (.int .i64 1)).setCell (p := ⟨gR, 2, none⟩) bR (.slice (some ⟨gK, 0, none⟩) 64 64)).setCell (p := ⟨gR, 3, none⟩) bR (.slice (some ⟨gV, 0, none⟩) 1024 1024)).setCell (p := ⟨gR, 4, none⟩) bR (.int .u32 16777215)).setCell (p := ⟨gR, 5, none⟩) bR (.int .u32 16777216))
        refine plan_end ?_
        go_wp2_with fail
        go_meet
        case rel => exact ⟨gR, gK, gV, rfl, q6, blk_zeros qK6 (by unfold maxLen; omega), blk_zeros qV6 (by unfold maxLen; omega), hb6⟩
      · skip
        go_wp2_with fail
        have lb := hb.size
        have lR := qR.lt
        have qV := Blk.new x11 5 (madeCells #[.int .u8 0] 1024)
        have qR := qR.alloc (.cells (madeCells #[.int .u8 0] 1024) 5)
        have hb := hb.alloc hb.size (.cells (madeCells #[.int .u8 0] 1024) 5)
        obtain ⟨gV, hgV⟩ : ∃ g, g = x11.heap.size := ⟨_, rfl⟩
        rw [← hgV] at qV ⊢
        have bV : w.heap.size ≤ gV := by omega
        have nRV : gR ≠ gV := by omega
        clear hgV lb lR
        generalize x11.alloc (.cells (madeCells #[.int .u8 0] 1024) 5) = x14 at *
        refine ⟨trivial, ?_⟩
        refine plan_act (by rfl) ?_
        go_wp2_with fail
        have lb := hb.size
        have lR := qR.lt
        have lV := qV.lt
        have qK := Blk.new x14 5 (madeCells #[.int .u8 0] 64)
        have qR := qR.alloc (.cells (madeCells #[.int .u8 0] 64) 5)
        have qV := qV.alloc (.cells (madeCells #[.int .u8 0] 64) 5)
        have hb := hb.alloc hb.size (.cells (madeCells #[.int .u8 0] 64) 5)
        obtain ⟨gK, hgK⟩ : ∃ g, g = x14.heap.size := ⟨_, rfl⟩
        rw [← hgK] at qK ⊢
        have bK : w.heap.size ≤ gK := by omega
        have nKR : gK ≠ gR := by omega
        have nKV : gK ≠ gV := by omega
        clear hgK lb lR lV
        generalize x14.alloc (.cells (madeCells #[.int .u8 0] 64) 5) = x15 at *
        refine ⟨trivial, ?_⟩
        refine plan_read (by rfl) (.agg #[.int .u64 1099511627776, .int .i64 1, .slice (some ⟨gK, 0, none⟩) 64 64, .slice (some ⟨gV, 0, none⟩) 1024 1024, .int .u32 16777215, .int .u32 16777216]) (by rfl) (fun W _ => exec_build rfl (by kernel_rfl)) ?_
        have d0 := qR.cell 0
        have f0 := qR.frozen 0
        have d1 := qR.cell 1
        have f1 := qR.frozen 1
        have d2 := qR.cell 2
        have f2 := qR.frozen 2
        have d3 := qR.cell 3
        have f3 := qR.frozen 3
        have d4 := qR.cell 4
        have f4 := qR.frozen 4
        have d5 := qR.cell 5
        have f5 := qR.frozen 5
        refine plan_last (by rfl) (by kernel_rfl) ?_
        go_wp2_with fail
        have q6 : Blk (World.setCell (World.setCell (World.setCell (World.setCell (World.setCell (World.setCell x15 ⟨gR, 0, none⟩ (.int .u64 1099511627776)) ⟨gR, 1, none⟩ (.int .i64 1)) ⟨gR, 2, none⟩ (.slice (some ⟨gK, 0, none⟩) 64 64)) ⟨gR, 3, none⟩ (.slice (some ⟨gV, 0, none⟩) 1024 1024)) ⟨gR, 4, none⟩ (.int .u32 16777215)) ⟨gR, 5, none⟩ (.int .u32 16777216)) gR 28 #[.int .u64 1099511627776, .int .i64 1, .slice (some ⟨gK, 0, none⟩) 64 64, .slice (some ⟨gV, 0, none⟩) 1024 1024, .int .u32 16777215, .int .u32 16777216] := ((((((qR.set_ 0 (.int .u64 1099511627776)).set_ 1 (.int .i64 1)).set_ 2 (.slice (some ⟨gK, 0, none⟩) 64 64)).set_ 3 (.slice (some ⟨gV, 0, none⟩) 1024 1024)).set_ 4 (.int .u32 16777215)).set_ 5 (.int .u32 16777216))
        have qK6 : Blk (World.setCell (World.setCell (World.setCell (World.setCell (World.setCell (World.setCell x15 ⟨gR, 0, none⟩ (.int .u64 1099511627776)) ⟨gR, 1, none⟩ (.int .i64 1)) ⟨gR, 2, none⟩ (.slice (some ⟨gK, 0, none⟩) 64 64)) ⟨gR, 3, none⟩ (.slice (some ⟨gV, 0, none⟩) 1024 1024)) ⟨gR, 4, none⟩ (.int .u32 16777215)) ⟨gR, 5, none⟩ (.int .u32 16777216)) gK 5 _ := ((((((qK.far (p := ⟨gR, 0, none⟩) nKR (.int .u64 1099511627776)).far (p := ⟨gR, 1, none⟩) nKR (.int .i64 1)).far (p := ⟨gR, 2, none⟩) nKR (.slice (some ⟨gK, 0, none⟩) 64 64)).far (p := ⟨gR, 3, none⟩) nKR (.slice (some ⟨gV, 0, none⟩) 1024 1024)).far (p := ⟨gR, 4, none⟩) nKR (.int .u32 16777215)).far (p := ⟨gR, 5, none⟩) nKR (.int .u32 16777216))
        have qV6 : Blk (World.setCell (World.setCell (World.setCell (World.setCell (World.setCell (World.setCell x15 ⟨gR, 0, none⟩ (.int .u64 1099511627776)) ⟨gR, 1, none⟩ (.int .i64 1)) ⟨gR, 2, none⟩ (.slice (some ⟨gK, 0, none⟩) 64 64)) ⟨gR, 3, none⟩ (.slice (some ⟨gV, 0, none⟩) 1024 1024)) ⟨gR, 4, none⟩ (.int .u32 16777215)) ⟨gR, 5, none⟩ (.int .u32 16777216)) gV 5 _ := ((((((qV.far (p := ⟨gR, 0, none⟩) nRV.symm (.int .u64 1099511627776)).far (p := ⟨gR, 1, none⟩) nRV.symm (.int .i64 1)).far (p := ⟨gR, 2, none⟩) nRV.symm (.slice (some ⟨gK, 0, none⟩) 64 64)).far (p := ⟨gR, 3, none⟩) nRV.symm (.slice (some ⟨gV, 0, none⟩) 1024 1024)).far (p := ⟨gR, 4, none⟩) nRV.symm (.int .u32 16777215)).far (p := ⟨gR, 5, none⟩) nRV.symm (.int .u32 16777216))
        have hb6 := ((((((hb.setCell (p := ⟨gR, 0, none⟩) bR (.int .u64 1099511627776)).setCell (p := ⟨gR, 1, none⟩) bR (.int .i64 1)).setCell (p := ⟨gR, 2, none⟩) bR (.slice (some ⟨gK, 0, none⟩) 64 64)).setCell (p := ⟨gR, 3, none⟩) bR (.slice (some ⟨gV, 0, none⟩) 1024 1024)).setCell (p := ⟨gR, 4, none⟩) bR (.int .u32 16777215)).setCell (p := ⟨gR, 5, none⟩) bR (.int .u32 16777216))
        refine plan_end ?_
        go_wp2_with fail
        go_meet
        case rel => exact ⟨gR, gK, gV, rfl, q6, blk_zeros qK6 (by unfold maxLen; omega), blk_zeros qV6 (by unfold maxLen; omega), hb6⟩
  case rest =>
    obtain ⟨g2, gK, gV, rfl, q2, rK, rV, hb⟩ := hcut
    clear hm1 hm2
    have hT := hT.after hb
    have HP := Lib.hid (putR_yes 1099511627776 1 (List.replicate 64 0) (List.replicate 1024 0) _ 64 64 _ 1024 1024 16777215 16777216 wc hT (by decide) rK rV)
    unfold recV at HP
    have HGr := fun A c W hT' hnc r => Lib.hid (getR_run (runR 1099511627776 1 (List.replicate 64 0) (List.replicate 1024 0) 16777215 16777216) A 1113 c W hT' hnc r 1099511627776 1 (List.replicate 64 0) (List.replicate 1024 0) 16777215 16777216 1113 [] (by decide) (List.append_nil _).symm (by decide))
    unfold RetRec recV at HGr
    rw [show (List.replicate 64 (0 : UInt8)).length = 64 from List.length_replicate .., show (List.replicate 1024 (0 : UInt8)).length = 1024 from List.length_replicate ..] at HGr
    have HSm := fun A n c B m d A' n' c' B' m' d' W h1 h2 h3 h4 => Lib.hid (sameR_any 1099511627776 1 (List.replicate 64 0) (List.replicate 1024 0) A n c B m d 16777215 16777216 1099511627776 1 (List.replicate 64 0) (List.replicate 1024 0) A' n' c' B' m' d' 16777215 16777216 W h1 h2 h3 h4)
    rw [show sameR 1099511627776 1 (List.replicate 64 0) (List.replicate 1024 0) 16777215 16777216 1099511627776 1 (List.replicate 64 0) (List.replicate 1024 0) 16777215 16777216 = true by unfold sameR; simp] at HSm
    unfold recV at HSm
    generalize runR 1099511627776 1 (List.replicate 64 0) (List.replicate 1024 0) 16777215 16777216 = R at *
    generalize List.replicate 64 (0 : UInt8) = ZK at *
    generalize List.replicate 1024 (0 : UInt8) = ZV at *
    have cc0 := q2.cell 0
    have cc1 := q2.cell 1
    have cc2 := q2.cell 2
    have cc3 := q2.cell 3
    have cc4 := q2.cell 4
    have cc5 := q2.cell 5
    go_wp2_with fail
    refine HP.out.mono ?_
    rintro e w1 ⟨v1, rfl, o1, b1⟩
    obtain ⟨g1, c1, rfl, hc1, _⟩ := own_ptr o1 (by omega)
    have r1 := own_rd o1
    clear HP o1
    clear cc0 cc1 cc2 cc3 cc4 cc5
    have q2 := q2.after b1
    have rK := rK.after b1
    have rV := rV.after b1
    have hT := hT.after b1
    have hb := belowGo hb b1
    clear b1
    go_wp2_with fail
    refine (HGr _ _ _ hT hc1 r1).out.mono ?_
    rintro e w2 ⟨hK, hV, rfl, sK, sV, b2⟩
    clear HGr r1
    have q2 := q2.after b2
    have rK := rK.after b2
    have rV := rV.after b2
    have hT := hT.after b2
    have hb := belowGo hb b2
    clear b2
    have kc : (convert 22 22 (.slice (some ⟨w2.heap.size + 1, 0, none⟩) 1 1)).run Tryd.prog ((w2.alloc (.cells #[.int .u64 1099511627776, .int .i64 1, .slice (some ⟨hK, 0, none⟩) 64 64, .slice (some ⟨hV, 0, none⟩) 1024 1024, .int .u32 16777215, .int .u32 16777216] 28)).alloc (.cells #[.int .u8 107] 5)) = .ok (.slice (some ⟨w2.heap.size + 1, 0, none⟩) 1 1) ((w2.alloc (.cells #[.int .u64 1099511627776, .int .i64 1, .slice (some ⟨hK, 0, none⟩) 64 64, .slice (some ⟨hV, 0, none⟩) 1024 1024, .int .u32 16777215, .int .u32 16777216] 28)).alloc (.cells #[.int .u8 107] 5 (1, 2))) := by
      have := Lib.run_convert_bytes_const (P := Tryd.prog) (w2.alloc (.cells #[.int .u64 1099511627776, .int .i64 1, .slice (some ⟨hK, 0, none⟩) 64 64, .slice (some ⟨hV, 0, none⟩) 1024 1024, .int .u32 16777215, .int .u32 16777216] 28)) 22 5 #[.int .u8 107] 1 1 Tryd.underlying22 Tryd.underlying5
      simpa using this
    go_wp2_with fail
    have q5 := ((Blk.new w2 28 #[.int .u64 1099511627776, .int .i64 1, .slice (some ⟨hK, 0, none⟩) 64 64, .slice (some ⟨hV, 0, none⟩) 1024 1024, .int .u32 16777215, .int .u32 16777216]).alloc (.cells #[.int .u8 107] 5 (1, 2))).alloc (.cells #[.int .u64 2, .int .i64 2, .slice (some ⟨w2.heap.size + 1, 0, none⟩) 1 1, .slice none 0 0, .int .u32 1, .int .u32 16] 28)
    have rG := (rd_newF (w2.alloc (.cells #[.int .u64 1099511627776, .int .i64 1, .slice (some ⟨hK, 0, none⟩) 64 64, .slice (some ⟨hV, 0, none⟩) 1024 1024, .int .u32 16777215, .int .u32 16777216] 28)) #[.int .u8 107] 5 (1, 2) [107] rfl (by decide)).allocs (.cells #[.int .u64 2, .int .i64 2, .slice (some ⟨w2.heap.size + 1, 0, none⟩) 1 1, .slice none 0 0, .int .u32 1, .int .u32 16] 28)
    rw [show ((w2.alloc (.cells #[.int .u64 1099511627776, .int .i64 1, .slice (some ⟨hK, 0, none⟩) 64 64, .slice (some ⟨hV, 0, none⟩) 1024 1024, .int .u32 16777215, .int .u32 16777216] 28))).heap.size = w2.heap.size + 1 by simp] at rG
    have q2 := ((q2.alloc (.cells #[.int .u64 1099511627776, .int .i64 1, .slice (some ⟨hK, 0, none⟩) 64 64, .slice (some ⟨hV, 0, none⟩) 1024 1024, .int .u32 16777215, .int .u32 16777216] 28)).alloc (.cells #[.int .u8 107] 5 (1, 2))).alloc (.cells #[.int .u64 2, .int .i64 2, .slice (some ⟨w2.heap.size + 1, 0, none⟩) 1 1, .slice none 0 0, .int .u32 1, .int .u32 16] 28)
    have hT := ((hT.alloc (.cells #[.int .u64 1099511627776, .int .i64 1, .slice (some ⟨hK, 0, none⟩) 64 64, .slice (some ⟨hV, 0, none⟩) 1024 1024, .int .u32 16777215, .int .u32 16777216] 28)).alloc (.cells #[.int .u8 107] 5 (1, 2))).alloc (.cells #[.int .u64 2, .int .i64 2, .slice (some ⟨w2.heap.size + 1, 0, none⟩) 1 1, .slice none 0 0, .int .u32 1, .int .u32 16] 28)
    have rK := ((rK.allocs (.cells #[.int .u64 1099511627776, .int .i64 1, .slice (some ⟨hK, 0, none⟩) 64 64, .slice (some ⟨hV, 0, none⟩) 1024 1024, .int .u32 16777215, .int .u32 16777216] 28)).allocs (.cells #[.int .u8 107] 5 (1, 2))).allocs (.cells #[.int .u64 2, .int .i64 2, .slice (some ⟨w2.heap.size + 1, 0, none⟩) 1 1, .slice none 0 0, .int .u32 1, .int .u32 16] 28)
    have rV := ((rV.allocs (.cells #[.int .u64 1099511627776, .int .i64 1, .slice (some ⟨hK, 0, none⟩) 64 64, .slice (some ⟨hV, 0, none⟩) 1024 1024, .int .u32 16777215, .int .u32 16777216] 28)).allocs (.cells #[.int .u8 107] 5 (1, 2))).allocs (.cells #[.int .u64 2, .int .i64 2, .slice (some ⟨w2.heap.size + 1, 0, none⟩) 1 1, .slice none 0 0, .int .u32 1, .int .u32 16] 28)
    have sK := ((sK.allocs (.cells #[.int .u64 1099511627776, .int .i64 1, .slice (some ⟨hK, 0, none⟩) 64 64, .slice (some ⟨hV, 0, none⟩) 1024 1024, .int .u32 16777215, .int .u32 16777216] 28)).allocs (.cells #[.int .u8 107] 5 (1, 2))).allocs (.cells #[.int .u64 2, .int .i64 2, .slice (some ⟨w2.heap.size + 1, 0, none⟩) 1 1, .slice none 0 0, .int .u32 1, .int .u32 16] 28)
    have sV := ((sV.allocs (.cells #[.int .u64 1099511627776, .int .i64 1, .slice (some ⟨hK, 0, none⟩) 64 64, .slice (some ⟨hV, 0, none⟩) 1024 1024, .int .u32 16777215, .int .u32 16777216] 28)).allocs (.cells #[.int .u8 107] 5 (1, 2))).allocs (.cells #[.int .u64 2, .int .i64 2, .slice (some ⟨w2.heap.size + 1, 0, none⟩) 1 1, .slice none 0 0, .int .u32 1, .int .u32 16] 28)
    have hb := belowAlloc (belowAlloc (belowAlloc hb (.cells #[.int .u64 1099511627776, .int .i64 1, .slice (some ⟨hK, 0, none⟩) 64 64, .slice (some ⟨hV, 0, none⟩) 1024 1024, .int .u32 16777215, .int .u32 16777216] 28)) (.cells #[.int .u8 107] 5 (1, 2))) (.cells #[.int .u64 2, .int .i64 2, .slice (some ⟨w2.heap.size + 1, 0, none⟩) 1 1, .slice none 0 0, .int .u32 1, .int .u32 16] 28)
    obtain ⟨g5, hg5⟩ : ∃ g, g = w2.heap.size := ⟨_, rfl⟩
    obtain ⟨g6, hg6⟩ : ∃ g, g = w2.heap.size + 1 := ⟨_, rfl⟩
    rw [← hg6] at q5 rG q2 hT rK rV sK sV hb ⊢
    rw [← hg5] at q5 ⊢
    clear kc
    generalize (((w2.alloc (.cells #[.int .u64 1099511627776, .int .i64 1, .slice (some ⟨hK, 0, none⟩) 64 64, .slice (some ⟨hV, 0, none⟩) 1024 1024, .int .u32 16777215, .int .u32 16777216] 28)).alloc (.cells #[.int .u8 107] 5 (1, 2))).alloc (.cells #[.int .u64 2, .int .i64 2, .slice (some ⟨g6, 0, none⟩) 1 1, .slice none 0 0, .int .u32 1, .int .u32 16] 28)) = w3 at *
    clear hg5 hg6
    have HQ := Lib.hid (putR_yes 2 2 [107] [] (some ⟨g6, 0, none⟩) 1 1 none 0 0 1 16 w3 hT (by decide) rG (Rd.nil_ _ _ _ _))
    unfold recV at HQ
    generalize runR 2 2 [107] [] 1 16 = R2 at *
    refine HQ.out.mono ?_
    rintro e w4 ⟨v4, rfl, o4, b4⟩
    obtain ⟨g4, c4, rfl, _, _⟩ := own_ptr o4 (by omega)
    clear HQ o4 rG
    have q2 := q2.after b4
    have q5 := q5.after b4
    have rK := rK.after b4
    have rV := rV.after b4
    have sK := sK.after b4
    have sV := sV.after b4
    have hT := hT.after b4
    have hb := belowGo hb b4
    clear b4
    have HN := Lib.hid (getR_none [] none 0 0 w4 hT (Nat.le_refl _) (Rd.nil_ _ _ _ _) 0 22 (getS_short (by decide)) (by decide))
    unfold RetNone recV at HN
    go_wp2_with fail
    refine HN.out.mono ?_
    rintro e w5 ⟨rfl, b5⟩
    clear HN
    have q2 := q2.after b5
    have q5 := q5.after b5
    have rK := rK.after b5
    have rV := rV.after b5
    have sK := sK.after b5
    have sV := sV.after b5
    have hT := hT.after b5
    have hb := belowGo hb b5
    clear b5
    go_wp2_with fail
    have q2 := q2.alloc (.cells #[.int .u64 0, .int .i64 0, .slice none 0 0, .slice none 0 0, .int .u32 0, .int .u32 0] 28)
    have q5 := q5.alloc (.cells #[.int .u64 0, .int .i64 0, .slice none 0 0, .slice none 0 0, .int .u32 0, .int .u32 0] 28)
    have hT := hT.alloc (.cells #[.int .u64 0, .int .i64 0, .slice none 0 0, .slice none 0 0, .int .u32 0, .int .u32 0] 28)
    have rK := rK.allocs (.cells #[.int .u64 0, .int .i64 0, .slice none 0 0, .slice none 0 0, .int .u32 0, .int .u32 0] 28)
    have rV := rV.allocs (.cells #[.int .u64 0, .int .i64 0, .slice none 0 0, .slice none 0 0, .int .u32 0, .int .u32 0] 28)
    have sK := sK.allocs (.cells #[.int .u64 0, .int .i64 0, .slice none 0 0, .slice none 0 0, .int .u32 0, .int .u32 0] 28)
    have sV := sV.allocs (.cells #[.int .u64 0, .int .i64 0, .slice none 0 0, .slice none 0 0, .int .u32 0, .int .u32 0] 28)
    have hb := belowAlloc hb (.cells #[.int .u64 0, .int .i64 0, .slice none 0 0, .slice none 0 0, .int .u32 0, .int .u32 0] 28)
    generalize w5.alloc (.cells #[.int .u64 0, .int .i64 0, .slice none 0 0, .slice none 0 0, .int .u32 0, .int .u32 0] 28) = w6 at *
    refine (B2 _).out.mono ?_
    rintro e y2 ⟨rfl, b6⟩
    clear B2
    have q2 := q2.after b6
    have q5 := q5.after b6
    have rK := rK.after b6
    have rV := rV.after b6
    have sK := sK.after b6
    have sV := sV.after b6
    have hT := hT.after b6
    have hb := belowGo hb b6
    clear b6
    go_wp2_with fail
    refine (B3 _).out.mono ?_
    rintro e y3 ⟨rfl, b6⟩
    clear B3
    have q2 := q2.after b6
    have q5 := q5.after b6
    have rK := rK.after b6
    have rV := rV.after b6
    have sK := sK.after b6
    have sV := sV.after b6
    have hT := hT.after b6
    have hb := belowGo hb b6
    clear b6
    go_wp2_with fail
    refine (B4 _).out.mono ?_
    rintro e y4 ⟨rfl, b6⟩
    clear B4
    have q2 := q2.after b6
    have q5 := q5.after b6
    have rK := rK.after b6
    have rV := rV.after b6
    have sK := sK.after b6
    have sV := sV.after b6
    have hT := hT.after b6
    have hb := belowGo hb b6
    clear b6
    go_wp2_with fail
    refine (B5 _).out.mono ?_
    rintro e y5 ⟨rfl, b6⟩
    clear B5
    have q2 := q2.after b6
    have q5 := q5.after b6
    have rK := rK.after b6
    have rV := rV.after b6
    have sK := sK.after b6
    have sV := sV.after b6
    have hT := hT.after b6
    have hb := belowGo hb b6
    clear b6
    go_wp2_with fail
    refine (B6 _).out.mono ?_
    rintro e y6 ⟨rfl, b6⟩
    clear B6
    have q2 := q2.after b6
    have q5 := q5.after b6
    have rK := rK.after b6
    have rV := rV.after b6
    have sK := sK.after b6
    have sV := sV.after b6
    have hT := hT.after b6
    have hb := belowGo hb b6
    clear b6
    go_wp2_with fail
    refine (B7 _).out.mono ?_
    rintro e y7 ⟨rfl, b6⟩
    clear B7
    have q2 := q2.after b6
    have q5 := q5.after b6
    have rK := rK.after b6
    have rV := rV.after b6
    have sK := sK.after b6
    have sV := sV.after b6
    have hT := hT.after b6
    have hb := belowGo hb b6
    clear b6
    go_wp2_with fail
    refine (B8 _).out.mono ?_
    rintro e y8 ⟨rfl, b6⟩
    clear B8
    have q2 := q2.after b6
    have q5 := q5.after b6
    have rK := rK.after b6
    have rV := rV.after b6
    have sK := sK.after b6
    have sV := sV.after b6
    have hT := hT.after b6
    have hb := belowGo hb b6
    clear b6
    go_wp2_with fail
    refine (B9 _).out.mono ?_
    rintro e y9 ⟨rfl, b6⟩
    clear B9
    have q2 := q2.after b6
    have q5 := q5.after b6
    have rK := rK.after b6
    have rV := rV.after b6
    have sK := sK.after b6
    have sV := sV.after b6
    have hT := hT.after b6
    have hb := belowGo hb b6
    clear b6
    go_wp2_with fail
    refine (B10 _).out.mono ?_
    rintro e y10 ⟨rfl, b6⟩
    clear B10
    have q2 := q2.after b6
    have q5 := q5.after b6
    have rK := rK.after b6
    have rV := rV.after b6
    have sK := sK.after b6
    have sV := sV.after b6
    have hT := hT.after b6
    have hb := belowGo hb b6
    clear b6
    go_wp2_with fail
    refine (B11 _).out.mono ?_
    rintro e y11 ⟨rfl, b6⟩
    clear B11
    have q2 := q2.after b6
    have q5 := q5.after b6
    have rK := rK.after b6
    have rV := rV.after b6
    have sK := sK.after b6
    have sV := sV.after b6
    have hT := hT.after b6
    have hb := belowGo hb b6
    clear b6
    have cc0 := q2.cell 0
    have cc1 := q2.cell 1
    have cc2 := q2.cell 2
    have cc3 := q2.cell 3
    have cc4 := q2.cell 4
    have cc5 := q2.cell 5
    have dd0 := q5.cell 0
    have dd1 := q5.cell 1
    have dd2 := q5.cell 2
    have dd3 := q5.cell 3
    have dd4 := q5.cell 4
    have dd5 := q5.cell 5
    go_wp2_with fail
    refine (HSm _ _ _ _ _ _ _ _ _ _ _ _ _ sK sV rK rV).out.mono ?_
    rintro e z1 ⟨rfl, b7⟩
    have hT := hT.after b7
    have hb := belowGo hb b7
    clear HSm b7 cc0 dd0 cc1 dd1 cc2 dd2 cc3 dd3 cc4 dd4 cc5 dd5
    go_wp2_with fail
    refine (knows_any _ hT).mono ?_
    rintro e z2 ⟨rfl, b8⟩
    go_wp2_with fail
    go_ret
    exact ⟨rfl, belowGo hb b8⟩
end Go.Proofs.YtlnidmjnomoddaaDoor
