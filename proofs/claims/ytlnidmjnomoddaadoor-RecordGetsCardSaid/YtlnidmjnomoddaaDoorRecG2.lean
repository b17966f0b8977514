/- The document's answer, chapter 08: Get. For every bytes. -/
import Derived.Test.YtlnidmjnomoddaaDoorRecG1
import Derived.Test.YtlnidmjnomoddaaDoorRecK
namespace Go.Proofs.YtlnidmjnomoddaaDoor
open Go.RowKit

/-- a row of zeros that is being filled -/
def cpy (l : List UInt8) (n j : Nat) : Array Value := (bcells (l.take j) ++ List.replicate (n - j) (Value.int .u8 0)).toArray
theorem cpy_zero (l : List UInt8) (n : Nat) : cpy l n 0 = madeCells #[.int .u8 0] n := by
  apply Array.toList_inj.1
  rw [madeCells_one]
  simp [cpy, bcells]
theorem cpy_size (l : List UInt8) {n j : Nat} (hj : j ≤ n) (hl : n ≤ l.length) : (cpy l n j).size = n := by
  simp [cpy, bcells_len]
  omega
theorem cpy_get (l : List UInt8) {n j : Nat} (hj : j < n) (hl : n ≤ l.length) : (cpy l n j)[j]? = some (.int .u8 0) := by
  unfold cpy
  rw [List.getElem?_toArray, List.getElem?_append_right (by rw [bcells_len, List.length_take]; omega), bcells_len, List.length_take, Nat.min_eq_left (by omega), Nat.sub_self]
  rw [List.getElem?_replicate]
  simp; omega
theorem cpy_set (l : List UInt8) {n j : Nat} (hj : j < n) (hl : n ≤ l.length) : (cpy l n j).setIfInBounds j (.int .u8 ((l.getD j 0).toNat : Int)) = cpy l n (j + 1) := by
  have hjl : j < l.length := by omega
  apply Array.toList_inj.1
  unfold cpy
  simp only [List.setIfInBounds_toArray]
  have e1 : (bcells (l.take j)).length = j := by rw [bcells_len, List.length_take]; omega
  rw [List.set_append_right _ _ (by omega), e1, Nat.sub_self, show n - j = (n - (j + 1)) + 1 by omega, List.replicate_succ, List.set_cons_zero, List.take_succ_eq_append_getElem hjl, bcells_append]
  simp [bcells, List.getD, hjl]
theorem cpy_full (l : List UInt8) (n : Nat) : cpy l n n = (bcells (l.take n)).toArray := by simp [cpy]

set_option maxRecDepth 100000 in
set_option maxHeartbeats 8000000 in
theorem rgetR_any (l : List UInt8) (A : Option Addr) (n c : Nat) (w : World) (hnc : n ≤ c) (hbig : n ≤ 1000000000000) (h : Rd w w.heap.size 1 A n (bcells l)) :
    Calls Tryd.prog 10 #[.slice A n c] w (RetGet l w) := by
  have hln := h.1
  rw [bcells_len, Nat.mul_one] at hln
  have q2 := (Blk.new w 28 #[.int .u64 0, .int .i64 0, .slice none 0 0, .slice none 0 0, .int .u32 0, .int .u32 0]).alloc (.cells #[.int .u64 0, .int .i64 0, .slice none 0 0, .slice none 0 0, .int .u32 0, .int .u32 0] 28)
  have q5 := Blk.newAt (w.alloc (.cells #[.int .u64 0, .int .i64 0, .slice none 0 0, .slice none 0 0, .int .u32 0, .int .u32 0] 28)) 28 #[.int .u64 0, .int .i64 0, .slice none 0 0, .slice none 0 0, .int .u32 0, .int .u32 0] (g := w.heap.size + 1) (by simp)
  have hb := belowAlloc ((Below.refl w.heap.size w).alloc (Nat.le_refl _) (.cells #[.int .u64 0, .int .i64 0, .slice none 0 0, .slice none 0 0, .int .u32 0, .int .u32 0] 28)) (.cells #[.int .u64 0, .int .i64 0, .slice none 0 0, .slice none 0 0, .int .u32 0, .int .u32 0] 28)
  have hg2 : w.heap.size ≤ w.heap.size := Nat.le_refl _
  by_cases h21 : n < 21
  · have HS := Lib.hid (show getS l = (0, 22) by unfold getS; rw [if_pos (by omega)])
    go_enter Tryd.func10, Tryd.ntmps10
    go_upto_region 3 with (fail)
    generalize (w.alloc (.cells #[.int .u64 0, .int .i64 0, .slice none 0 0, .slice none 0 0, .int .u32 0, .int .u32 0] 28)).alloc (.cells #[.int .u64 0, .int .i64 0, .slice none 0 0, .slice none 0 0, .int .u32 0, .int .u32 0] 28) = w1 at *
    have cc0 := q5.cell 0
    have cc1 := q5.cell 1
    have cc2 := q5.cell 2
    have cc3 := q5.cell 3
    have cc4 := q5.cell 4
    have cc5 := q5.cell 5
    have dd0 := q2.cell 0
    have ff0 := q2.frozen 0
    have dd1 := q2.cell 1
    have ff1 := q2.frozen 1
    have dd2 := q2.cell 2
    have ff2 := q2.frozen 2
    have dd3 := q2.cell 3
    have ff3 := q2.frozen 3
    have dd4 := q2.cell 4
    have ff4 := q2.frozen 4
    have dd5 := q2.cell 5
    have ff5 := q2.frozen 5
    go_wp2_with fail
    exact bodyPost_ret (results_cell3 rfl rfl (res_load (e := 28) (cs := #[.int .u64 0, .int .i64 0, .slice none 0 0, .slice none 0 0, .int .u32 0, .int .u32 0]) ((((((q2.set_ 0 (.int .u64 0)).set_ 1 (.int .i64 0)).set_ 2 (.slice none 0 0)).set_ 3 (.slice none 0 0)).set_ 4 (.int .u32 0)).set_ 5 (.int .u32 0)) Tryd.underlying28 rfl (by kernel_rfl))) rfl (RetGet.no HS.out (by decide) ((((((hb.setCell (p := ⟨w.heap.size, 0, none⟩) hg2 (.int .u64 0)).setCell (p := ⟨w.heap.size, 1, none⟩) hg2 (.int .i64 0)).setCell (p := ⟨w.heap.size, 2, none⟩) hg2 (.slice none 0 0)).setCell (p := ⟨w.heap.size, 3, none⟩) hg2 (.slice none 0 0)).setCell (p := ⟨w.heap.size, 4, none⟩) hg2 (.int .u32 0)).setCell (p := ⟨w.heap.size, 5, none⟩) hg2 (.int .u32 0)))
  · obtain ⟨b, off, rfl, _, _⟩ := h.2.2 (by omega)
    have h21' : (l.take 21).length = 21 := by rw [List.length_take]; omega
    have HR := fun W r => Lib.hid (rright_any (l.take 21) (some ⟨b, off, none⟩) 21 c W (by omega) (by omega) (by omega) r)
    rw [← right_len h21'] at HR
    have i1 : ¬ (n : Int) < 21 := by omega
    have i2 : (21 : Int) ≤ (c : Int) := by omega
    have i3 : 21 ≤ c := by omega
    have r0 := (h.below hb (Nat.le_refl _)).more hb.size
    have rt := r0.btake (k := 21) (by omega)
    have hVl := fun j hj => numH_lt (l := l) (by omega) (j := j) hj
    have v0 := hVl 0 (by omega)
    have v1 := hVl 1 (by omega)
    have v2 := hVl 2 (by omega)
    have v3 := hVl 3 (by omega)
    have v4 := hVl 4 (by omega)
    have v5 := hVl 5 (by omega)
    simp only [sizeC, sizesC, List.getD_cons_zero, List.getD_cons_succ, Nat.reduceMul, Nat.reducePow] at v0 v1 v2 v3 v4 v5
    by_cases hr : rightL (l.take 21) = false
    · have HS := Lib.hid (show getS l = (0, 23) by unfold getS; rw [if_neg (by omega), if_pos hr])
      rw [hr] at HR
      clear hr hVl
      go_enter Tryd.func10, Tryd.ntmps10
      go_wp2_with fail
      generalize (w.alloc (.cells #[.int .u64 0, .int .i64 0, .slice none 0 0, .slice none 0 0, .int .u32 0, .int .u32 0] 28)).alloc (.cells #[.int .u64 0, .int .i64 0, .slice none 0 0, .slice none 0 0, .int .u32 0, .int .u32 0] 28) = w1 at *
      refine (HR _ rt).out.mono ?_
      rintro e w2 ⟨rfl, b1⟩
      have q2 := q2.after b1
      have q5 := q5.after b1
      have hb := hb.trans (b1.mono hb.size)
      clear HR b1
      have cc0 := q5.cell 0
      have cc1 := q5.cell 1
      have cc2 := q5.cell 2
      have cc3 := q5.cell 3
      have cc4 := q5.cell 4
      have cc5 := q5.cell 5
      have dd0 := q2.cell 0
      have ff0 := q2.frozen 0
      have dd1 := q2.cell 1
      have ff1 := q2.frozen 1
      have dd2 := q2.cell 2
      have ff2 := q2.frozen 2
      have dd3 := q2.cell 3
      have ff3 := q2.frozen 3
      have dd4 := q2.cell 4
      have ff4 := q2.frozen 4
      have dd5 := q2.cell 5
      have ff5 := q2.frozen 5
      go_wp2_with fail
      exact bodyPost_ret (results_cell3 rfl rfl (res_load (e := 28) (cs := #[.int .u64 0, .int .i64 0, .slice none 0 0, .slice none 0 0, .int .u32 0, .int .u32 0]) ((((((q2.set_ 0 (.int .u64 0)).set_ 1 (.int .i64 0)).set_ 2 (.slice none 0 0)).set_ 3 (.slice none 0 0)).set_ 4 (.int .u32 0)).set_ 5 (.int .u32 0)) Tryd.underlying28 rfl (by kernel_rfl))) rfl (RetGet.no HS.out (by decide) ((((((hb.setCell (p := ⟨w.heap.size, 0, none⟩) hg2 (.int .u64 0)).setCell (p := ⟨w.heap.size, 1, none⟩) hg2 (.int .i64 0)).setCell (p := ⟨w.heap.size, 2, none⟩) hg2 (.slice none 0 0)).setCell (p := ⟨w.heap.size, 3, none⟩) hg2 (.slice none 0 0)).setCell (p := ⟨w.heap.size, 4, none⟩) hg2 (.int .u32 0)).setCell (p := ⟨w.heap.size, 5, none⟩) hg2 (.int .u32 0)))
    · have hr' : rightL (l.take 21) = true := by simpa using hr
      rw [hr'] at HR
      have hS : getS l = if mayG l = false then (0, 23) else if l.length < sizeG l then (0, 22) else if rightL (l.take (sizeG l)) = false then (sizeG l, 23) else (sizeG l, 0) := by unfold getS; rw [if_neg (by omega), if_neg hr]
      have HG : ∀ gK gV w', getS l = (sizeG l, 0) → Blk w' gK 5 (bcells ((l.drop 21).take (numH l 1))).toArray → Blk w' gV 5 (bcells ((l.drop (21 + numH l 1)).take (numH l 2))).toArray → gK ≠ gV → w.heap.size ≤ gK → w.heap.size ≤ gV → Below w.heap.size w w' →
          RetGet l w (.returned (.tuple #[.agg #[.int .u64 (numH l 3 : Int), .int .i64 (numH l 0 : Int), .slice (some ⟨gK, 0, none⟩) (numH l 1) (numH l 1), .slice (some ⟨gV, 0, none⟩) (numH l 2) (numH l 2), .int .u32 (numH l 4 : Int), .int .u32 (numH l 5 : Int)], .int .i64 (sizeG l : Int), .int .i64 0])) w' :=
        fun gK gV w' e h1 h2 h3 h4 h5 h6 => ⟨.inr ⟨by rw [e], gK, gV, by rw [e]; rfl, h1, h2, h3, h4, h5⟩, h6⟩
      have hsz : sizeG l = 25 + numH l 1 + numH l 2 := rfl
      have N0 := fun W r => Lib.hid (rnumber_any l (some ⟨b, off, none⟩) n c 0 1 W (by omega) (by omega) (by omega) r)
      rw [show numLE ((l.drop 0).take 1) = numH l 0 from rfl] at N0
      have N1 := fun W r => Lib.hid (rnumber_any l (some ⟨b, off, none⟩) n c 1 1 W (by omega) (by omega) (by omega) r)
      rw [show numLE ((l.drop 1).take 1) = numH l 1 from rfl] at N1
      have N2 := fun W r => Lib.hid (rnumber_any l (some ⟨b, off, none⟩) n c 2 2 W (by omega) (by omega) (by omega) r)
      rw [show numLE ((l.drop 2).take 2) = numH l 2 from rfl] at N2
      have N3 := fun W r => Lib.hid (rnumber_any l (some ⟨b, off, none⟩) n c 4 6 W (by omega) (by omega) (by omega) r)
      rw [show numLE ((l.drop 4).take 6) = numH l 3 from rfl] at N3
      have N4 := fun W r => Lib.hid (rnumber_any l (some ⟨b, off, none⟩) n c 10 3 W (by omega) (by omega) (by omega) r)
      rw [show numLE ((l.drop 10).take 3) = numH l 4 from rfl] at N4
      have N5 := fun W r => Lib.hid (rnumber_any l (some ⟨b, off, none⟩) n c 13 4 W (by omega) (by omega) (by omega) r)
      rw [show numLE ((l.drop 13).take 4) = numH l 5 from rfl] at N5
      unfold mayG at hS
      generalize sizeG l = sz at *
      generalize numH l 0 = kd at *
      generalize numH l 1 = lo at *
      generalize numH l 2 = wi at *
      generalize numH l 3 = sq at *
      generalize numH l 4 = sg at *
      generalize numH l 5 = of at *
      have HS := Lib.hid hS
      have HGh := Lib.hid HG
      have HSZ := Lib.hid hsz
      have hml : ∀ k : Nat, k ≤ 65536 → ∀ W : World, (Instr.makeSlice 22 (.int .i64 (k : Int)) (.int .i64 (k : Int))).run Tryd.prog W = .ok (.slice (some ⟨W.heap.size, 0, none⟩) k k) (W.alloc (.cells (madeCells #[.int .u8 0] k) 5)) := fun k hk W =>
        run_make_rowN (P := Tryd.prog) 22 5 ((Tryd.prog.info? 5).get!) (.int .u8 0) Tryd.underlying22 (by kernel_rfl) (by kernel_rfl) .i64 .i64 k k (Nat.le_refl _) (by show 1 * k ≤ _; omega) (by omega) W |>.trans (by rw [show k * ((Tryd.prog.info? 5).get!).size = k from Nat.mul_one k]; rfl)
      have hm1 := hml lo (by omega)
      have hm2 := hml wi (by omega)
      clear hS HG hsz hr hr' hVl h21' hml
      go_enter Tryd.func10, Tryd.ntmps10
      go_wp2_with fail
      generalize (w.alloc (.cells #[.int .u64 0, .int .i64 0, .slice none 0 0, .slice none 0 0, .int .u32 0, .int .u32 0] 28)).alloc (.cells #[.int .u64 0, .int .i64 0, .slice none 0 0, .slice none 0 0, .int .u32 0, .int .u32 0] 28) = w1 at *
      refine (HR _ rt).out.mono ?_
      rintro e w2 ⟨rfl, b1⟩
      have q2 := q2.after b1
      have q5 := q5.after b1
      have hb := hb.trans (b1.mono hb.size)
      clear HR b1 rt r0
      go_upto_region 7 with (fail)
      have hlt6 := q2.lt
      have hlt65 := q5.lt
      have hb6 : w.heap.size ≤ w2.heap.size := hb.size
      have q6 := Blk.new w2 28 #[.int .u64 0, .int .i64 0, .slice none 0 0, .slice none 0 0, .int .u32 0, .int .u32 0]
      have q2 := q2.alloc (.cells #[.int .u64 0, .int .i64 0, .slice none 0 0, .slice none 0 0, .int .u32 0, .int .u32 0] 28)
      have q5 := q5.alloc (.cells #[.int .u64 0, .int .i64 0, .slice none 0 0, .slice none 0 0, .int .u32 0, .int .u32 0] 28)
      have hb := hb.alloc hb.size (.cells #[.int .u64 0, .int .i64 0, .slice none 0 0, .slice none 0 0, .int .u32 0, .int .u32 0] 28)
      obtain ⟨g6, hg6⟩ : ∃ g, g = w2.heap.size := ⟨_, rfl⟩
      rw [← hg6] at q6 hlt6 hlt65 hb6 ⊢
      have h26 : w.heap.size ≠ g6 := by omega
      have h56 : w.heap.size + 1 ≠ g6 := by omega
      clear hg6
      generalize w2.alloc (.cells #[.int .u64 0, .int .i64 0, .slice none 0 0, .slice none 0 0, .int .u32 0, .int .u32 0] 28) = x0 at *
      have ca := q6.cell 1
      have fa := q6.frozen 1
      go_wp2_with fail
      refine (N0 _ ((h.below hb (Nat.le_refl _)).more hb.size)).out.mono ?_
      rintro e wz ⟨rfl, rfl⟩
      clear N0
      go_upto_region 8 with (fail)
      clear ca fa
      have q6 : Blk (World.setCell x0 ⟨g6, 1, none⟩ (.int .i64 (kd : Int))) g6 28 #[.int .u64 0, .int .i64 (kd : Int), .slice none 0 0, .slice none 0 0, .int .u32 0, .int .u32 0] := q6.set_ 1 (.int .i64 (kd : Int))
      have q2 := q2.far (p := ⟨g6, 1, none⟩) h26 (.int .i64 (kd : Int))
      have q5 := q5.far (p := ⟨g6, 1, none⟩) h56 (.int .i64 (kd : Int))
      have hb := hb.setCell (p := ⟨g6, 1, none⟩) hb6 (.int .i64 (kd : Int))
      generalize (World.setCell x0 ⟨g6, 1, none⟩ (.int .i64 (kd : Int))) = x1 at *
      go_wp2_with fail
      refine (N1 _ ((h.below hb (Nat.le_refl _)).more hb.size)).out.mono ?_
      rintro e wz ⟨rfl, rfl⟩
      clear N1
      go_upto_region 9 with (fail)
      go_wp2_with fail
      refine (N2 _ ((h.below hb (Nat.le_refl _)).more hb.size)).out.mono ?_
      rintro e wz ⟨rfl, rfl⟩
      clear N2
      go_upto_region 10 with (fail)
      have ca := q6.cell 0
      have fa := q6.frozen 0
      go_wp2_with fail
      refine (N3 _ ((h.below hb (Nat.le_refl _)).more hb.size)).out.mono ?_
      rintro e wz ⟨rfl, rfl⟩
      clear N3
      go_upto_region 11 with (fail)
      clear ca fa
      have q6 : Blk (World.setCell x1 ⟨g6, 0, none⟩ (.int .u64 (sq : Int))) g6 28 #[.int .u64 (sq : Int), .int .i64 (kd : Int), .slice none 0 0, .slice none 0 0, .int .u32 0, .int .u32 0] := q6.set_ 0 (.int .u64 (sq : Int))
      have q2 := q2.far (p := ⟨g6, 0, none⟩) h26 (.int .u64 (sq : Int))
      have q5 := q5.far (p := ⟨g6, 0, none⟩) h56 (.int .u64 (sq : Int))
      have hb := hb.setCell (p := ⟨g6, 0, none⟩) hb6 (.int .u64 (sq : Int))
      generalize (World.setCell x1 ⟨g6, 0, none⟩ (.int .u64 (sq : Int))) = x2 at *
      have ca := q6.cell 4
      have fa := q6.frozen 4
      go_wp2_with fail
      refine (N4 _ ((h.below hb (Nat.le_refl _)).more hb.size)).out.mono ?_
      rintro e wz ⟨rfl, rfl⟩
      clear N4
      go_upto_region 12 with (fail)
      clear ca fa
      have q6 : Blk (World.setCell x2 ⟨g6, 4, none⟩ (.int .u32 (sg : Int))) g6 28 #[.int .u64 (sq : Int), .int .i64 (kd : Int), .slice none 0 0, .slice none 0 0, .int .u32 (sg : Int), .int .u32 0] := q6.set_ 4 (.int .u32 (sg : Int))
      have q2 := q2.far (p := ⟨g6, 4, none⟩) h26 (.int .u32 (sg : Int))
      have q5 := q5.far (p := ⟨g6, 4, none⟩) h56 (.int .u32 (sg : Int))
      have hb := hb.setCell (p := ⟨g6, 4, none⟩) hb6 (.int .u32 (sg : Int))
      generalize (World.setCell x2 ⟨g6, 4, none⟩ (.int .u32 (sg : Int))) = x3 at *
      have ca := q6.cell 5
      have fa := q6.frozen 5
      go_wp2_with fail
      refine (N5 _ ((h.below hb (Nat.le_refl _)).more hb.size)).out.mono ?_
      rintro e wz ⟨rfl, rfl⟩
      clear N5
      go_upto_region 13 with (fail)
      clear ca fa
      have q6 : Blk (World.setCell x3 ⟨g6, 5, none⟩ (.int .u32 (of : Int))) g6 28 #[.int .u64 (sq : Int), .int .i64 (kd : Int), .slice none 0 0, .slice none 0 0, .int .u32 (sg : Int), .int .u32 (of : Int)] := q6.set_ 5 (.int .u32 (of : Int))
      have q2 := q2.far (p := ⟨g6, 5, none⟩) h26 (.int .u32 (of : Int))
      have q5 := q5.far (p := ⟨g6, 5, none⟩) h56 (.int .u32 (of : Int))
      have hb := hb.setCell (p := ⟨g6, 5, none⟩) hb6 (.int .u32 (of : Int))
      generalize (World.setCell x3 ⟨g6, 5, none⟩ (.int .u32 (of : Int))) = x4 at *
      have ca := q6.cell 2
      have fa := q6.frozen 2
      have z6 := q6.lt
      have z2 := q2.lt
      have z5 := q5.lt
      have zb := hb.size
      go_upto_region 14 with (fail)
      clear ca fa hm1
      have q6 : Blk (World.setCell x4 ⟨g6, 2, none⟩ (.slice (some ⟨x4.heap.size, 0, none⟩) lo lo)) g6 28 #[.int .u64 (sq : Int), .int .i64 (kd : Int), .slice (some ⟨x4.heap.size, 0, none⟩) lo lo, .slice none 0 0, .int .u32 (sg : Int), .int .u32 (of : Int)] := q6.set_ 2 (.slice (some ⟨x4.heap.size, 0, none⟩) lo lo)
      have q2 := q2.far (p := ⟨g6, 2, none⟩) h26 (.slice (some ⟨x4.heap.size, 0, none⟩) lo lo)
      have q5 := q5.far (p := ⟨g6, 2, none⟩) h56 (.slice (some ⟨x4.heap.size, 0, none⟩) lo lo)
      have hb := hb.setCell (p := ⟨g6, 2, none⟩) hb6 (.slice (some ⟨x4.heap.size, 0, none⟩) lo lo)
      have qK := Blk.newAt (World.setCell x4 ⟨g6, 2, none⟩ (.slice (some ⟨x4.heap.size, 0, none⟩) lo lo)) 5 (madeCells #[.int .u8 0] lo) (g := x4.heap.size) (by simp)
      have q6 := q6.alloc (.cells (madeCells #[.int .u8 0] lo) 5)
      have q2 := q2.alloc (.cells (madeCells #[.int .u8 0] lo) 5)
      have q5 := q5.alloc (.cells (madeCells #[.int .u8 0] lo) 5)
      have hb := hb.alloc hb.size (.cells (madeCells #[.int .u8 0] lo) 5)
      obtain ⟨gK, hgK⟩ : ∃ g, g = x4.heap.size := ⟨_, rfl⟩
      rw [← hgK] at q6 q2 q5 qK hb  z6 z2 z5 zb ⊢
      have nK6 : gK ≠ g6 := by omega
      have nK2 : gK ≠ w.heap.size := by omega
      have nK5 : gK ≠ w.heap.size + 1 := by omega
      have bK : w.heap.size ≤ gK := by omega
      clear hgK z6 z2 z5 zb
      generalize ((World.setCell x4 ⟨g6, 2, none⟩ (.slice (some ⟨gK, 0, none⟩) lo lo)).alloc (.cells (madeCells #[.int .u8 0] lo) 5)) = x5 at *
      have ca := q6.cell 3
      have fa := q6.frozen 3
      have z6 := q6.lt
      have z2 := q2.lt
      have z5 := q5.lt
      have zb := hb.size
      have zK := qK.lt
      go_upto_region 15 with (fail)
      clear ca fa hm2
      have qK := qK.far (p := ⟨g6, 3, none⟩) nK6 (.slice (some ⟨x5.heap.size, 0, none⟩) wi wi)
      have q6 : Blk (World.setCell x5 ⟨g6, 3, none⟩ (.slice (some ⟨x5.heap.size, 0, none⟩) wi wi)) g6 28 #[.int .u64 (sq : Int), .int .i64 (kd : Int), .slice (some ⟨gK, 0, none⟩) lo lo, .slice (some ⟨x5.heap.size, 0, none⟩) wi wi, .int .u32 (sg : Int), .int .u32 (of : Int)] := q6.set_ 3 (.slice (some ⟨x5.heap.size, 0, none⟩) wi wi)
      have q2 := q2.far (p := ⟨g6, 3, none⟩) h26 (.slice (some ⟨x5.heap.size, 0, none⟩) wi wi)
      have q5 := q5.far (p := ⟨g6, 3, none⟩) h56 (.slice (some ⟨x5.heap.size, 0, none⟩) wi wi)
      have hb := hb.setCell (p := ⟨g6, 3, none⟩) hb6 (.slice (some ⟨x5.heap.size, 0, none⟩) wi wi)
      have qV := Blk.newAt (World.setCell x5 ⟨g6, 3, none⟩ (.slice (some ⟨x5.heap.size, 0, none⟩) wi wi)) 5 (madeCells #[.int .u8 0] wi) (g := x5.heap.size) (by simp)
      have q6 := q6.alloc (.cells (madeCells #[.int .u8 0] wi) 5)
      have q2 := q2.alloc (.cells (madeCells #[.int .u8 0] wi) 5)
      have q5 := q5.alloc (.cells (madeCells #[.int .u8 0] wi) 5)
      have qK := qK.alloc (.cells (madeCells #[.int .u8 0] wi) 5)
      have hb := hb.alloc hb.size (.cells (madeCells #[.int .u8 0] wi) 5)
      obtain ⟨gV, hgV⟩ : ∃ g, g = x5.heap.size := ⟨_, rfl⟩
      rw [← hgV] at q6 q2 q5 qV hb qK z6 z2 z5 zb zK ⊢
      have nV6 : gV ≠ g6 := by omega
      have nV2 : gV ≠ w.heap.size := by omega
      have nV5 : gV ≠ w.heap.size + 1 := by omega
      have bV : w.heap.size ≤ gV := by omega
      have nKV : gK ≠ gV := by omega
      clear hgV z6 z2 z5 zb zK
      generalize ((World.setCell x5 ⟨g6, 3, none⟩ (.slice (some ⟨gV, 0, none⟩) wi wi)).alloc (.cells (madeCells #[.int .u8 0] wi) 5)) = x6 at *
      have qK : Blk x6 gK 5 (cpy (l.drop 21) lo 0) := by rw [cpy_zero]; exact qK
      have qV : Blk x6 gV 5 (cpy (l.drop (21 + lo)) wi 0) := by rw [cpy_zero]; exact qV
      generalize x6 = y0 at *
      have hHM := fun W => Lib.hid (rmayR_any sq (kd : Int) (some ⟨gK, 0, none⟩) lo lo (some ⟨gV, 0, none⟩) wi wi sg of (by omega) (by omega) W)
      unfold recV at hHM
      generalize mayR sq (kd : Int) lo wi sg of = my at *
      have c0 := q6.cell 0
      have c1 := q6.cell 1
      have c2 := q6.cell 2
      have c3 := q6.cell 3
      have c4 := q6.cell 4
      have c5 := q6.cell 5
      go_wp2_with fail
      refine (hHM _).out.mono ?_
      rintro e w8 ⟨rfl, b8⟩
      have q6 := q6.after b8
      have qK := qK.after b8
      have qV := qV.after b8
      have q2 := q2.after b8
      have q5 := q5.after b8
      have hb := hb.trans (b8.mono hb.size)
      clear c0 c1 c2 c3 c4 c5
      clear b8 hHM
      cases my
      · clear HSZ
        have cc0 := q5.cell 0
        have cc1 := q5.cell 1
        have cc2 := q5.cell 2
        have cc3 := q5.cell 3
        have cc4 := q5.cell 4
        have cc5 := q5.cell 5
        have dd0 := q2.cell 0
        have ff0 := q2.frozen 0
        have dd1 := q2.cell 1
        have ff1 := q2.frozen 1
        have dd2 := q2.cell 2
        have ff2 := q2.frozen 2
        have dd3 := q2.cell 3
        have ff3 := q2.frozen 3
        have dd4 := q2.cell 4
        have ff4 := q2.frozen 4
        have dd5 := q2.cell 5
        have ff5 := q2.frozen 5
        go_wp2_with fail
        exact bodyPost_ret (results_cell3 rfl rfl (res_load (e := 28) (cs := #[.int .u64 0, .int .i64 0, .slice none 0 0, .slice none 0 0, .int .u32 0, .int .u32 0]) ((((((q2.set_ 0 (.int .u64 0)).set_ 1 (.int .i64 0)).set_ 2 (.slice none 0 0)).set_ 3 (.slice none 0 0)).set_ 4 (.int .u32 0)).set_ 5 (.int .u32 0)) Tryd.underlying28 rfl (by kernel_rfl))) rfl (RetGet.no (by have := HS.out; simpa using this) (by decide) ((((((hb.setCell (p := ⟨w.heap.size, 0, none⟩) hg2 (.int .u64 0)).setCell (p := ⟨w.heap.size, 1, none⟩) hg2 (.int .i64 0)).setCell (p := ⟨w.heap.size, 2, none⟩) hg2 (.slice none 0 0)).setCell (p := ⟨w.heap.size, 3, none⟩) hg2 (.slice none 0 0)).setCell (p := ⟨w.heap.size, 4, none⟩) hg2 (.int .u32 0)).setCell (p := ⟨w.heap.size, 5, none⟩) hg2 (.int .u32 0)))
      · skip
        have hsz := HSZ.out
        have e1 : (21 : Int) + (lo : Int) + (wi : Int) + 4 = (sz : Int) := by omega
        have hz1 : 25 + lo + wi ≤ sz := by omega
        have hz2 : sz ≤ 25 + lo + wi := by omega
        clear hsz
        by_cases hns : n < sz
        · have i4 : (n : Int) < (sz : Int) := by omega
          have hS2 : getS l = (0, 22) := by have := HS.out; rw [if_neg (by simp), if_pos (by omega)] at this; exact this
          have HS2 := Lib.hid hS2
          clear hS2 HS HGh HSZ
          have cc0 := q5.cell 0
          have cc1 := q5.cell 1
          have cc2 := q5.cell 2
          have cc3 := q5.cell 3
          have cc4 := q5.cell 4
          have cc5 := q5.cell 5
          have dd0 := q2.cell 0
          have ff0 := q2.frozen 0
          have dd1 := q2.cell 1
          have ff1 := q2.frozen 1
          have dd2 := q2.cell 2
          have ff2 := q2.frozen 2
          have dd3 := q2.cell 3
          have ff3 := q2.frozen 3
          have dd4 := q2.cell 4
          have ff4 := q2.frozen 4
          have dd5 := q2.cell 5
          have ff5 := q2.frozen 5
          go_wp2_with fail
          exact bodyPost_ret (results_cell3 rfl rfl (res_load (e := 28) (cs := #[.int .u64 0, .int .i64 0, .slice none 0 0, .slice none 0 0, .int .u32 0, .int .u32 0]) ((((((q2.set_ 0 (.int .u64 0)).set_ 1 (.int .i64 0)).set_ 2 (.slice none 0 0)).set_ 3 (.slice none 0 0)).set_ 4 (.int .u32 0)).set_ 5 (.int .u32 0)) Tryd.underlying28 rfl (by kernel_rfl))) rfl (RetGet.no HS2.out (by decide) ((((((hb.setCell (p := ⟨w.heap.size, 0, none⟩) hg2 (.int .u64 0)).setCell (p := ⟨w.heap.size, 1, none⟩) hg2 (.int .i64 0)).setCell (p := ⟨w.heap.size, 2, none⟩) hg2 (.slice none 0 0)).setCell (p := ⟨w.heap.size, 3, none⟩) hg2 (.slice none 0 0)).setCell (p := ⟨w.heap.size, 4, none⟩) hg2 (.int .u32 0)).setCell (p := ⟨w.heap.size, 5, none⟩) hg2 (.int .u32 0)))
        · have i4 : ¬ (n : Int) < (sz : Int) := by omega
          have i5 : (sz : Int) ≤ (c : Int) := by omega
          have i6 : sz ≤ c := by omega
          have r9 := (h.below hb (Nat.le_refl _)).more hb.size
          have hlz : (l.take sz).length = sz := by rw [List.length_take]; omega
          have hR2 := Lib.hid (rright_any (l.take sz) (some ⟨b, off, none⟩) sz c _ (by omega) (by omega) i6 (r9.btake (k := sz) (by omega)))
          rw [← right_len hlz] at hR2
          have hS2 : getS l = if rightL (l.take sz) = false then (sz, 23) else (sz, 0) := by have := HS.out; rw [if_neg (by simp), if_neg (by omega)] at this; exact this
          generalize rightL (l.take sz) = rt at *
          have HS2 := Lib.hid hS2
          have HE1 := Lib.hid e1
          clear hS2 HS hlz hns
          go_wp2_with fail
          refine hR2.out.mono ?_
          rintro e w10 ⟨rfl, b10⟩
          have hn21 : 25 + lo + wi ≤ n := by omega
          have q6 := q6.after b10
          have qK := qK.after b10
          have qV := qV.after b10
          have q2 := q2.after b10
          have q5 := q5.after b10
          have hb := hb.trans (b10.mono hb.size)
          clear b10 hR2 r9 e1
          cases rt
          · clear HGh HSZ
            have cc0 := q5.cell 0
            have cc1 := q5.cell 1
            have cc2 := q5.cell 2
            have cc3 := q5.cell 3
            have cc4 := q5.cell 4
            have cc5 := q5.cell 5
            have dd0 := q2.cell 0
            have ff0 := q2.frozen 0
            have dd1 := q2.cell 1
            have ff1 := q2.frozen 1
            have dd2 := q2.cell 2
            have ff2 := q2.frozen 2
            have dd3 := q2.cell 3
            have ff3 := q2.frozen 3
            have dd4 := q2.cell 4
            have ff4 := q2.frozen 4
            have dd5 := q2.cell 5
            have ff5 := q2.frozen 5
            go_wp2_with fail
            exact bodyPost_ret (results_cell3 rfl rfl (res_load (e := 28) (cs := #[.int .u64 0, .int .i64 0, .slice none 0 0, .slice none 0 0, .int .u32 0, .int .u32 0]) ((((((q2.set_ 0 (.int .u64 0)).set_ 1 (.int .i64 0)).set_ 2 (.slice none 0 0)).set_ 3 (.slice none 0 0)).set_ 4 (.int .u32 0)).set_ 5 (.int .u32 0)) Tryd.underlying28 rfl (by kernel_rfl))) rfl (RetGet.no (by have := HS2.out; simpa using this) (by decide) ((((((hb.setCell (p := ⟨w.heap.size, 0, none⟩) hg2 (.int .u64 0)).setCell (p := ⟨w.heap.size, 1, none⟩) hg2 (.int .i64 0)).setCell (p := ⟨w.heap.size, 2, none⟩) hg2 (.slice none 0 0)).setCell (p := ⟨w.heap.size, 3, none⟩) hg2 (.slice none 0 0)).setCell (p := ⟨w.heap.size, 4, none⟩) hg2 (.int .u32 0)).setCell (p := ⟨w.heap.size, 5, none⟩) hg2 (.int .u32 0)))
          · have hS3 : getS l = (sz, 0) := by have := HS2.out; simpa using this
            have HS3 := Lib.hid hS3
            clear hS3 HS2 HSZ HE1 q5
            go_wp2_with fail
            go_loopw [10] (fun i wr => ∃ j : Nat, j ≤ lo ∧ i = .int .i64 (j : Int) ∧ Blk wr gK 5 (cpy (l.drop 21) lo j) ∧ Blk wr gV 5 (cpy (l.drop (21 + lo)) wi 0) ∧ Blk wr g6 28 #[.int .u64 (sq : Int), .int .i64 (kd : Int), .slice (some ⟨gK, 0, none⟩) lo lo, .slice (some ⟨gV, 0, none⟩) wi wi, .int .u32 (sg : Int), .int .u32 (of : Int)] ∧ Blk wr w.heap.size 28 #[.int .u64 0, .int .i64 0, .slice none 0 0, .slice none 0 0, .int .u32 0, .int .u32 0] ∧ Below w.heap.size w wr) (fun i _ => lo - (intOf i).toNat)
            case atStart => exact ⟨0, by omega, rfl, qK, qV, q6, q2, hb⟩
            case round =>
              obtain ⟨j, hj, rfl, qK, qV, q6, q2, hb⟩ := hrel
              by_cases hjn : j < lo
              · have i7 : (j : Int) < (lo : Int) := by omega
                have rj := (h.below hb (Nat.le_refl _)).more hb.size
                have hjl : 21 + j < l.length := by omega
                have hcx := rj.cell rfl (by omega) (bcells_get hjl)
                obtain ⟨p, hp⟩ : ∃ p, p = 21 + j := ⟨_, rfl⟩
                have ep : (21 : Int) + (j : Int) = (p : Int) := by omega
                have hpn : p < n := by omega
                have hgd : l[21 + j]'hjl = (l.drop 21).getD j 0 := by simp [List.getD, List.getElem?_drop, hjl]
                have hst := cpy_set (l.drop 21) hjn (by rw [List.length_drop]; omega)
                have hgt := cpy_get (l.drop 21) hjn (by rw [List.length_drop]; omega)
                rw [← hgd] at hst
                generalize l[21 + j]'hjl = x at *
                rw [← hp] at hcx
                have HST := Lib.hid hst
                clear hst hgd hp hjl rj
                have hcy := qK.cell j
                rw [hgt] at hcy
                have hfy := qK.frozen j
                clear hgt
                go_upto_region 25 with (fail)
                refine wp_region_plan (fun W => Blk W g6 28 #[.int .u64 (sq : Int), .int .i64 (kd : Int), .slice (some ⟨gK, 0, none⟩) lo lo, .slice (some ⟨gV, 0, none⟩) wi wi, .int .u32 (sg : Int), .int .u32 (of : Int)]) [.calms [0, 2, 3, 4, 5, 6], .read 1, .act 7, .calms [8], .act 9] (by kernel_rfl) (by rfl) (by kernel_rfl) (by kernel_rfl) q6 ?_
                have hbd : Below w.heap.size w wr.drew := hb.drew
                have qKd : Blk wr.drew gK 5 _ := qK
                have qVd : Blk wr.drew gV 5 _ := qV
                have q6d : Blk wr.drew g6 28 _ := q6
                have q2d : Blk wr.drew w.heap.size 28 _ := q2
                have hcx : wr.drew.cell? ⟨b, off + p, none⟩ = some (.int .u8 (x.toNat : Int)) := hcx
                have hcy : wr.drew.cell? ⟨gK, j, none⟩ = some (.int .u8 0) := hcy
                have hfy : wr.drew.frozen? ⟨gK, j, none⟩ = false := hfy
                clear hb qK qV q6 q2
                generalize wr.drew = wd at *
                refine plan_calms (by simp [calmRow, need, chk]; rfl) ?_
                go_wp2_with fail
                refine plan_read (by rfl) (.slice (some ⟨gK, 0, none⟩) lo lo) (by rfl) (fun W hW => exec_load rfl rfl (by kernel_rfl) (hW.cell 2)) ?_
                refine plan_act (by rfl) ?_
                go_wp2_with fail
                refine ⟨q6d, plan_calms (by simp [calmRow, need]; rfl) ?_⟩
                go_wp2_with fail
                refine plan_last (by rfl) (by kernel_rfl) ?_
                go_wp2_with fail
                refine plan_end ?_
                have qKn : Blk (wd.setCell ⟨gK, j, none⟩ (.int .u8 (x.toNat : Int))) gK 5 (cpy (l.drop 21) lo (j + 1)) := HST.out ▸ qKd.set_ j (.int .u8 (x.toNat : Int))
                have qVn := qVd.far (p := ⟨gK, j, none⟩) nKV.symm (.int .u8 (x.toNat : Int))
                have q6n := q6d.far (p := ⟨gK, j, none⟩) (Ne.symm nK6) (.int .u8 (x.toNat : Int))
                have q2n := q2d.far (p := ⟨gK, j, none⟩) (Ne.symm nK2) (.int .u8 (x.toNat : Int))
                have hbn := hbd.setCell (p := ⟨gK, j, none⟩) bK (.int .u8 (x.toNat : Int))
                clear hcx hcy hfy qKd qVd q6d q2d hbd
                generalize wd.setCell ⟨gK, j, none⟩ (.int .u8 (x.toNat : Int)) = we at *
                go_wp2_with fail
                go_roundw
                case rel => exact ⟨j + 1, by omega, by go_num, qKn, qVn, q6n, q2n, hbn⟩
                case measure => simp [intOf]; omega
              · obtain rfl : lo = j := by omega
                go_wp2_with fail
                go_loopw [11] (fun i wr => ∃ j : Nat, j ≤ wi ∧ i = .int .i64 (j : Int) ∧ Blk wr gV 5 (cpy (l.drop (21 + lo)) wi j) ∧ Blk wr gK 5 (cpy (l.drop 21) lo lo) ∧ Blk wr g6 28 #[.int .u64 (sq : Int), .int .i64 (kd : Int), .slice (some ⟨gK, 0, none⟩) lo lo, .slice (some ⟨gV, 0, none⟩) wi wi, .int .u32 (sg : Int), .int .u32 (of : Int)] ∧ Blk wr w.heap.size 28 #[.int .u64 0, .int .i64 0, .slice none 0 0, .slice none 0 0, .int .u32 0, .int .u32 0] ∧ Below w.heap.size w wr) (fun i _ => wi - (intOf i).toNat)
                case atStart => exact ⟨0, by omega, rfl, qV, qK, q6, q2, hb⟩
                case round =>
                  obtain ⟨j, hj, rfl, qV, qK, q6, q2, hb⟩ := hrel
                  by_cases hjn : j < wi
                  · have i7 : (j : Int) < (wi : Int) := by omega
                    have rj := (h.below hb (Nat.le_refl _)).more hb.size
                    have hjl : (21 + lo) + j < l.length := by omega
                    have hcx := rj.cell rfl (by omega) (bcells_get hjl)
                    obtain ⟨p, hp⟩ : ∃ p, p = (21 + lo) + j := ⟨_, rfl⟩
                    have ep : (21 : Int) + (lo : Int) + (j : Int) = (p : Int) := by omega
                    have hpn : p < n := by omega
                    have hgd : l[(21 + lo) + j]'hjl = (l.drop (21 + lo)).getD j 0 := by simp [List.getD, List.getElem?_drop, hjl]
                    have hst := cpy_set (l.drop (21 + lo)) hjn (by rw [List.length_drop]; omega)
                    have hgt := cpy_get (l.drop (21 + lo)) hjn (by rw [List.length_drop]; omega)
                    rw [← hgd] at hst
                    generalize l[(21 + lo) + j]'hjl = x at *
                    rw [← hp] at hcx
                    have HST := Lib.hid hst
                    clear hst hgd hp hjl rj
                    have hcy := qV.cell j
                    rw [hgt] at hcy
                    have hfy := qV.frozen j
                    clear hgt
                    go_upto_region 29 with (fail)
                    refine wp_region_plan (fun W => Blk W g6 28 #[.int .u64 (sq : Int), .int .i64 (kd : Int), .slice (some ⟨gK, 0, none⟩) lo lo, .slice (some ⟨gV, 0, none⟩) wi wi, .int .u32 (sg : Int), .int .u32 (of : Int)]) [.calms [0, 2, 3, 4, 5, 6, 7, 8], .read 1, .act 9, .calms [10], .act 11] (by kernel_rfl) (by rfl) (by kernel_rfl) (by kernel_rfl) q6 ?_
                    have hbd : Below w.heap.size w wr.drew := hb.drew
                    have qKd : Blk wr.drew gK 5 _ := qK
                    have qVd : Blk wr.drew gV 5 _ := qV
                    have q6d : Blk wr.drew g6 28 _ := q6
                    have q2d : Blk wr.drew w.heap.size 28 _ := q2
                    have hcx : wr.drew.cell? ⟨b, off + p, none⟩ = some (.int .u8 (x.toNat : Int)) := hcx
                    have hcy : wr.drew.cell? ⟨gV, j, none⟩ = some (.int .u8 0) := hcy
                    have hfy : wr.drew.frozen? ⟨gV, j, none⟩ = false := hfy
                    clear hb qK qV q6 q2
                    generalize wr.drew = wd at *
                    refine plan_calms (by simp [calmRow, need, chk]; rfl) ?_
                    go_wp2_with fail
                    refine plan_read (by rfl) (.slice (some ⟨gV, 0, none⟩) wi wi) (by rfl) (fun W hW => exec_load rfl rfl (by kernel_rfl) (hW.cell 3)) ?_
                    refine plan_act (by rfl) ?_
                    go_wp2_with fail
                    refine ⟨q6d, plan_calms (by simp [calmRow, need]; rfl) ?_⟩
                    go_wp2_with fail
                    refine plan_last (by rfl) (by kernel_rfl) ?_
                    go_wp2_with fail
                    refine plan_end ?_
                    have qVn : Blk (wd.setCell ⟨gV, j, none⟩ (.int .u8 (x.toNat : Int))) gV 5 (cpy (l.drop (21 + lo)) wi (j + 1)) := HST.out ▸ qVd.set_ j (.int .u8 (x.toNat : Int))
                    have qKn := qKd.far (p := ⟨gV, j, none⟩) nKV (.int .u8 (x.toNat : Int))
                    have q6n := q6d.far (p := ⟨gV, j, none⟩) (Ne.symm nV6) (.int .u8 (x.toNat : Int))
                    have q2n := q2d.far (p := ⟨gV, j, none⟩) (Ne.symm nV2) (.int .u8 (x.toNat : Int))
                    have hbn := hbd.setCell (p := ⟨gV, j, none⟩) bV (.int .u8 (x.toNat : Int))
                    clear hcx hcy hfy qKd qVd q6d q2d hbd
                    generalize wd.setCell ⟨gV, j, none⟩ (.int .u8 (x.toNat : Int)) = we at *
                    go_wp2_with fail
                    go_roundw
                    case rel => exact ⟨j + 1, by omega, by go_num, qVn, qKn, q6n, q2n, hbn⟩
                    case measure => simp [intOf]; omega
                  · obtain rfl : wi = j := by omega
                    have c0 := q6.cell 0
                    have c1 := q6.cell 1
                    have c2 := q6.cell 2
                    have c3 := q6.cell 3
                    have c4 := q6.cell 4
                    have c5 := q6.cell 5
                    have d0 := q2.cell 0
                    have f0 := q2.frozen 0
                    have d1 := q2.cell 1
                    have f1 := q2.frozen 1
                    have d2 := q2.cell 2
                    have f2 := q2.frozen 2
                    have d3 := q2.cell 3
                    have f3 := q2.frozen 3
                    have d4 := q2.cell 4
                    have f4 := q2.frozen 4
                    have d5 := q2.cell 5
                    have f5 := q2.frozen 5
                    rw [cpy_full] at qK qV
                    go_wp2_with fail
                    have hbf : Below w.heap.size w (World.setCell (World.setCell (World.setCell (World.setCell (World.setCell (World.setCell wr ⟨w.heap.size, 0, none⟩ (.int .u64 (sq : Int))) ⟨w.heap.size, 1, none⟩ (.int .i64 (kd : Int))) ⟨w.heap.size, 2, none⟩ (.slice (some ⟨gK, 0, none⟩) lo lo)) ⟨w.heap.size, 3, none⟩ (.slice (some ⟨gV, 0, none⟩) wi wi)) ⟨w.heap.size, 4, none⟩ (.int .u32 (sg : Int))) ⟨w.heap.size, 5, none⟩ (.int .u32 (of : Int))) := ((((((hb.setCell (p := ⟨w.heap.size, 0, none⟩) hg2 (.int .u64 (sq : Int))).setCell (p := ⟨w.heap.size, 1, none⟩) hg2 (.int .i64 (kd : Int))).setCell (p := ⟨w.heap.size, 2, none⟩) hg2 (.slice (some ⟨gK, 0, none⟩) lo lo)).setCell (p := ⟨w.heap.size, 3, none⟩) hg2 (.slice (some ⟨gV, 0, none⟩) wi wi)).setCell (p := ⟨w.heap.size, 4, none⟩) hg2 (.int .u32 (sg : Int))).setCell (p := ⟨w.heap.size, 5, none⟩) hg2 (.int .u32 (of : Int)))
                    have qKf : Blk (World.setCell (World.setCell (World.setCell (World.setCell (World.setCell (World.setCell wr ⟨w.heap.size, 0, none⟩ (.int .u64 (sq : Int))) ⟨w.heap.size, 1, none⟩ (.int .i64 (kd : Int))) ⟨w.heap.size, 2, none⟩ (.slice (some ⟨gK, 0, none⟩) lo lo)) ⟨w.heap.size, 3, none⟩ (.slice (some ⟨gV, 0, none⟩) wi wi)) ⟨w.heap.size, 4, none⟩ (.int .u32 (sg : Int))) ⟨w.heap.size, 5, none⟩ (.int .u32 (of : Int))) gK 5 _ := ((((((qK.far (p := ⟨w.heap.size, 0, none⟩) nK2 (.int .u64 (sq : Int))).far (p := ⟨w.heap.size, 1, none⟩) nK2 (.int .i64 (kd : Int))).far (p := ⟨w.heap.size, 2, none⟩) nK2 (.slice (some ⟨gK, 0, none⟩) lo lo)).far (p := ⟨w.heap.size, 3, none⟩) nK2 (.slice (some ⟨gV, 0, none⟩) wi wi)).far (p := ⟨w.heap.size, 4, none⟩) nK2 (.int .u32 (sg : Int))).far (p := ⟨w.heap.size, 5, none⟩) nK2 (.int .u32 (of : Int)))
                    have qVf : Blk (World.setCell (World.setCell (World.setCell (World.setCell (World.setCell (World.setCell wr ⟨w.heap.size, 0, none⟩ (.int .u64 (sq : Int))) ⟨w.heap.size, 1, none⟩ (.int .i64 (kd : Int))) ⟨w.heap.size, 2, none⟩ (.slice (some ⟨gK, 0, none⟩) lo lo)) ⟨w.heap.size, 3, none⟩ (.slice (some ⟨gV, 0, none⟩) wi wi)) ⟨w.heap.size, 4, none⟩ (.int .u32 (sg : Int))) ⟨w.heap.size, 5, none⟩ (.int .u32 (of : Int))) gV 5 _ := ((((((qV.far (p := ⟨w.heap.size, 0, none⟩) nV2 (.int .u64 (sq : Int))).far (p := ⟨w.heap.size, 1, none⟩) nV2 (.int .i64 (kd : Int))).far (p := ⟨w.heap.size, 2, none⟩) nV2 (.slice (some ⟨gK, 0, none⟩) lo lo)).far (p := ⟨w.heap.size, 3, none⟩) nV2 (.slice (some ⟨gV, 0, none⟩) wi wi)).far (p := ⟨w.heap.size, 4, none⟩) nV2 (.int .u32 (sg : Int))).far (p := ⟨w.heap.size, 5, none⟩) nV2 (.int .u32 (of : Int)))
                    exact bodyPost_ret (results_cell3 rfl rfl (res_load (e := 28) (cs := #[.int .u64 (sq : Int), .int .i64 (kd : Int), .slice (some ⟨gK, 0, none⟩) lo lo, .slice (some ⟨gV, 0, none⟩) wi wi, .int .u32 (sg : Int), .int .u32 (of : Int)]) ((((((q2.set_ 0 (.int .u64 (sq : Int))).set_ 1 (.int .i64 (kd : Int))).set_ 2 (.slice (some ⟨gK, 0, none⟩) lo lo)).set_ 3 (.slice (some ⟨gV, 0, none⟩) wi wi)).set_ 4 (.int .u32 (sg : Int))).set_ 5 (.int .u32 (of : Int))) Tryd.underlying28 rfl (by kernel_rfl))) rfl (HGh.out gK gV _ HS3.out qKf qVf nKV bK bV hbf)
end Go.Proofs.YtlnidmjnomoddaaDoor
