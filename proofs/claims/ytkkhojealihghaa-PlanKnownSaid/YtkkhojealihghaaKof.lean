/- Package key: Of. For every row. -/
import Derived.Test.YtkkhojealihghaaWords
import Derived.Test.YtkkhojealihghaaHash2
import Derived.Test.YtkkhojealihghaaKeyM
import Derived.Test.YtkkhojealihghaaRes
import Derived.Test.YtkkhojealihghaaSet9
namespace Go.Proofs.Ytkkhojealihghaa
open Go.RowKit
attribute [local go_sem] Oper.semAt_some

/-- word i of a row; nought beyond it -/
def prW (l : List UInt8) (i : Nat) : Nat := wle ((l.drop (8 * i)).take 8)
theorem prW_zero {l : List UInt8} {i : Nat} (h : l.length ≤ 8 * i) : prW l i = 0 := by unfold prW; rw [List.drop_of_length_le h]; rfl
/-- a print's cells, of which the first k words are laid -/
def prK (l : List UInt8) (k : Nat) : Array Value := ((Value.int .u8 (l.length : Int)) :: (List.range 8).map fun i => Value.int .u64 ((if i < k then prW l i else 0 : Nat) : Int)).toArray
theorem prK_set (l : List UInt8) {k : Nat} (h : k < 8) : (prK l k).setIfInBounds (1 + k) (.int .u64 (prW l k : Int)) = prK l (k + 1) := by
  unfold prK
  apply Array.toList_inj.1
  rw [Array.toList_setIfInBounds]
  apply List.ext_getElem
  · simp
  · intro i h1 h2
    simp only [List.length_set, List.length_cons, List.length_map, List.length_range] at h1
    rw [List.getElem_set]
    cases i with
    | zero => simp
    | succ i =>
      simp only [List.getElem_cons_succ, List.getElem_map, List.getElem_range]
      by_cases hi : i = k
      · subst hi
        rw [if_pos (by omega), if_pos (by omega)]
      · rw [if_neg (by omega)]
        congr 2
        by_cases h3 : i < k
        · rw [if_pos h3, if_pos (by omega)]
        · rw [if_neg h3, if_neg (by omega)]
def prC (l : List UInt8) : Array Value := if mayB l.length then prK l 8 else #[.int .u8 0, .int .u64 0, .int .u64 0, .int .u64 0, .int .u64 0, .int .u64 0, .int .u64 0, .int .u64 0, .int .u64 0]
theorem prK_all (l : List UInt8) {k : Nat} (h : l.length ≤ 8 * k) : prK l k = prK l 8 := by
  unfold prK
  congr 2
  refine List.map_congr_left fun i hi => ?_
  rw [List.mem_range] at hi
  congr 2
  rw [if_pos hi]
  split
  · rfl
  · exact (prW_zero (by omega)).symm

/-- what a round of Of keeps -/
def KofI (l : List UInt8) (w0 : World) (g2 g3 p1 : Nat) (A : Option Addr) (n c : Nat) (pre : List (Nat × Nat)) (W : World) : Prop :=
  Blk W g2 88 #[.int .u8 0, .int .u64 0, .int .u64 0, .int .u64 0, .int .u64 0, .int .u64 0, .int .u64 0, .int .u64 0, .int .u64 0] ∧ Blk W g3 88 (prK l pre.length) ∧ Boxed W p1 23 (.slice A n c) ∧ Below w0.heap.size w0 W

set_option maxRecDepth 100000 in
set_option maxHeartbeats 2000000 in
theorem of_any (l : List UInt8) (A : Option Addr) (n c : Nat) (w : World) (hnc : n ≤ c) (hnn : n ≤ 1000000) (h : Rd w w.heap.size 1 A n (bcells l)) :
    Calls Try.prog 26 #[.slice A n c] w fun e w' => e = .returned (.agg (prC l)) ∧ Below w.heap.size w w' := by
  have hln := h.1
  rw [bcells_len, Nat.mul_one] at hln
  have HM := fun W => Lib.hid (mayK_any A n c W (by omega))
  have HW := fun W => Lib.hid (words_any A n c W)
  refine callsIn_wide (n := 5) |>.1 (callsIn_of_wp_marks Try.func26 rfl trivial ?_ rfl)
  simp only [Try.ntmps26, List.size_toArray, List.length_cons, List.length_nil, Nat.reduceAdd, Nat.reduceSub, Array.replicate_succ, Array.replicate_zero, List.push_toArray, List.append_toArray, List.nil_append, List.cons_append]
  have hb := belowAlloc (belowAlloc (Below.refl w.heap.size w) (.cells #[.int .u8 0, .int .u64 0, .int .u64 0, .int .u64 0, .int .u64 0, .int .u64 0, .int .u64 0, .int .u64 0, .int .u64 0] 88)) (.cells #[.int .u8 0, .int .u64 0, .int .u64 0, .int .u64 0, .int .u64 0, .int .u64 0, .int .u64 0, .int .u64 0, .int .u64 0] 88)
  have q2 := (Blk.new w 88 #[.int .u8 0, .int .u64 0, .int .u64 0, .int .u64 0, .int .u64 0, .int .u64 0, .int .u64 0, .int .u64 0, .int .u64 0]).alloc (.cells #[.int .u8 0, .int .u64 0, .int .u64 0, .int .u64 0, .int .u64 0, .int .u64 0, .int .u64 0, .int .u64 0, .int .u64 0] 88)
  have q3 := Blk.newAt (w.alloc (.cells #[.int .u8 0, .int .u64 0, .int .u64 0, .int .u64 0, .int .u64 0, .int .u64 0, .int .u64 0, .int .u64 0, .int .u64 0] 88)) 88 #[.int .u8 0, .int .u64 0, .int .u64 0, .int .u64 0, .int .u64 0, .int .u64 0, .int .u64 0, .int .u64 0, .int .u64 0] (g := w.heap.size + 1) (by simp)
  gi_wp2_with fail
  have hs : ((w.alloc (.cells #[.int .u8 0, .int .u64 0, .int .u64 0, .int .u64 0, .int .u64 0, .int .u64 0, .int .u64 0, .int .u64 0, .int .u64 0] 88)).alloc (.cells #[.int .u8 0, .int .u64 0, .int .u64 0, .int .u64 0, .int .u64 0, .int .u64 0, .int .u64 0, .int .u64 0, .int .u64 0] 88)).heap.size = w.heap.size + 2 := by simp
  generalize (w.alloc (.cells #[.int .u8 0, .int .u64 0, .int .u64 0, .int .u64 0, .int .u64 0, .int .u64 0, .int .u64 0, .int .u64 0, .int .u64 0] 88)).alloc (.cells #[.int .u8 0, .int .u64 0, .int .u64 0, .int .u64 0, .int .u64 0, .int .u64 0, .int .u64 0, .int .u64 0, .int .u64 0] 88) = W2 at *
  refine ⟨trivial, (callsIn_wide.2 (HM _).out).mono ?_⟩
  rintro e w' ⟨rfl, rfl⟩
  clear HM
  by_cases hm : mayB n = true
  · have hn64 : 1 ≤ n ∧ n ≤ 64 := by unfold mayB at hm; simpa using hm
    have e8 : (n : Int) % 256 = (n : Int) := by omega
    rw [hm]
    have f0 := q3.frozen 0
    have c0 := q3.cell 0
    have HMY := Lib.hid hm
    have HLN := Lib.hid hln
    have H := Lib.hid h
    have HB := Lib.hid hb
    have Q2 := Lib.hid q2
    have Q3 := Lib.hid q3
    have HS := Lib.hid hs
    clear hm hln h hb q2 q3 hs
    gi_wp2_with fail
    have bS := HB.out.setCell (p := ⟨w.heap.size + 1, 0, none⟩) (by show w.heap.size ≤ w.heap.size + 1; omega) (.int .u8 (n : Int))
    have hp0 : prK l 0 = #[.int .u8 (n : Int), .int .u64 0, .int .u64 0, .int .u64 0, .int .u64 0, .int .u64 0, .int .u64 0, .int .u64 0, .int .u64 0] := by unfold prK; rw [HLN.out]; rfl
    have q3 : Blk (W2.setCell ⟨w.heap.size + 1, 0, none⟩ (.int .u8 (n : Int))) (w.heap.size + 1) 88 (prK l 0) := by rw [hp0]; exact Q3.out.set_ 0 (.int .u8 (n : Int))
    have q2 := Q2.out.far (p := ⟨w.heap.size + 1, 0, none⟩) (by simp) (.int .u8 (n : Int))
    have hs3 : (W2.setCell ⟨w.heap.size + 1, 0, none⟩ (.int .u8 (n : Int))).heap.size = w.heap.size + 2 := by rw [← HS.out]; simp [World.setCell]
    generalize W2.setCell ⟨w.heap.size + 1, 0, none⟩ (.int .u8 (n : Int)) = W3 at *
    refine ⟨trivial, (callsIn_wide.2 (HW W3).out).mono ?_⟩
    rintro e w' ⟨rfl, rfl⟩
    have hbx := Boxed.new W3 23 (.slice A n c)
    have q3 := q3.alloc (.cells #[.slice A n c] 23)
    have q2 := q2.alloc (.cells #[.slice A n c] 23)
    have hb := bS.alloc (by omega) (.cells #[.slice A n c] 23)
    have hs4 : (W3.alloc (.cells #[.slice A n c] 23)).heap.size = w.heap.size + 3 := by simp [hs3]
    rw [hs3] at hbx ⊢
    generalize W3.alloc (.cells #[.slice A n c] 23) = W4 at *
    have Q2 := Lib.hid q2
    have Q3 := Lib.hid q3
    have HBX := Lib.hid hbx
    have HB := Lib.hid hb
    have HS := Lib.hid hs4
    have HR := H.out.below hb (Nat.le_refl _)
    have HR := Lib.hid HR
    clear bS q2 q3 hbx hb hs4 hs3 hp0 f0 c0 HW
    gi_wp2_with fail
    refine wpIn_rangeK rfl (by omega) (gf := 40) (lb := #[.pointer (some ⟨w.heap.size + 2, 0, none⟩)]) rfl trivial (enters_of Try.func40 (by kernel_rfl) rfl)
      (encs := fun x : Nat × Nat => #[.int .i64 (x.1 : Nat), .int .u64 (x.2 : Nat)]) (xs := ws l) (Kp := Kp1 w.heap.size (w.heap.size + 2)) (fun h k => h.trans k) ?hKa ?hKp
      (words_seq _ (by omega) l A n c (w.heap.size + 2) w.heap.size hnc hnn W4 HR.out HBX.out) (fun _ => rfl) (KofI l w w.heap.size (w.heap.size + 1) (w.heap.size + 2) A n c) ?hIa ?hIp ?h0
      (fun x => { tmps := #[.slice A n c, undef, .pointer (some ⟨w.heap.size, 0, none⟩), .pointer (some ⟨w.heap.size + 1, 0, none⟩), .int .i64 (x.1 : Nat), .int .u64 (x.2 : Nat), .slice A n c, .bool true, .bool false, undef, .slice A n c, .int .i64 n, .int .u8 n, .pointer (some ⟨w.heap.size + 1, 0, none⟩), .slice A n c,
        .func (.func 40) #[] #[.pointer (some ⟨w.heap.size + 2, 0, none⟩)], .int .i64 (x.1 : Nat), .int .u64 (x.2 : Nat), undef, undef, undef, undef, undef], defers := [] }) ?assign ?body ?done
    case hKa => exact fun X o hX => ⟨(Below.refl _ _).alloc (by have := HS.out; omega) o, Below.heap_alloc _ _ _ (by have := HS.out; omega)⟩
    case hKp => exact fun X k o o' hk ho hc => ⟨kput_below (Below.refl _ _) ho (by have := HS.out; omega), World.putObj_heap_other (by have := HS.out; omega)⟩
    case hIa => exact fun pre X o hi hX => ⟨hi.1.alloc o, hi.2.1.alloc o, (Below.heap_alloc _ _ _ hi.2.2.1.lt).trans hi.2.2.1, hi.2.2.2.alloc (by have := HS.out; omega) o⟩
    case hIp => exact fun pre X k o o' hi hk ho hc => ⟨hi.1.kput ho hc, hi.2.1.kput ho hc, (World.putObj_heap_other (by have := HS.out; omega)).trans hi.2.2.1, kput_below hi.2.2.2 ho (by have := HS.out; omega)⟩
    case h0 => exact ⟨Q2.out, Q3.out, HBX.out, HB.out⟩
    case assign =>
      intro yl x W K hK
      gi_wp2
      exact hK
    case body =>
      rintro yl pre ⟨x, y⟩ W ⟨q2, q3, hbx, hB⟩ hpre
      obtain ⟨hx, hy, hx8⟩ := ws_prefix hpre
      have hln := HLN.out
      have hx7 : x < 8 := by omega
      have i1 : (x : Int) < 8 := by omega
      have fx := q3.frozen (1 + x)
      have cx : W.cell? ⟨w.heap.size + 1, 1 + x, none⟩ = some (.int .u64 ((if x < pre.length then prW l x else 0 : Nat) : Int)) := by
        rw [q3.cell]
        unfold prK
        rw [List.getElem?_toArray, Nat.add_comm, List.getElem?_cons_succ]
        simp [hx7]
      have HX := Lib.hid hx
      have HY := Lib.hid hy
      clear hx hy hpre
      gi_wp2_with fail
      refine ⟨KeepsOthers.setCell _ _ _, ⟨(Below.refl _ _).setCell (p := ⟨w.heap.size + 1, 1 + x, none⟩) (by show w.heap.size ≤ w.heap.size + 1; omega) _, Below.heap_setCell _ _ _ _ (by show w.heap.size + 2 ≠ w.heap.size + 1; omega)⟩, ?_⟩
      refine ⟨q2.far (p := ⟨w.heap.size + 1, 1 + x, none⟩) (by simp) _, ?_, (Below.heap_setCell _ _ _ _ (by show w.heap.size + 2 ≠ w.heap.size + 1; omega)).trans hbx, hB.setCell (p := ⟨w.heap.size + 1, 1 + x, none⟩) (by show w.heap.size ≤ w.heap.size + 1; omega) _⟩
      have hst := q3.set_ (1 + x) (.int .u64 (y : Int))
      rw [HY.out] at hst ⊢
      rw [List.length_append, List.length_singleton]
      have hx := HX.out
      subst hx
      rw [show wle (List.take 8 (List.drop (8 * pre.length) l)) = prW l pre.length from rfl, prK_set l hx7] at hst
      exact hst
    case done =>
      rintro D W hD ⟨q2, q3, hbx, hB⟩ hK
      rw [prK_all l (k := (ws l).length) (by rw [ws_len]; omega)] at q3
      have e9 : prK l 8 = #[.int .u8 (l.length : Int), .int .u64 (prW l 0 : Int), .int .u64 (prW l 1 : Int), .int .u64 (prW l 2 : Int), .int .u64 (prW l 3 : Int), .int .u64 (prW l 4 : Int), .int .u64 (prW l 5 : Int), .int .u64 (prW l 6 : Int), .int .u64 (prW l 7 : Int)] := rfl
      have hpc : prC l = prK l 8 := by unfold prC; rw [HLN.out, HMY.out, if_pos rfl]
      rw [e9] at q3 hpc
      have HPC := Lib.hid hpc
      have a0 := q3.cell 0
      have b0 := q2.cell 0
      have f0 := q2.frozen 0
      have a1 := q3.cell 1
      have b1 := q2.cell 1
      have f1 := q2.frozen 1
      have a2 := q3.cell 2
      have b2 := q2.cell 2
      have f2 := q2.frozen 2
      have a3 := q3.cell 3
      have b3 := q2.cell 3
      have f3 := q2.frozen 3
      have a4 := q3.cell 4
      have b4 := q2.cell 4
      have f4 := q2.frozen 4
      have a5 := q3.cell 5
      have b5 := q2.cell 5
      have f5 := q2.frozen 5
      have a6 := q3.cell 6
      have b6 := q2.cell 6
      have f6 := q2.frozen 6
      have a7 := q3.cell 7
      have b7 := q2.cell 7
      have f7 := q2.frozen 7
      have a8 := q3.cell 8
      have b8 := q2.cell 8
      have f8 := q2.frozen 8
      have Q2 := Lib.hid q2
      have Q3 := Lib.hid q3
      have HB := Lib.hid hB
      clear q2 q3 hB hpc e9
      gi_wp2_with fail
      have hln2 := HLN.out
      generalize l.length = ln at *
      generalize prW l 0 = p0 at *
      generalize prW l 1 = p1 at *
      generalize prW l 2 = p2 at *
      generalize prW l 3 = p3 at *
      generalize prW l 4 = p4 at *
      generalize prW l 5 = p5 at *
      generalize prW l 6 = p6 at *
      generalize prW l 7 = p7 at *
      clear a0 a1 a2 a3 a4 a5 a6 a7 a8 b0 b1 b2 b3 b4 b5 b6 b7 b8 f0 f1 f2 f3 f4 f5 f6 f7 f8
      have hKf := (heap_set9 (W := W) (g := w.heap.size) (D := D) (by have := HS.out; omega) (.int .u8 (ln : Int)) (.int .u64 (p0 : Int)) (.int .u64 (p1 : Int)) (.int .u64 (p2 : Int)) (.int .u64 (p3 : Int)) (.int .u64 (p4 : Int)) (.int .u64 (p5 : Int)) (.int .u64 (p6 : Int)) (.int .u64 (p7 : Int))).trans hK
      have qf := Q2.out.set9 (.int .u8 (ln : Int)) (.int .u64 (p0 : Int)) (.int .u64 (p1 : Int)) (.int .u64 (p2 : Int)) (.int .u64 (p3 : Int)) (.int .u64 (p4 : Int)) (.int .u64 (p5 : Int)) (.int .u64 (p6 : Int)) (.int .u64 (p7 : Int))
      have bf := below_set9 HB.out (Nat.le_refl _) (.int .u8 (ln : Int)) (.int .u64 (p0 : Int)) (.int .u64 (p1 : Int)) (.int .u64 (p2 : Int)) (.int .u64 (p3 : Int)) (.int .u64 (p4 : Int)) (.int .u64 (p5 : Int)) (.int .u64 (p6 : Int)) (.int .u64 (p7 : Int))
      generalize (World.setCell (World.setCell (World.setCell (World.setCell (World.setCell (World.setCell (World.setCell (World.setCell (World.setCell W ⟨w.heap.size, 0, none⟩ (.int .u8 (ln : Int))) ⟨w.heap.size, 1, none⟩ (.int .u64 (p0 : Int))) ⟨w.heap.size, 2, none⟩ (.int .u64 (p1 : Int))) ⟨w.heap.size, 3, none⟩ (.int .u64 (p2 : Int))) ⟨w.heap.size, 4, none⟩ (.int .u64 (p3 : Int))) ⟨w.heap.size, 5, none⟩ (.int .u64 (p4 : Int))) ⟨w.heap.size, 6, none⟩ (.int .u64 (p5 : Int))) ⟨w.heap.size, 7, none⟩ (.int .u64 (p6 : Int))) ⟨w.heap.size, 8, none⟩ (.int .u64 (p7 : Int))) = Wf at *
      refine ⟨by simp, .inl ⟨_, _, rfl, run_takeDeferred hKf, ?_⟩⟩
      exact ⟨_, results_cell1 rfl rfl (res_load (qf.kput hKf rfl) Try.underlying88 rfl (by kernel_rfl)), by rw [HPC.out], kput_below bf hKf (by have := HS.out; omega)⟩
  · have hm : mayB n = false := by simpa using hm
    rw [hm]
    have hpc : prC l = #[.int .u8 0, .int .u64 0, .int .u64 0, .int .u64 0, .int .u64 0, .int .u64 0, .int .u64 0, .int .u64 0, .int .u64 0] := by unfold prC; rw [hln, hm]; rfl
    have HPC := Lib.hid hpc
    have a0 := q3.cell 0
    have b0 := q2.cell 0
    have f0 := q2.frozen 0
    have a1 := q3.cell 1
    have b1 := q2.cell 1
    have f1 := q2.frozen 1
    have a2 := q3.cell 2
    have b2 := q2.cell 2
    have f2 := q2.frozen 2
    have a3 := q3.cell 3
    have b3 := q2.cell 3
    have f3 := q2.frozen 3
    have a4 := q3.cell 4
    have b4 := q2.cell 4
    have f4 := q2.frozen 4
    have a5 := q3.cell 5
    have b5 := q2.cell 5
    have f5 := q2.frozen 5
    have a6 := q3.cell 6
    have b6 := q2.cell 6
    have f6 := q2.frozen 6
    have a7 := q3.cell 7
    have b7 := q2.cell 7
    have f7 := q2.frozen 7
    have a8 := q3.cell 8
    have b8 := q2.cell 8
    have f8 := q2.frozen 8
    have HB := Lib.hid hb
    have Q2 := Lib.hid q2
    clear hb q2 q3 hpc hm HW hln h
    gi_wp2_with fail
    have qf := Q2.out.set9 (.int .u8 0) (.int .u64 0) (.int .u64 0) (.int .u64 0) (.int .u64 0) (.int .u64 0) (.int .u64 0) (.int .u64 0) (.int .u64 0)
    have bf := below_set9 HB.out (Nat.le_refl _) (.int .u8 0) (.int .u64 0) (.int .u64 0) (.int .u64 0) (.int .u64 0) (.int .u64 0) (.int .u64 0) (.int .u64 0) (.int .u64 0)
    generalize (World.setCell (World.setCell (World.setCell (World.setCell (World.setCell (World.setCell (World.setCell (World.setCell (World.setCell W2 ⟨w.heap.size, 0, none⟩ (.int .u8 0)) ⟨w.heap.size, 1, none⟩ (.int .u64 0)) ⟨w.heap.size, 2, none⟩ (.int .u64 0)) ⟨w.heap.size, 3, none⟩ (.int .u64 0)) ⟨w.heap.size, 4, none⟩ (.int .u64 0)) ⟨w.heap.size, 5, none⟩ (.int .u64 0)) ⟨w.heap.size, 6, none⟩ (.int .u64 0)) ⟨w.heap.size, 7, none⟩ (.int .u64 0)) ⟨w.heap.size, 8, none⟩ (.int .u64 0)) = Wf at *
    refine ⟨_, results_cell1 rfl rfl (res_load qf Try.underlying88 rfl (by kernel_rfl)), by rw [HPC.out], bf⟩
end Go.Proofs.Ytkkhojealihghaa
