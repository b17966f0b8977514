/- ScanAll: true. No condition but the tables. -/
import Derived.Test.YtfapipamohlniaaDoorScMore
import Derived.Test.YtfapipamohlniaaDoorScCutLaw
namespace Go.Proofs.YtfapipamohlniaaDoor
open Go.RowKit

theorem of_segX {l : List PlX} {m : Nat} (hm : m ≤ l.length) (h20 : m ≤ 20) (hf : ∀ x ∈ l, x.fits) (A : Option Addr) (c : Nat) (w : World) (hT : TabR w) (hc : offX l m ≤ c) (h : Rd w w.heap.size 1 A (offX l m) (bcells (segX l m))) :
    Calls Tryd.prog 9 #[.int .u32 7, .slice A (offX l m) c] w fun e w' => ∃ AF cF AP cP X, e = .returned (.agg #[.int .u32 7, .slice AF m cF, .slice AP 0 cP, .int .i64 (offX l m : Int), .int .i64 0]) ∧
      ScRow w.heap.size (segX l m) 7 (scX l m) (.slice AF m cF) (.slice AP 0 cP) X w' ∧ X.length = m ∧ Below w.heap.size w w' := by
  have h1 := of_any 7 (segX l m) A (offX l m) c w hT hc h (by have := (offX_le l m).2; omega)
  refine h1.mono ?_
  unfold RetSc
  rw [ofS_segX hm h20 hf]
  rintro e w' ⟨vF, vP, X, rfl, s, b⟩
  have hX := scX_len l m s
  obtain ⟨AF, cF, rfl⟩ := own_slice s.2.1
  obtain ⟨AP, cP, rfl⟩ := own_slice s.2.2.1
  rw [hX] at s ⊢
  exact ⟨AF, cF, AP, cP, X, rfl, s, hX, b⟩
theorem of_cut {l : List PlX} {m k : Nat} (hm : m ≤ l.length) (h20 : m ≤ 20) (hf : ∀ x ∈ l, x.fits) (hk : k ≤ offX l m) (A : Option Addr) (c : Nat) (w : World) (hT : TabR w) (hc : k ≤ c) (h : Rd w w.heap.size 1 A k (bcells ((segX l m).take k))) :
    Calls Tryd.prog 9 #[.int .u32 7, .slice A k c] w fun e w' => ∃ AF cF AP cP, e = .returned (.agg #[.int .u32 7, .slice AF (cutX l m k).fd.length cF, .slice AP 0 cP, .int .i64 ((cutX l m k).en : Int), .int .i64 ((cutX l m k).wy : Int)]) ∧ Below w.heap.size w w' := by
  have h1 := of_any 7 ((segX l m).take k) A k c w hT hc h (by have := (offX_le l m).2; omega)
  refine h1.mono ?_
  unfold RetSc
  rw [ofS_cut hm h20 hf hk]
  rintro e w' ⟨vF, vP, X, rfl, s, b⟩
  have hX : X.length = (cutX l m k).fd.length := by rw [← s.1, List.length_map]
  have hP : (cutX l m k).ps = [] := by unfold cutX; split <;> rfl
  obtain ⟨AF, cF, rfl⟩ := own_slice s.2.1
  obtain ⟨AP, cP, rfl⟩ := own_slice s.2.2.1
  rw [hX, hP]
  exact ⟨AF, cF, AP, cP, rfl, b⟩
theorem of_other {l : List PlX} {m q : Nat} (hq : q ≠ 7) (A : Option Addr) (c : Nat) (w : World) (hT : TabR w) (h20 : m ≤ 20) (hc : offX l m ≤ c) (h : Rd w w.heap.size 1 A (offX l m) (bcells (segX l m))) :
    Calls Tryd.prog 9 #[.int .u32 (q : Int), .slice A (offX l m) c] w fun e w' => ∃ AF cF AP cP, e = .returned (.agg #[.int .u32 (q : Int), .slice AF 0 cF, .slice AP 0 cP, .int .i64 0, .int .i64 23]) ∧ Below w.heap.size w w' := by
  have h1 := of_any q (segX l m) A (offX l m) c w hT hc h (by have := (offX_le l m).2; omega)
  refine h1.mono ?_
  unfold RetSc
  rw [ofS_other hq]
  rintro e w' ⟨vF, vP, X, rfl, s, b⟩
  have hX : X.length = 0 := by rw [← List.length_map (f := FX.off), s.1]; rfl
  obtain ⟨AF, cF, rfl⟩ := own_slice s.2.1
  obtain ⟨AP, cP, rfl⟩ := own_slice s.2.2.1
  rw [hX]
  exact ⟨AF, cF, AP, cP, rfl, b⟩
theorem cutX_len (l : List PlX) (m k : Nat) : (cutX l m k).fd.length = whX l k m := by
  unfold cutX
  split
  · rename_i h
    rw [whX_small l h]
    rfl
  · simp
theorem lost_own {l : List PlX} {m : Nat} (hm : m ≤ l.length) (h20 : m ≤ 20) (hf : ∀ x ∈ l, x.fits) {w : World} {g lo : Nat} {A : Option Addr} {c : Nat} {P : Option Addr} {d : Nat} {X : List FX} (h : ScBl l m w g lo A c P d X) :
    Calls Tryd.prog 10 #[.agg #[.int .u32 7, .slice A m c, .slice P 0 d, .int .i64 (offX l m : Int), .int .i64 0], .agg #[.int .u32 7, .int .u32 (offX l m : Int), .int .u32 (m : Int), .int .u64 (firstX l m : Int), .int .u64 (seqL (l.take m) : Int)]] w (RetLost [] w) := by
  have := lost_segX (Nat.le_refl m) hm h20 hf h
  rw [if_pos rfl] at this
  exact this
theorem plan_skip2 {P : Program} {ops : Array Oper} {I : World → Prop} {R : List Nat} {K : Act → World → Prop} {σ : Tree} {a : Act} {w : World} {i : Nat} {o : Oper} (d : Option Tmp) (ho : ops[i]? = some o) (hd : o.dst = d) (hw : Region.wanted o (yielded ops a.tmps) = false) (h : Plan P ops I R K σ (a.put d undef) w) : Plan P ops I R K (.read i σ) a w := by
  subst hd
  exact plan_skip ho hw h
theorem blk_at {w : World} {g : Nat} {t : TypeId} {cs : Array Value} (h : Blk w g t cs) (k n : Nat) : At w g k ((cs.toList.drop k).take n) := fun j v hv => by
  rw [List.getElem?_take] at hv
  split at hv
  · rw [List.getElem?_drop, Array.getElem?_toList] at hv
    rw [h.cell, hv]
  · cases hv
theorem pl_cell {l : List PlX} {m : Nat} {w : World} {lo gU c : Nat} (h : Ow w lo 48 3 (.slice (some ⟨gU, 0, none⟩) m c) m (plCells l m)) {i : Nat} (hi : i < m) :
    w.cell? ⟨gU, i * 3, none⟩ = some (.int .i64 (offX l i : Int)) ∧ w.cell? ⟨gU, i * 3 + 1, none⟩ = some (.int .i64 (offX l (i + 1) : Int)) ∧ w.cell? ⟨gU, i * 3 + 2, none⟩ = some (.int .u64 (seqL (l.take (i + 1)) : Int)) := by
  have hc : ∀ j, j < 3 → ∀ v, (plRow l i)[j]? = some v → w.cell? ⟨gU, i * 3 + j, none⟩ = some v := fun j hj v hv => by
    have := h.cell rfl (by omega) (j := i * 3 + j) (x := v) (by rw [plCells_get l hi hj]; exact hv)
    rwa [Nat.zero_add] at this
  exact ⟨hc 0 (by omega) _ rfl, hc 1 (by omega) _ rfl, hc 2 (by omega) _ rfl⟩
theorem FRow.key0 {w : World} {g i off len q gK gV : Nat} {a b : List UInt8} (h : FRow w g i off len q a b gK gV) {x : UInt8} {r : List UInt8} (ha : a = x :: r) : w.cell? ⟨gK, 0, none⟩ = some (.int .u8 (x.toNat : Int)) := by
  subst ha
  have := h.rK.cell rfl (by simp) (j := 0) (u := .int .u8 (x.toNat : Int)) rfl
  rwa [Nat.zero_add] at this
/-- behind the two scans -/
def RTwo (l : List PlX) (m k : Nat) (w0 : World) (v10 v11 : Value) (wx : World) : Prop := ∃ gX gY lo AF cF AP cP X AG cG AQ cQ, v10 = .pointer (some ⟨gX, 0, none⟩) ∧ v11 = .pointer (some ⟨gY, 0, none⟩) ∧ ScBl l m wx gX lo AF cF AP cP X ∧
  Blk wx gY 33 #[.int .u32 7, .slice AG (whX l k m) cG, .slice AQ 0 cQ, .int .i64 ((cutX l m k).en : Int), .int .i64 ((cutX l m k).wy : Int)] ∧ Below w0.heap.size w0 wx
theorem neq_loc2 (s o : Nat) (p q : Operand) (w : World) (x : Value) (hx : x = .int .u32 (o : Int)) : (do eqGuard .neq 42 p q (.agg #[.int .u32 (s : Int), .int .u32 (o : Int)]) (.agg #[.int .u32 (s : Int), x]); binOp .neq 42 (.agg #[.int .u32 (s : Int), .int .u32 (o : Int)]) (.agg #[.int .u32 (s : Int), x]) : Sem Value).run Tryd.prog w = .ok (.bool false) w := by
  subst hx
  exact neq_loc s o p q w

set_option maxRecDepth 100000 in
set_option maxHeartbeats 8000000 in
theorem all_walk (l : List PlX) (A : Option Addr) (n c ct q : Nat) (w : World) (hT : TabR w) (hl : l.length = n) (hf : ∀ x ∈ l, x.fits) (hr : Rd w w.heap.size 3 A n (l.flatMap PlX.cells)) (hct : ct < 65536) (hq32 : q < 4294967296) :
    Calls Tryd.prog 3 #[.slice A n c, .int .u16 (ct : Int), .int .u32 (q : Int)] w fun e w' => e = .returned (.bool true) ∧ Below w.heap.size w w' := by
  have H1 := lays_any l A n c w hl hf hr
  obtain ⟨m, hm⟩ : ∃ m, m = min n 20 := ⟨_, rfl⟩
  rw [← hm] at H1
  have hml : m ≤ l.length := by omega
  have hm20 : m ≤ 20 := by omega
  obtain ⟨k, hk⟩ : ∃ k, k = ct % (offX l m + 1) := ⟨_, rfl⟩
  have hkm : k ≤ offX l m := by have := Nat.mod_lt ct (show 0 < offX l m + 1 by omega); omega
  have ek : (ct : Int) % ((offX l m : Int) + 1) = (k : Int) := by rw [hk]; simp
  have hom := (offX_le l m).2
  have hm1 : ((offX l m : Int) + 1) ≠ 0 := by omega
  have hm2 : (offX l m : Int) + 1 < 9223372036854775808 := by omega
  have H1 := Lib.hid H1
  clear hm hk hr hl
  go_enter Tryd.func3, Tryd.ntmps3
  go_wp2_with fail
  refine H1.out.mono ?_
  rintro e w1 ⟨v, u, rfl, ob, ou, b1⟩
  clear H1
  obtain ⟨Ab, cb, rfl, hcb⟩ := own_cap ob
  obtain ⟨Au, cu, rfl⟩ := own_slice ou
  have hT1 := hT.after b1
  have RB := Lib.hid (own_rd ob)
  have OU : Hid (Ow _ _ _ _ _ _ _) := Lib.hid ou
  have HB0 := Lib.hid b1
  have HT := Lib.hid hT1
  clear ob ou b1 hT1 hT
  have hkc : (k : Int) ≤ (cb : Int) := by omega
  go_upto_region 3 with (fail)
  rw [ek]
  clear ek hm1 hm2
  go_cut [10, 11] from 30 to 35 (fun v10 v11 wx => RTwo l m k w1 v10 v11 wx)
  case first =>
    have hc0 := Below.drew_ w1
    refine wp_region_tree (fun W => Below w1.heap.size w1 W) (row [.calms [0, 2, 3, 4]] (.fork3 1 (row [] (.fork3 5 (row [] (.fork 6 (row [.act 7, .act 8, .act 9] .done) 7 (row [.act 6, .act 8, .act 9] .done))) 6 (row [] (.fork 5 (row [.act 7, .act 8, .act 9] .done) 7 (row [.act 5, .act 8, .act 9] .done))) 7 (row [] (.fork 5 (row [.act 6, .act 8, .act 9] .done) 6 (row [.act 5, .act 8, .act 9] .done))))) 6 (row [] (.fork 1 (row [] (.fork 5 (row [.act 7, .act 8, .act 9] .done) 7 (row [.act 5, .act 8, .act 9] .done))) 7 (row [.act 1, .act 5, .act 8, .act 9] .done))) 7 (row [] (.fork 1 (row [] (.fork 5 (row [.act 6, .act 8, .act 9] .done) 6 (row [.act 5, .act 8, .act 9] .done))) 6 (row [.act 1, .act 5, .act 8, .act 9] .done))))) (by kernel_rfl) (by rfl) (by kernel_rfl) (by kernel_rfl) hc0 ?_
    have HC := Lib.hid hc0
    clear hc0
    generalize w1.drew = wd at *
    have HB := HC
    clear HC
    refine plan_calms (by simp [calmRow, need]; rfl) ?_
    go_wp2_with fail
    refine plan_fork3 (by rfl) (by rfl) (by rfl) ?_ ?_ ?_
    · skip
      go_wp2_with fail
      refine (Lib.hid (of_segX hml hm20 hf Ab cb _ (HT.out.after HB.out) hcb (RB.out.after HB.out))).out.mono ?_
      rintro e y1 ⟨AF, cF, AP, cP, X, rfl, sX, hX, hBe⟩
      have HB := Lib.hid (belowGo HB.out hBe)
      clear hBe
      go_wp2_with fail
      have RX := Lib.hid sX
      clear sX
      refine ⟨HB.out, ?_⟩
      refine plan_fork3 (by rfl) (by rfl) (by rfl) ?_ ?_ ?_
      · skip
        go_wp2_with fail
        refine (Lib.hid (of_cut hml hm20 hf hkm Ab cb _ (HT.out.after HB.out) (by omega) ((RB.out.after HB.out).btake hkm))).out.mono ?_
        rw [cutX_len]
        rintro e y2 ⟨AG, cG, AQ, cQ, rfl, hBe⟩
        have HB := Lib.hid (belowGo HB.out hBe)
        have RX := Lib.hid (RX.out.after hBe)
        clear hBe
        go_wp2_with fail
        refine ⟨HB.out, ?_⟩
        refine plan_fork (by rfl) (by rfl) ?_ ?_
        · skip
          go_wp2_with fail
          have hBe := (Below.refl _ y2).alloc (Nat.le_refl _) (.cells #[.int .u32 0, .slice none 0 0, .slice none 0 0, .int .i64 0, .int .i64 0] 33)
          have qA := Blk.new y2 33 #[.int .u32 0, .slice none 0 0, .slice none 0 0, .int .i64 0, .int .i64 0]
          have hsz := HB.out.size
          obtain ⟨gA, hgA⟩ : ∃ g, g = y2.heap.size := ⟨_, rfl⟩
          rw [← hgA] at qA ⊢
          have bA : w1.heap.size ≤ gA := by omega
          have HB := Lib.hid (belowGo HB.out hBe)
          have RX := Lib.hid (RX.out.after hBe)
          have QA := Lib.hid qA
          clear hgA hsz hBe qA 
          generalize y2.alloc (.cells #[.int .u32 0, .slice none 0 0, .slice none 0 0, .int .i64 0, .int .i64 0] 33) = y3 at *
          refine ⟨HB.out, ?_⟩
          refine plan_last (by rfl) (by kernel_rfl) ?_
          go_wp2_with fail
          have lA := QA.out.lt
          have hBe := (Below.refl _ y3).alloc (Nat.le_refl _) (.cells #[.int .u32 0, .slice none 0 0, .slice none 0 0, .int .i64 0, .int .i64 0] 33)
          have qB := Blk.new y3 33 #[.int .u32 0, .slice none 0 0, .slice none 0 0, .int .i64 0, .int .i64 0]
          have hsz := HB.out.size
          obtain ⟨gB, hgB⟩ : ∃ g, g = y3.heap.size := ⟨_, rfl⟩
          rw [← hgB] at qB ⊢
          have bB : w1.heap.size ≤ gB := by omega
          have nAB : gA ≠ gB := by omega
          have HB := Lib.hid (belowGo HB.out hBe)
          have RX := Lib.hid (RX.out.after hBe)
          have QA := Lib.hid (QA.out.after hBe)
          have QB := Lib.hid qB
          clear hgB hsz hBe qB lA
          generalize y3.alloc (.cells #[.int .u32 0, .slice none 0 0, .slice none 0 0, .int .i64 0, .int .i64 0] 33) = y4 at *
          refine plan_last (by rfl) (by kernel_rfl) ?_
          have d0 := QA.out.cell 0
          have f0 := QA.out.frozen 0
          have d1 := QA.out.cell 1
          have f1 := QA.out.frozen 1
          have d2 := QA.out.cell 2
          have f2 := QA.out.frozen 2
          have d3 := QA.out.cell 3
          have f3 := QA.out.frozen 3
          have d4 := QA.out.cell 4
          have f4 := QA.out.frozen 4
          go_wp2_with fail
          have HB := Lib.hid (((((HB.out.setCell (p := ⟨gA, 0, none⟩) bA (.int .u32 7)).setCell (p := ⟨gA, 1, none⟩) bA (.slice AF m cF)).setCell (p := ⟨gA, 2, none⟩) bA (.slice AP 0 cP)).setCell (p := ⟨gA, 3, none⟩) bA (.int .i64 (offX l m : Int))).setCell (p := ⟨gA, 4, none⟩) bA (.int .i64 0))
          have RX := Lib.hid (ScRow.set (ScRow.set (ScRow.set (ScRow.set (ScRow.set RX.out QA.out 0 (.int .u32 7)) (QA.out.set_ 0 (.int .u32 7)) 1 (.slice AF m cF)) ((QA.out.set_ 0 (.int .u32 7)).set_ 1 (.slice AF m cF)) 2 (.slice AP 0 cP)) (((QA.out.set_ 0 (.int .u32 7)).set_ 1 (.slice AF m cF)).set_ 2 (.slice AP 0 cP)) 3 (.int .i64 (offX l m : Int))) ((((QA.out.set_ 0 (.int .u32 7)).set_ 1 (.slice AF m cF)).set_ 2 (.slice AP 0 cP)).set_ 3 (.int .i64 (offX l m : Int))) 4 (.int .i64 0))
          have QB := Lib.hid (((((QB.out.far (p := ⟨gA, 0, none⟩) nAB.symm (.int .u32 7)).far (p := ⟨gA, 1, none⟩) nAB.symm (.slice AF m cF)).far (p := ⟨gA, 2, none⟩) nAB.symm (.slice AP 0 cP)).far (p := ⟨gA, 3, none⟩) nAB.symm (.int .i64 (offX l m : Int))).far (p := ⟨gA, 4, none⟩) nAB.symm (.int .i64 0))
          have qA : Blk (World.setCell (World.setCell (World.setCell (World.setCell (World.setCell y4 ⟨gA, 0, none⟩ (.int .u32 7)) ⟨gA, 1, none⟩ (.slice AF m cF)) ⟨gA, 2, none⟩ (.slice AP 0 cP)) ⟨gA, 3, none⟩ (.int .i64 (offX l m : Int))) ⟨gA, 4, none⟩ (.int .i64 0)) gA _ #[.int .u32 7, .slice AF m cF, .slice AP 0 cP, .int .i64 (offX l m : Int), .int .i64 0] := (blk_eq (((((QA.out.set_ 0 (.int .u32 7)).set_ 1 (.slice AF m cF)).set_ 2 (.slice AP 0 cP)).set_ 3 (.int .i64 (offX l m : Int))).set_ 4 (.int .i64 0)) rfl)
          have QA := Lib.hid qA
          clear qA d0 f0 d1 f1 d2 f2 d3 f3 d4 f4
          generalize (World.setCell (World.setCell (World.setCell (World.setCell (World.setCell y4 ⟨gA, 0, none⟩ (.int .u32 7)) ⟨gA, 1, none⟩ (.slice AF m cF)) ⟨gA, 2, none⟩ (.slice AP 0 cP)) ⟨gA, 3, none⟩ (.int .i64 (offX l m : Int))) ⟨gA, 4, none⟩ (.int .i64 0)) = y5 at *
          refine plan_last (by rfl) (by kernel_rfl) ?_
          have d0 := QB.out.cell 0
          have f0 := QB.out.frozen 0
          have d1 := QB.out.cell 1
          have f1 := QB.out.frozen 1
          have d2 := QB.out.cell 2
          have f2 := QB.out.frozen 2
          have d3 := QB.out.cell 3
          have f3 := QB.out.frozen 3
          have d4 := QB.out.cell 4
          have f4 := QB.out.frozen 4
          go_wp2_with fail
          have HB := Lib.hid (((((HB.out.setCell (p := ⟨gB, 0, none⟩) bB (.int .u32 7)).setCell (p := ⟨gB, 1, none⟩) bB (.slice AG (whX l k m) cG)).setCell (p := ⟨gB, 2, none⟩) bB (.slice AQ 0 cQ)).setCell (p := ⟨gB, 3, none⟩) bB (.int .i64 ((cutX l m k).en : Int))).setCell (p := ⟨gB, 4, none⟩) bB (.int .i64 ((cutX l m k).wy : Int)))
          have RX := Lib.hid (ScRow.set (ScRow.set (ScRow.set (ScRow.set (ScRow.set RX.out QB.out 0 (.int .u32 7)) (QB.out.set_ 0 (.int .u32 7)) 1 (.slice AG (whX l k m) cG)) ((QB.out.set_ 0 (.int .u32 7)).set_ 1 (.slice AG (whX l k m) cG)) 2 (.slice AQ 0 cQ)) (((QB.out.set_ 0 (.int .u32 7)).set_ 1 (.slice AG (whX l k m) cG)).set_ 2 (.slice AQ 0 cQ)) 3 (.int .i64 ((cutX l m k).en : Int))) ((((QB.out.set_ 0 (.int .u32 7)).set_ 1 (.slice AG (whX l k m) cG)).set_ 2 (.slice AQ 0 cQ)).set_ 3 (.int .i64 ((cutX l m k).en : Int))) 4 (.int .i64 ((cutX l m k).wy : Int)))
          have QA := Lib.hid (((((QA.out.far (p := ⟨gB, 0, none⟩) nAB (.int .u32 7)).far (p := ⟨gB, 1, none⟩) nAB (.slice AG (whX l k m) cG)).far (p := ⟨gB, 2, none⟩) nAB (.slice AQ 0 cQ)).far (p := ⟨gB, 3, none⟩) nAB (.int .i64 ((cutX l m k).en : Int))).far (p := ⟨gB, 4, none⟩) nAB (.int .i64 ((cutX l m k).wy : Int)))
          have qB : Blk (World.setCell (World.setCell (World.setCell (World.setCell (World.setCell y5 ⟨gB, 0, none⟩ (.int .u32 7)) ⟨gB, 1, none⟩ (.slice AG (whX l k m) cG)) ⟨gB, 2, none⟩ (.slice AQ 0 cQ)) ⟨gB, 3, none⟩ (.int .i64 ((cutX l m k).en : Int))) ⟨gB, 4, none⟩ (.int .i64 ((cutX l m k).wy : Int))) gB _ #[.int .u32 7, .slice AG (whX l k m) cG, .slice AQ 0 cQ, .int .i64 ((cutX l m k).en : Int), .int .i64 ((cutX l m k).wy : Int)] := (blk_eq (((((QB.out.set_ 0 (.int .u32 7)).set_ 1 (.slice AG (whX l k m) cG)).set_ 2 (.slice AQ 0 cQ)).set_ 3 (.int .i64 ((cutX l m k).en : Int))).set_ 4 (.int .i64 ((cutX l m k).wy : Int))) rfl)
          have QB := Lib.hid qB
          clear qB d0 f0 d1 f1 d2 f2 d3 f3 d4 f4
          generalize (World.setCell (World.setCell (World.setCell (World.setCell (World.setCell y5 ⟨gB, 0, none⟩ (.int .u32 7)) ⟨gB, 1, none⟩ (.slice AG (whX l k m) cG)) ⟨gB, 2, none⟩ (.slice AQ 0 cQ)) ⟨gB, 3, none⟩ (.int .i64 ((cutX l m k).en : Int))) ⟨gB, 4, none⟩ (.int .i64 ((cutX l m k).wy : Int))) = y6 at *
          refine plan_end ?_
          go_wp2_with fail
          go_meet
          case rel => exact ⟨gA, gB, _, AF, cF, AP, cP, X, AG, cG, AQ, cQ, rfl, rfl, ⟨QA.out, RX.out, hX⟩, QB.out, HB.out⟩
        · skip
          go_wp2_with fail
          have hBe := (Below.refl _ y2).alloc (Nat.le_refl _) (.cells #[.int .u32 0, .slice none 0 0, .slice none 0 0, .int .i64 0, .int .i64 0] 33)
          have qB := Blk.new y2 33 #[.int .u32 0, .slice none 0 0, .slice none 0 0, .int .i64 0, .int .i64 0]
          have hsz := HB.out.size
          obtain ⟨gB, hgB⟩ : ∃ g, g = y2.heap.size := ⟨_, rfl⟩
          rw [← hgB] at qB ⊢
          have bB : w1.heap.size ≤ gB := by omega
          have HB := Lib.hid (belowGo HB.out hBe)
          have RX := Lib.hid (RX.out.after hBe)
          have QB := Lib.hid qB
          clear hgB hsz hBe qB 
          generalize y2.alloc (.cells #[.int .u32 0, .slice none 0 0, .slice none 0 0, .int .i64 0, .int .i64 0] 33) = y7 at *
          refine ⟨HB.out, ?_⟩
          refine plan_last (by rfl) (by kernel_rfl) ?_
          go_wp2_with fail
          have lB := QB.out.lt
          have hBe := (Below.refl _ y7).alloc (Nat.le_refl _) (.cells #[.int .u32 0, .slice none 0 0, .slice none 0 0, .int .i64 0, .int .i64 0] 33)
          have qA := Blk.new y7 33 #[.int .u32 0, .slice none 0 0, .slice none 0 0, .int .i64 0, .int .i64 0]
          have hsz := HB.out.size
          obtain ⟨gA, hgA⟩ : ∃ g, g = y7.heap.size := ⟨_, rfl⟩
          rw [← hgA] at qA ⊢
          have bA : w1.heap.size ≤ gA := by omega
          have nAB : gA ≠ gB := by omega
          have HB := Lib.hid (belowGo HB.out hBe)
          have RX := Lib.hid (RX.out.after hBe)
          have QB := Lib.hid (QB.out.after hBe)
          have QA := Lib.hid qA
          clear hgA hsz hBe qA lB
          generalize y7.alloc (.cells #[.int .u32 0, .slice none 0 0, .slice none 0 0, .int .i64 0, .int .i64 0] 33) = y8 at *
          refine plan_last (by rfl) (by kernel_rfl) ?_
          have d0 := QA.out.cell 0
          have f0 := QA.out.frozen 0
          have d1 := QA.out.cell 1
          have f1 := QA.out.frozen 1
          have d2 := QA.out.cell 2
          have f2 := QA.out.frozen 2
          have d3 := QA.out.cell 3
          have f3 := QA.out.frozen 3
          have d4 := QA.out.cell 4
          have f4 := QA.out.frozen 4
          go_wp2_with fail
          have HB := Lib.hid (((((HB.out.setCell (p := ⟨gA, 0, none⟩) bA (.int .u32 7)).setCell (p := ⟨gA, 1, none⟩) bA (.slice AF m cF)).setCell (p := ⟨gA, 2, none⟩) bA (.slice AP 0 cP)).setCell (p := ⟨gA, 3, none⟩) bA (.int .i64 (offX l m : Int))).setCell (p := ⟨gA, 4, none⟩) bA (.int .i64 0))
          have RX := Lib.hid (ScRow.set (ScRow.set (ScRow.set (ScRow.set (ScRow.set RX.out QA.out 0 (.int .u32 7)) (QA.out.set_ 0 (.int .u32 7)) 1 (.slice AF m cF)) ((QA.out.set_ 0 (.int .u32 7)).set_ 1 (.slice AF m cF)) 2 (.slice AP 0 cP)) (((QA.out.set_ 0 (.int .u32 7)).set_ 1 (.slice AF m cF)).set_ 2 (.slice AP 0 cP)) 3 (.int .i64 (offX l m : Int))) ((((QA.out.set_ 0 (.int .u32 7)).set_ 1 (.slice AF m cF)).set_ 2 (.slice AP 0 cP)).set_ 3 (.int .i64 (offX l m : Int))) 4 (.int .i64 0))
          have QB := Lib.hid (((((QB.out.far (p := ⟨gA, 0, none⟩) nAB.symm (.int .u32 7)).far (p := ⟨gA, 1, none⟩) nAB.symm (.slice AF m cF)).far (p := ⟨gA, 2, none⟩) nAB.symm (.slice AP 0 cP)).far (p := ⟨gA, 3, none⟩) nAB.symm (.int .i64 (offX l m : Int))).far (p := ⟨gA, 4, none⟩) nAB.symm (.int .i64 0))
          have qA : Blk (World.setCell (World.setCell (World.setCell (World.setCell (World.setCell y8 ⟨gA, 0, none⟩ (.int .u32 7)) ⟨gA, 1, none⟩ (.slice AF m cF)) ⟨gA, 2, none⟩ (.slice AP 0 cP)) ⟨gA, 3, none⟩ (.int .i64 (offX l m : Int))) ⟨gA, 4, none⟩ (.int .i64 0)) gA _ #[.int .u32 7, .slice AF m cF, .slice AP 0 cP, .int .i64 (offX l m : Int), .int .i64 0] := (blk_eq (((((QA.out.set_ 0 (.int .u32 7)).set_ 1 (.slice AF m cF)).set_ 2 (.slice AP 0 cP)).set_ 3 (.int .i64 (offX l m : Int))).set_ 4 (.int .i64 0)) rfl)
          have QA := Lib.hid qA
          clear qA d0 f0 d1 f1 d2 f2 d3 f3 d4 f4
          generalize (World.setCell (World.setCell (World.setCell (World.setCell (World.setCell y8 ⟨gA, 0, none⟩ (.int .u32 7)) ⟨gA, 1, none⟩ (.slice AF m cF)) ⟨gA, 2, none⟩ (.slice AP 0 cP)) ⟨gA, 3, none⟩ (.int .i64 (offX l m : Int))) ⟨gA, 4, none⟩ (.int .i64 0)) = y9 at *
          refine plan_last (by rfl) (by kernel_rfl) ?_
          have d0 := QB.out.cell 0
          have f0 := QB.out.frozen 0
          have d1 := QB.out.cell 1
          have f1 := QB.out.frozen 1
          have d2 := QB.out.cell 2
          have f2 := QB.out.frozen 2
          have d3 := QB.out.cell 3
          have f3 := QB.out.frozen 3
          have d4 := QB.out.cell 4
          have f4 := QB.out.frozen 4
          go_wp2_with fail
          have HB := Lib.hid (((((HB.out.setCell (p := ⟨gB, 0, none⟩) bB (.int .u32 7)).setCell (p := ⟨gB, 1, none⟩) bB (.slice AG (whX l k m) cG)).setCell (p := ⟨gB, 2, none⟩) bB (.slice AQ 0 cQ)).setCell (p := ⟨gB, 3, none⟩) bB (.int .i64 ((cutX l m k).en : Int))).setCell (p := ⟨gB, 4, none⟩) bB (.int .i64 ((cutX l m k).wy : Int)))
          have RX := Lib.hid (ScRow.set (ScRow.set (ScRow.set (ScRow.set (ScRow.set RX.out QB.out 0 (.int .u32 7)) (QB.out.set_ 0 (.int .u32 7)) 1 (.slice AG (whX l k m) cG)) ((QB.out.set_ 0 (.int .u32 7)).set_ 1 (.slice AG (whX l k m) cG)) 2 (.slice AQ 0 cQ)) (((QB.out.set_ 0 (.int .u32 7)).set_ 1 (.slice AG (whX l k m) cG)).set_ 2 (.slice AQ 0 cQ)) 3 (.int .i64 ((cutX l m k).en : Int))) ((((QB.out.set_ 0 (.int .u32 7)).set_ 1 (.slice AG (whX l k m) cG)).set_ 2 (.slice AQ 0 cQ)).set_ 3 (.int .i64 ((cutX l m k).en : Int))) 4 (.int .i64 ((cutX l m k).wy : Int)))
          have QA := Lib.hid (((((QA.out.far (p := ⟨gB, 0, none⟩) nAB (.int .u32 7)).far (p := ⟨gB, 1, none⟩) nAB (.slice AG (whX l k m) cG)).far (p := ⟨gB, 2, none⟩) nAB (.slice AQ 0 cQ)).far (p := ⟨gB, 3, none⟩) nAB (.int .i64 ((cutX l m k).en : Int))).far (p := ⟨gB, 4, none⟩) nAB (.int .i64 ((cutX l m k).wy : Int)))
          have qB : Blk (World.setCell (World.setCell (World.setCell (World.setCell (World.setCell y9 ⟨gB, 0, none⟩ (.int .u32 7)) ⟨gB, 1, none⟩ (.slice AG (whX l k m) cG)) ⟨gB, 2, none⟩ (.slice AQ 0 cQ)) ⟨gB, 3, none⟩ (.int .i64 ((cutX l m k).en : Int))) ⟨gB, 4, none⟩ (.int .i64 ((cutX l m k).wy : Int))) gB _ #[.int .u32 7, .slice AG (whX l k m) cG, .slice AQ 0 cQ, .int .i64 ((cutX l m k).en : Int), .int .i64 ((cutX l m k).wy : Int)] := (blk_eq (((((QB.out.set_ 0 (.int .u32 7)).set_ 1 (.slice AG (whX l k m) cG)).set_ 2 (.slice AQ 0 cQ)).set_ 3 (.int .i64 ((cutX l m k).en : Int))).set_ 4 (.int .i64 ((cutX l m k).wy : Int))) rfl)
          have QB := Lib.hid qB
          clear qB d0 f0 d1 f1 d2 f2 d3 f3 d4 f4
          generalize (World.setCell (World.setCell (World.setCell (World.setCell (World.setCell y9 ⟨gB, 0, none⟩ (.int .u32 7)) ⟨gB, 1, none⟩ (.slice AG (whX l k m) cG)) ⟨gB, 2, none⟩ (.slice AQ 0 cQ)) ⟨gB, 3, none⟩ (.int .i64 ((cutX l m k).en : Int))) ⟨gB, 4, none⟩ (.int .i64 ((cutX l m k).wy : Int))) = y10 at *
          refine plan_end ?_
          go_wp2_with fail
          go_meet
          case rel => exact ⟨gA, gB, _, AF, cF, AP, cP, X, AG, cG, AQ, cQ, rfl, rfl, ⟨QA.out, RX.out, hX⟩, QB.out, HB.out⟩
      · skip
        go_wp2_with fail
        have hBe := (Below.refl _ y1).alloc (Nat.le_refl _) (.cells #[.int .u32 0, .slice none 0 0, .slice none 0 0, .int .i64 0, .int .i64 0] 33)
        have qA := Blk.new y1 33 #[.int .u32 0, .slice none 0 0, .slice none 0 0, .int .i64 0, .int .i64 0]
        have hsz := HB.out.size
        obtain ⟨gA, hgA⟩ : ∃ g, g = y1.heap.size := ⟨_, rfl⟩
        rw [← hgA] at qA ⊢
        have bA : w1.heap.size ≤ gA := by omega
        have HB := Lib.hid (belowGo HB.out hBe)
        have RX := Lib.hid (RX.out.after hBe)
        have QA := Lib.hid qA
        clear hgA hsz hBe qA 
        generalize y1.alloc (.cells #[.int .u32 0, .slice none 0 0, .slice none 0 0, .int .i64 0, .int .i64 0] 33) = y11 at *
        refine ⟨HB.out, ?_⟩
        refine plan_fork (by rfl) (by rfl) ?_ ?_
        · skip
          go_wp2_with fail
          refine (Lib.hid (of_cut hml hm20 hf hkm Ab cb _ (HT.out.after HB.out) (by omega) ((RB.out.after HB.out).btake hkm))).out.mono ?_
          rw [cutX_len]
          rintro e y12 ⟨AG, cG, AQ, cQ, rfl, hBe⟩
          have HB := Lib.hid (belowGo HB.out hBe)
          have RX := Lib.hid (RX.out.after hBe)
          have QA := Lib.hid (QA.out.after hBe)
          clear hBe
          go_wp2_with fail
          refine ⟨HB.out, ?_⟩
          refine plan_last (by rfl) (by kernel_rfl) ?_
          go_wp2_with fail
          have lA := QA.out.lt
          have hBe := (Below.refl _ y12).alloc (Nat.le_refl _) (.cells #[.int .u32 0, .slice none 0 0, .slice none 0 0, .int .i64 0, .int .i64 0] 33)
          have qB := Blk.new y12 33 #[.int .u32 0, .slice none 0 0, .slice none 0 0, .int .i64 0, .int .i64 0]
          have hsz := HB.out.size
          obtain ⟨gB, hgB⟩ : ∃ g, g = y12.heap.size := ⟨_, rfl⟩
          rw [← hgB] at qB ⊢
          have bB : w1.heap.size ≤ gB := by omega
          have nAB : gA ≠ gB := by omega
          have HB := Lib.hid (belowGo HB.out hBe)
          have RX := Lib.hid (RX.out.after hBe)
          have QA := Lib.hid (QA.out.after hBe)
          have QB := Lib.hid qB
          clear hgB hsz hBe qB lA
          generalize y12.alloc (.cells #[.int .u32 0, .slice none 0 0, .slice none 0 0, .int .i64 0, .int .i64 0] 33) = y13 at *
          refine plan_last (by rfl) (by kernel_rfl) ?_
          have d0 := QA.out.cell 0
          have f0 := QA.out.frozen 0
          have d1 := QA.out.cell 1
          have f1 := QA.out.frozen 1
          have d2 := QA.out.cell 2
          have f2 := QA.out.frozen 2
          have d3 := QA.out.cell 3
          have f3 := QA.out.frozen 3
          have d4 := QA.out.cell 4
          have f4 := QA.out.frozen 4
          go_wp2_with fail
          have HB := Lib.hid (((((HB.out.setCell (p := ⟨gA, 0, none⟩) bA (.int .u32 7)).setCell (p := ⟨gA, 1, none⟩) bA (.slice AF m cF)).setCell (p := ⟨gA, 2, none⟩) bA (.slice AP 0 cP)).setCell (p := ⟨gA, 3, none⟩) bA (.int .i64 (offX l m : Int))).setCell (p := ⟨gA, 4, none⟩) bA (.int .i64 0))
          have RX := Lib.hid (ScRow.set (ScRow.set (ScRow.set (ScRow.set (ScRow.set RX.out QA.out 0 (.int .u32 7)) (QA.out.set_ 0 (.int .u32 7)) 1 (.slice AF m cF)) ((QA.out.set_ 0 (.int .u32 7)).set_ 1 (.slice AF m cF)) 2 (.slice AP 0 cP)) (((QA.out.set_ 0 (.int .u32 7)).set_ 1 (.slice AF m cF)).set_ 2 (.slice AP 0 cP)) 3 (.int .i64 (offX l m : Int))) ((((QA.out.set_ 0 (.int .u32 7)).set_ 1 (.slice AF m cF)).set_ 2 (.slice AP 0 cP)).set_ 3 (.int .i64 (offX l m : Int))) 4 (.int .i64 0))
          have QB := Lib.hid (((((QB.out.far (p := ⟨gA, 0, none⟩) nAB.symm (.int .u32 7)).far (p := ⟨gA, 1, none⟩) nAB.symm (.slice AF m cF)).far (p := ⟨gA, 2, none⟩) nAB.symm (.slice AP 0 cP)).far (p := ⟨gA, 3, none⟩) nAB.symm (.int .i64 (offX l m : Int))).far (p := ⟨gA, 4, none⟩) nAB.symm (.int .i64 0))
          have qA : Blk (World.setCell (World.setCell (World.setCell (World.setCell (World.setCell y13 ⟨gA, 0, none⟩ (.int .u32 7)) ⟨gA, 1, none⟩ (.slice AF m cF)) ⟨gA, 2, none⟩ (.slice AP 0 cP)) ⟨gA, 3, none⟩ (.int .i64 (offX l m : Int))) ⟨gA, 4, none⟩ (.int .i64 0)) gA _ #[.int .u32 7, .slice AF m cF, .slice AP 0 cP, .int .i64 (offX l m : Int), .int .i64 0] := (blk_eq (((((QA.out.set_ 0 (.int .u32 7)).set_ 1 (.slice AF m cF)).set_ 2 (.slice AP 0 cP)).set_ 3 (.int .i64 (offX l m : Int))).set_ 4 (.int .i64 0)) rfl)
          have QA := Lib.hid qA
          clear qA d0 f0 d1 f1 d2 f2 d3 f3 d4 f4
          generalize (World.setCell (World.setCell (World.setCell (World.setCell (World.setCell y13 ⟨gA, 0, none⟩ (.int .u32 7)) ⟨gA, 1, none⟩ (.slice AF m cF)) ⟨gA, 2, none⟩ (.slice AP 0 cP)) ⟨gA, 3, none⟩ (.int .i64 (offX l m : Int))) ⟨gA, 4, none⟩ (.int .i64 0)) = y14 at *
          refine plan_last (by rfl) (by kernel_rfl) ?_
          have d0 := QB.out.cell 0
          have f0 := QB.out.frozen 0
          have d1 := QB.out.cell 1
          have f1 := QB.out.frozen 1
          have d2 := QB.out.cell 2
          have f2 := QB.out.frozen 2
          have d3 := QB.out.cell 3
          have f3 := QB.out.frozen 3
          have d4 := QB.out.cell 4
          have f4 := QB.out.frozen 4
          go_wp2_with fail
          have HB := Lib.hid (((((HB.out.setCell (p := ⟨gB, 0, none⟩) bB (.int .u32 7)).setCell (p := ⟨gB, 1, none⟩) bB (.slice AG (whX l k m) cG)).setCell (p := ⟨gB, 2, none⟩) bB (.slice AQ 0 cQ)).setCell (p := ⟨gB, 3, none⟩) bB (.int .i64 ((cutX l m k).en : Int))).setCell (p := ⟨gB, 4, none⟩) bB (.int .i64 ((cutX l m k).wy : Int)))
          have RX := Lib.hid (ScRow.set (ScRow.set (ScRow.set (ScRow.set (ScRow.set RX.out QB.out 0 (.int .u32 7)) (QB.out.set_ 0 (.int .u32 7)) 1 (.slice AG (whX l k m) cG)) ((QB.out.set_ 0 (.int .u32 7)).set_ 1 (.slice AG (whX l k m) cG)) 2 (.slice AQ 0 cQ)) (((QB.out.set_ 0 (.int .u32 7)).set_ 1 (.slice AG (whX l k m) cG)).set_ 2 (.slice AQ 0 cQ)) 3 (.int .i64 ((cutX l m k).en : Int))) ((((QB.out.set_ 0 (.int .u32 7)).set_ 1 (.slice AG (whX l k m) cG)).set_ 2 (.slice AQ 0 cQ)).set_ 3 (.int .i64 ((cutX l m k).en : Int))) 4 (.int .i64 ((cutX l m k).wy : Int)))
          have QA := Lib.hid (((((QA.out.far (p := ⟨gB, 0, none⟩) nAB (.int .u32 7)).far (p := ⟨gB, 1, none⟩) nAB (.slice AG (whX l k m) cG)).far (p := ⟨gB, 2, none⟩) nAB (.slice AQ 0 cQ)).far (p := ⟨gB, 3, none⟩) nAB (.int .i64 ((cutX l m k).en : Int))).far (p := ⟨gB, 4, none⟩) nAB (.int .i64 ((cutX l m k).wy : Int)))
          have qB : Blk (World.setCell (World.setCell (World.setCell (World.setCell (World.setCell y14 ⟨gB, 0, none⟩ (.int .u32 7)) ⟨gB, 1, none⟩ (.slice AG (whX l k m) cG)) ⟨gB, 2, none⟩ (.slice AQ 0 cQ)) ⟨gB, 3, none⟩ (.int .i64 ((cutX l m k).en : Int))) ⟨gB, 4, none⟩ (.int .i64 ((cutX l m k).wy : Int))) gB _ #[.int .u32 7, .slice AG (whX l k m) cG, .slice AQ 0 cQ, .int .i64 ((cutX l m k).en : Int), .int .i64 ((cutX l m k).wy : Int)] := (blk_eq (((((QB.out.set_ 0 (.int .u32 7)).set_ 1 (.slice AG (whX l k m) cG)).set_ 2 (.slice AQ 0 cQ)).set_ 3 (.int .i64 ((cutX l m k).en : Int))).set_ 4 (.int .i64 ((cutX l m k).wy : Int))) rfl)
          have QB := Lib.hid qB
          clear qB d0 f0 d1 f1 d2 f2 d3 f3 d4 f4
          generalize (World.setCell (World.setCell (World.setCell (World.setCell (World.setCell y14 ⟨gB, 0, none⟩ (.int .u32 7)) ⟨gB, 1, none⟩ (.slice AG (whX l k m) cG)) ⟨gB, 2, none⟩ (.slice AQ 0 cQ)) ⟨gB, 3, none⟩ (.int .i64 ((cutX l m k).en : Int))) ⟨gB, 4, none⟩ (.int .i64 ((cutX l m k).wy : Int))) = y15 at *
          refine plan_end ?_
          go_wp2_with fail
          go_meet
          case rel => exact ⟨gA, gB, _, AF, cF, AP, cP, X, AG, cG, AQ, cQ, rfl, rfl, ⟨QA.out, RX.out, hX⟩, QB.out, HB.out⟩
        · skip
          go_wp2_with fail
          have lA := QA.out.lt
          have hBe := (Below.refl _ y11).alloc (Nat.le_refl _) (.cells #[.int .u32 0, .slice none 0 0, .slice none 0 0, .int .i64 0, .int .i64 0] 33)
          have qB := Blk.new y11 33 #[.int .u32 0, .slice none 0 0, .slice none 0 0, .int .i64 0, .int .i64 0]
          have hsz := HB.out.size
          obtain ⟨gB, hgB⟩ : ∃ g, g = y11.heap.size := ⟨_, rfl⟩
          rw [← hgB] at qB ⊢
          have bB : w1.heap.size ≤ gB := by omega
          have nAB : gA ≠ gB := by omega
          have HB := Lib.hid (belowGo HB.out hBe)
          have RX := Lib.hid (RX.out.after hBe)
          have QA := Lib.hid (QA.out.after hBe)
          have QB := Lib.hid qB
          clear hgB hsz hBe qB lA
          generalize y11.alloc (.cells #[.int .u32 0, .slice none 0 0, .slice none 0 0, .int .i64 0, .int .i64 0] 33) = y16 at *
          refine ⟨HB.out, ?_⟩
          refine plan_last (by rfl) (by kernel_rfl) ?_
          go_wp2_with fail
          refine (Lib.hid (of_cut hml hm20 hf hkm Ab cb _ (HT.out.after HB.out) (by omega) ((RB.out.after HB.out).btake hkm))).out.mono ?_
          rw [cutX_len]
          rintro e y17 ⟨AG, cG, AQ, cQ, rfl, hBe⟩
          have HB := Lib.hid (belowGo HB.out hBe)
          have RX := Lib.hid (RX.out.after hBe)
          have QA := Lib.hid (QA.out.after hBe)
          have QB := Lib.hid (QB.out.after hBe)
          clear hBe
          go_wp2_with fail
          refine plan_last (by rfl) (by kernel_rfl) ?_
          have d0 := QA.out.cell 0
          have f0 := QA.out.frozen 0
          have d1 := QA.out.cell 1
          have f1 := QA.out.frozen 1
          have d2 := QA.out.cell 2
          have f2 := QA.out.frozen 2
          have d3 := QA.out.cell 3
          have f3 := QA.out.frozen 3
          have d4 := QA.out.cell 4
          have f4 := QA.out.frozen 4
          go_wp2_with fail
          have HB := Lib.hid (((((HB.out.setCell (p := ⟨gA, 0, none⟩) bA (.int .u32 7)).setCell (p := ⟨gA, 1, none⟩) bA (.slice AF m cF)).setCell (p := ⟨gA, 2, none⟩) bA (.slice AP 0 cP)).setCell (p := ⟨gA, 3, none⟩) bA (.int .i64 (offX l m : Int))).setCell (p := ⟨gA, 4, none⟩) bA (.int .i64 0))
          have RX := Lib.hid (ScRow.set (ScRow.set (ScRow.set (ScRow.set (ScRow.set RX.out QA.out 0 (.int .u32 7)) (QA.out.set_ 0 (.int .u32 7)) 1 (.slice AF m cF)) ((QA.out.set_ 0 (.int .u32 7)).set_ 1 (.slice AF m cF)) 2 (.slice AP 0 cP)) (((QA.out.set_ 0 (.int .u32 7)).set_ 1 (.slice AF m cF)).set_ 2 (.slice AP 0 cP)) 3 (.int .i64 (offX l m : Int))) ((((QA.out.set_ 0 (.int .u32 7)).set_ 1 (.slice AF m cF)).set_ 2 (.slice AP 0 cP)).set_ 3 (.int .i64 (offX l m : Int))) 4 (.int .i64 0))
          have QB := Lib.hid (((((QB.out.far (p := ⟨gA, 0, none⟩) nAB.symm (.int .u32 7)).far (p := ⟨gA, 1, none⟩) nAB.symm (.slice AF m cF)).far (p := ⟨gA, 2, none⟩) nAB.symm (.slice AP 0 cP)).far (p := ⟨gA, 3, none⟩) nAB.symm (.int .i64 (offX l m : Int))).far (p := ⟨gA, 4, none⟩) nAB.symm (.int .i64 0))
          have qA : Blk (World.setCell (World.setCell (World.setCell (World.setCell (World.setCell y17 ⟨gA, 0, none⟩ (.int .u32 7)) ⟨gA, 1, none⟩ (.slice AF m cF)) ⟨gA, 2, none⟩ (.slice AP 0 cP)) ⟨gA, 3, none⟩ (.int .i64 (offX l m : Int))) ⟨gA, 4, none⟩ (.int .i64 0)) gA _ #[.int .u32 7, .slice AF m cF, .slice AP 0 cP, .int .i64 (offX l m : Int), .int .i64 0] := (blk_eq (((((QA.out.set_ 0 (.int .u32 7)).set_ 1 (.slice AF m cF)).set_ 2 (.slice AP 0 cP)).set_ 3 (.int .i64 (offX l m : Int))).set_ 4 (.int .i64 0)) rfl)
          have QA := Lib.hid qA
          clear qA d0 f0 d1 f1 d2 f2 d3 f3 d4 f4
          generalize (World.setCell (World.setCell (World.setCell (World.setCell (World.setCell y17 ⟨gA, 0, none⟩ (.int .u32 7)) ⟨gA, 1, none⟩ (.slice AF m cF)) ⟨gA, 2, none⟩ (.slice AP 0 cP)) ⟨gA, 3, none⟩ (.int .i64 (offX l m : Int))) ⟨gA, 4, none⟩ (.int .i64 0)) = y18 at *
          refine plan_last (by rfl) (by kernel_rfl) ?_
          have d0 := QB.out.cell 0
          have f0 := QB.out.frozen 0
          have d1 := QB.out.cell 1
          have f1 := QB.out.frozen 1
          have d2 := QB.out.cell 2
          have f2 := QB.out.frozen 2
          have d3 := QB.out.cell 3
          have f3 := QB.out.frozen 3
          have d4 := QB.out.cell 4
          have f4 := QB.out.frozen 4
          go_wp2_with fail
          have HB := Lib.hid (((((HB.out.setCell (p := ⟨gB, 0, none⟩) bB (.int .u32 7)).setCell (p := ⟨gB, 1, none⟩) bB (.slice AG (whX l k m) cG)).setCell (p := ⟨gB, 2, none⟩) bB (.slice AQ 0 cQ)).setCell (p := ⟨gB, 3, none⟩) bB (.int .i64 ((cutX l m k).en : Int))).setCell (p := ⟨gB, 4, none⟩) bB (.int .i64 ((cutX l m k).wy : Int)))
          have RX := Lib.hid (ScRow.set (ScRow.set (ScRow.set (ScRow.set (ScRow.set RX.out QB.out 0 (.int .u32 7)) (QB.out.set_ 0 (.int .u32 7)) 1 (.slice AG (whX l k m) cG)) ((QB.out.set_ 0 (.int .u32 7)).set_ 1 (.slice AG (whX l k m) cG)) 2 (.slice AQ 0 cQ)) (((QB.out.set_ 0 (.int .u32 7)).set_ 1 (.slice AG (whX l k m) cG)).set_ 2 (.slice AQ 0 cQ)) 3 (.int .i64 ((cutX l m k).en : Int))) ((((QB.out.set_ 0 (.int .u32 7)).set_ 1 (.slice AG (whX l k m) cG)).set_ 2 (.slice AQ 0 cQ)).set_ 3 (.int .i64 ((cutX l m k).en : Int))) 4 (.int .i64 ((cutX l m k).wy : Int)))
          have QA := Lib.hid (((((QA.out.far (p := ⟨gB, 0, none⟩) nAB (.int .u32 7)).far (p := ⟨gB, 1, none⟩) nAB (.slice AG (whX l k m) cG)).far (p := ⟨gB, 2, none⟩) nAB (.slice AQ 0 cQ)).far (p := ⟨gB, 3, none⟩) nAB (.int .i64 ((cutX l m k).en : Int))).far (p := ⟨gB, 4, none⟩) nAB (.int .i64 ((cutX l m k).wy : Int)))
          have qB : Blk (World.setCell (World.setCell (World.setCell (World.setCell (World.setCell y18 ⟨gB, 0, none⟩ (.int .u32 7)) ⟨gB, 1, none⟩ (.slice AG (whX l k m) cG)) ⟨gB, 2, none⟩ (.slice AQ 0 cQ)) ⟨gB, 3, none⟩ (.int .i64 ((cutX l m k).en : Int))) ⟨gB, 4, none⟩ (.int .i64 ((cutX l m k).wy : Int))) gB _ #[.int .u32 7, .slice AG (whX l k m) cG, .slice AQ 0 cQ, .int .i64 ((cutX l m k).en : Int), .int .i64 ((cutX l m k).wy : Int)] := (blk_eq (((((QB.out.set_ 0 (.int .u32 7)).set_ 1 (.slice AG (whX l k m) cG)).set_ 2 (.slice AQ 0 cQ)).set_ 3 (.int .i64 ((cutX l m k).en : Int))).set_ 4 (.int .i64 ((cutX l m k).wy : Int))) rfl)
          have QB := Lib.hid qB
          clear qB d0 f0 d1 f1 d2 f2 d3 f3 d4 f4
          generalize (World.setCell (World.setCell (World.setCell (World.setCell (World.setCell y18 ⟨gB, 0, none⟩ (.int .u32 7)) ⟨gB, 1, none⟩ (.slice AG (whX l k m) cG)) ⟨gB, 2, none⟩ (.slice AQ 0 cQ)) ⟨gB, 3, none⟩ (.int .i64 ((cutX l m k).en : Int))) ⟨gB, 4, none⟩ (.int .i64 ((cutX l m k).wy : Int))) = y19 at *
          refine plan_end ?_
          go_wp2_with fail
          go_meet
          case rel => exact ⟨gA, gB, _, AF, cF, AP, cP, X, AG, cG, AQ, cQ, rfl, rfl, ⟨QA.out, RX.out, hX⟩, QB.out, HB.out⟩
      · skip
        go_wp2_with fail
        have hBe := (Below.refl _ y1).alloc (Nat.le_refl _) (.cells #[.int .u32 0, .slice none 0 0, .slice none 0 0, .int .i64 0, .int .i64 0] 33)
        have qB := Blk.new y1 33 #[.int .u32 0, .slice none 0 0, .slice none 0 0, .int .i64 0, .int .i64 0]
        have hsz := HB.out.size
        obtain ⟨gB, hgB⟩ : ∃ g, g = y1.heap.size := ⟨_, rfl⟩
        rw [← hgB] at qB ⊢
        have bB : w1.heap.size ≤ gB := by omega
        have HB := Lib.hid (belowGo HB.out hBe)
        have RX := Lib.hid (RX.out.after hBe)
        have QB := Lib.hid qB
        clear hgB hsz hBe qB 
        generalize y1.alloc (.cells #[.int .u32 0, .slice none 0 0, .slice none 0 0, .int .i64 0, .int .i64 0] 33) = y20 at *
        refine ⟨HB.out, ?_⟩
        refine plan_fork (by rfl) (by rfl) ?_ ?_
        · skip
          go_wp2_with fail
          refine (Lib.hid (of_cut hml hm20 hf hkm Ab cb _ (HT.out.after HB.out) (by omega) ((RB.out.after HB.out).btake hkm))).out.mono ?_
          rw [cutX_len]
          rintro e y21 ⟨AG, cG, AQ, cQ, rfl, hBe⟩
          have HB := Lib.hid (belowGo HB.out hBe)
          have RX := Lib.hid (RX.out.after hBe)
          have QB := Lib.hid (QB.out.after hBe)
          clear hBe
          go_wp2_with fail
          refine ⟨HB.out, ?_⟩
          refine plan_last (by rfl) (by kernel_rfl) ?_
          go_wp2_with fail
          have lB := QB.out.lt
          have hBe := (Below.refl _ y21).alloc (Nat.le_refl _) (.cells #[.int .u32 0, .slice none 0 0, .slice none 0 0, .int .i64 0, .int .i64 0] 33)
          have qA := Blk.new y21 33 #[.int .u32 0, .slice none 0 0, .slice none 0 0, .int .i64 0, .int .i64 0]
          have hsz := HB.out.size
          obtain ⟨gA, hgA⟩ : ∃ g, g = y21.heap.size := ⟨_, rfl⟩
          rw [← hgA] at qA ⊢
          have bA : w1.heap.size ≤ gA := by omega
          have nAB : gA ≠ gB := by omega
          have HB := Lib.hid (belowGo HB.out hBe)
          have RX := Lib.hid (RX.out.after hBe)
          have QB := Lib.hid (QB.out.after hBe)
          have QA := Lib.hid qA
          clear hgA hsz hBe qA lB
          generalize y21.alloc (.cells #[.int .u32 0, .slice none 0 0, .slice none 0 0, .int .i64 0, .int .i64 0] 33) = y22 at *
          refine plan_last (by rfl) (by kernel_rfl) ?_
          have d0 := QA.out.cell 0
          have f0 := QA.out.frozen 0
          have d1 := QA.out.cell 1
          have f1 := QA.out.frozen 1
          have d2 := QA.out.cell 2
          have f2 := QA.out.frozen 2
          have d3 := QA.out.cell 3
          have f3 := QA.out.frozen 3
          have d4 := QA.out.cell 4
          have f4 := QA.out.frozen 4
          go_wp2_with fail
          have HB := Lib.hid (((((HB.out.setCell (p := ⟨gA, 0, none⟩) bA (.int .u32 7)).setCell (p := ⟨gA, 1, none⟩) bA (.slice AF m cF)).setCell (p := ⟨gA, 2, none⟩) bA (.slice AP 0 cP)).setCell (p := ⟨gA, 3, none⟩) bA (.int .i64 (offX l m : Int))).setCell (p := ⟨gA, 4, none⟩) bA (.int .i64 0))
          have RX := Lib.hid (ScRow.set (ScRow.set (ScRow.set (ScRow.set (ScRow.set RX.out QA.out 0 (.int .u32 7)) (QA.out.set_ 0 (.int .u32 7)) 1 (.slice AF m cF)) ((QA.out.set_ 0 (.int .u32 7)).set_ 1 (.slice AF m cF)) 2 (.slice AP 0 cP)) (((QA.out.set_ 0 (.int .u32 7)).set_ 1 (.slice AF m cF)).set_ 2 (.slice AP 0 cP)) 3 (.int .i64 (offX l m : Int))) ((((QA.out.set_ 0 (.int .u32 7)).set_ 1 (.slice AF m cF)).set_ 2 (.slice AP 0 cP)).set_ 3 (.int .i64 (offX l m : Int))) 4 (.int .i64 0))
          have QB := Lib.hid (((((QB.out.far (p := ⟨gA, 0, none⟩) nAB.symm (.int .u32 7)).far (p := ⟨gA, 1, none⟩) nAB.symm (.slice AF m cF)).far (p := ⟨gA, 2, none⟩) nAB.symm (.slice AP 0 cP)).far (p := ⟨gA, 3, none⟩) nAB.symm (.int .i64 (offX l m : Int))).far (p := ⟨gA, 4, none⟩) nAB.symm (.int .i64 0))
          have qA : Blk (World.setCell (World.setCell (World.setCell (World.setCell (World.setCell y22 ⟨gA, 0, none⟩ (.int .u32 7)) ⟨gA, 1, none⟩ (.slice AF m cF)) ⟨gA, 2, none⟩ (.slice AP 0 cP)) ⟨gA, 3, none⟩ (.int .i64 (offX l m : Int))) ⟨gA, 4, none⟩ (.int .i64 0)) gA _ #[.int .u32 7, .slice AF m cF, .slice AP 0 cP, .int .i64 (offX l m : Int), .int .i64 0] := (blk_eq (((((QA.out.set_ 0 (.int .u32 7)).set_ 1 (.slice AF m cF)).set_ 2 (.slice AP 0 cP)).set_ 3 (.int .i64 (offX l m : Int))).set_ 4 (.int .i64 0)) rfl)
          have QA := Lib.hid qA
          clear qA d0 f0 d1 f1 d2 f2 d3 f3 d4 f4
          generalize (World.setCell (World.setCell (World.setCell (World.setCell (World.setCell y22 ⟨gA, 0, none⟩ (.int .u32 7)) ⟨gA, 1, none⟩ (.slice AF m cF)) ⟨gA, 2, none⟩ (.slice AP 0 cP)) ⟨gA, 3, none⟩ (.int .i64 (offX l m : Int))) ⟨gA, 4, none⟩ (.int .i64 0)) = y23 at *
          refine plan_last (by rfl) (by kernel_rfl) ?_
          have d0 := QB.out.cell 0
          have f0 := QB.out.frozen 0
          have d1 := QB.out.cell 1
          have f1 := QB.out.frozen 1
          have d2 := QB.out.cell 2
          have f2 := QB.out.frozen 2
          have d3 := QB.out.cell 3
          have f3 := QB.out.frozen 3
          have d4 := QB.out.cell 4
          have f4 := QB.out.frozen 4
          go_wp2_with fail
          have HB := Lib.hid (((((HB.out.setCell (p := ⟨gB, 0, none⟩) bB (.int .u32 7)).setCell (p := ⟨gB, 1, none⟩) bB (.slice AG (whX l k m) cG)).setCell (p := ⟨gB, 2, none⟩) bB (.slice AQ 0 cQ)).setCell (p := ⟨gB, 3, none⟩) bB (.int .i64 ((cutX l m k).en : Int))).setCell (p := ⟨gB, 4, none⟩) bB (.int .i64 ((cutX l m k).wy : Int)))
          have RX := Lib.hid (ScRow.set (ScRow.set (ScRow.set (ScRow.set (ScRow.set RX.out QB.out 0 (.int .u32 7)) (QB.out.set_ 0 (.int .u32 7)) 1 (.slice AG (whX l k m) cG)) ((QB.out.set_ 0 (.int .u32 7)).set_ 1 (.slice AG (whX l k m) cG)) 2 (.slice AQ 0 cQ)) (((QB.out.set_ 0 (.int .u32 7)).set_ 1 (.slice AG (whX l k m) cG)).set_ 2 (.slice AQ 0 cQ)) 3 (.int .i64 ((cutX l m k).en : Int))) ((((QB.out.set_ 0 (.int .u32 7)).set_ 1 (.slice AG (whX l k m) cG)).set_ 2 (.slice AQ 0 cQ)).set_ 3 (.int .i64 ((cutX l m k).en : Int))) 4 (.int .i64 ((cutX l m k).wy : Int)))
          have QA := Lib.hid (((((QA.out.far (p := ⟨gB, 0, none⟩) nAB (.int .u32 7)).far (p := ⟨gB, 1, none⟩) nAB (.slice AG (whX l k m) cG)).far (p := ⟨gB, 2, none⟩) nAB (.slice AQ 0 cQ)).far (p := ⟨gB, 3, none⟩) nAB (.int .i64 ((cutX l m k).en : Int))).far (p := ⟨gB, 4, none⟩) nAB (.int .i64 ((cutX l m k).wy : Int)))
          have qB : Blk (World.setCell (World.setCell (World.setCell (World.setCell (World.setCell y23 ⟨gB, 0, none⟩ (.int .u32 7)) ⟨gB, 1, none⟩ (.slice AG (whX l k m) cG)) ⟨gB, 2, none⟩ (.slice AQ 0 cQ)) ⟨gB, 3, none⟩ (.int .i64 ((cutX l m k).en : Int))) ⟨gB, 4, none⟩ (.int .i64 ((cutX l m k).wy : Int))) gB _ #[.int .u32 7, .slice AG (whX l k m) cG, .slice AQ 0 cQ, .int .i64 ((cutX l m k).en : Int), .int .i64 ((cutX l m k).wy : Int)] := (blk_eq (((((QB.out.set_ 0 (.int .u32 7)).set_ 1 (.slice AG (whX l k m) cG)).set_ 2 (.slice AQ 0 cQ)).set_ 3 (.int .i64 ((cutX l m k).en : Int))).set_ 4 (.int .i64 ((cutX l m k).wy : Int))) rfl)
          have QB := Lib.hid qB
          clear qB d0 f0 d1 f1 d2 f2 d3 f3 d4 f4
          generalize (World.setCell (World.setCell (World.setCell (World.setCell (World.setCell y23 ⟨gB, 0, none⟩ (.int .u32 7)) ⟨gB, 1, none⟩ (.slice AG (whX l k m) cG)) ⟨gB, 2, none⟩ (.slice AQ 0 cQ)) ⟨gB, 3, none⟩ (.int .i64 ((cutX l m k).en : Int))) ⟨gB, 4, none⟩ (.int .i64 ((cutX l m k).wy : Int))) = y24 at *
          refine plan_end ?_
          go_wp2_with fail
          go_meet
          case rel => exact ⟨gA, gB, _, AF, cF, AP, cP, X, AG, cG, AQ, cQ, rfl, rfl, ⟨QA.out, RX.out, hX⟩, QB.out, HB.out⟩
        · skip
          go_wp2_with fail
          have lB := QB.out.lt
          have hBe := (Below.refl _ y20).alloc (Nat.le_refl _) (.cells #[.int .u32 0, .slice none 0 0, .slice none 0 0, .int .i64 0, .int .i64 0] 33)
          have qA := Blk.new y20 33 #[.int .u32 0, .slice none 0 0, .slice none 0 0, .int .i64 0, .int .i64 0]
          have hsz := HB.out.size
          obtain ⟨gA, hgA⟩ : ∃ g, g = y20.heap.size := ⟨_, rfl⟩
          rw [← hgA] at qA ⊢
          have bA : w1.heap.size ≤ gA := by omega
          have nAB : gA ≠ gB := by omega
          have HB := Lib.hid (belowGo HB.out hBe)
          have RX := Lib.hid (RX.out.after hBe)
          have QB := Lib.hid (QB.out.after hBe)
          have QA := Lib.hid qA
          clear hgA hsz hBe qA lB
          generalize y20.alloc (.cells #[.int .u32 0, .slice none 0 0, .slice none 0 0, .int .i64 0, .int .i64 0] 33) = y25 at *
          refine ⟨HB.out, ?_⟩
          refine plan_last (by rfl) (by kernel_rfl) ?_
          go_wp2_with fail
          refine (Lib.hid (of_cut hml hm20 hf hkm Ab cb _ (HT.out.after HB.out) (by omega) ((RB.out.after HB.out).btake hkm))).out.mono ?_
          rw [cutX_len]
          rintro e y26 ⟨AG, cG, AQ, cQ, rfl, hBe⟩
          have HB := Lib.hid (belowGo HB.out hBe)
          have RX := Lib.hid (RX.out.after hBe)
          have QB := Lib.hid (QB.out.after hBe)
          have QA := Lib.hid (QA.out.after hBe)
          clear hBe
          go_wp2_with fail
          refine plan_last (by rfl) (by kernel_rfl) ?_
          have d0 := QA.out.cell 0
          have f0 := QA.out.frozen 0
          have d1 := QA.out.cell 1
          have f1 := QA.out.frozen 1
          have d2 := QA.out.cell 2
          have f2 := QA.out.frozen 2
          have d3 := QA.out.cell 3
          have f3 := QA.out.frozen 3
          have d4 := QA.out.cell 4
          have f4 := QA.out.frozen 4
          go_wp2_with fail
          have HB := Lib.hid (((((HB.out.setCell (p := ⟨gA, 0, none⟩) bA (.int .u32 7)).setCell (p := ⟨gA, 1, none⟩) bA (.slice AF m cF)).setCell (p := ⟨gA, 2, none⟩) bA (.slice AP 0 cP)).setCell (p := ⟨gA, 3, none⟩) bA (.int .i64 (offX l m : Int))).setCell (p := ⟨gA, 4, none⟩) bA (.int .i64 0))
          have RX := Lib.hid (ScRow.set (ScRow.set (ScRow.set (ScRow.set (ScRow.set RX.out QA.out 0 (.int .u32 7)) (QA.out.set_ 0 (.int .u32 7)) 1 (.slice AF m cF)) ((QA.out.set_ 0 (.int .u32 7)).set_ 1 (.slice AF m cF)) 2 (.slice AP 0 cP)) (((QA.out.set_ 0 (.int .u32 7)).set_ 1 (.slice AF m cF)).set_ 2 (.slice AP 0 cP)) 3 (.int .i64 (offX l m : Int))) ((((QA.out.set_ 0 (.int .u32 7)).set_ 1 (.slice AF m cF)).set_ 2 (.slice AP 0 cP)).set_ 3 (.int .i64 (offX l m : Int))) 4 (.int .i64 0))
          have QB := Lib.hid (((((QB.out.far (p := ⟨gA, 0, none⟩) nAB.symm (.int .u32 7)).far (p := ⟨gA, 1, none⟩) nAB.symm (.slice AF m cF)).far (p := ⟨gA, 2, none⟩) nAB.symm (.slice AP 0 cP)).far (p := ⟨gA, 3, none⟩) nAB.symm (.int .i64 (offX l m : Int))).far (p := ⟨gA, 4, none⟩) nAB.symm (.int .i64 0))
          have qA : Blk (World.setCell (World.setCell (World.setCell (World.setCell (World.setCell y26 ⟨gA, 0, none⟩ (.int .u32 7)) ⟨gA, 1, none⟩ (.slice AF m cF)) ⟨gA, 2, none⟩ (.slice AP 0 cP)) ⟨gA, 3, none⟩ (.int .i64 (offX l m : Int))) ⟨gA, 4, none⟩ (.int .i64 0)) gA _ #[.int .u32 7, .slice AF m cF, .slice AP 0 cP, .int .i64 (offX l m : Int), .int .i64 0] := (blk_eq (((((QA.out.set_ 0 (.int .u32 7)).set_ 1 (.slice AF m cF)).set_ 2 (.slice AP 0 cP)).set_ 3 (.int .i64 (offX l m : Int))).set_ 4 (.int .i64 0)) rfl)
          have QA := Lib.hid qA
          clear qA d0 f0 d1 f1 d2 f2 d3 f3 d4 f4
          generalize (World.setCell (World.setCell (World.setCell (World.setCell (World.setCell y26 ⟨gA, 0, none⟩ (.int .u32 7)) ⟨gA, 1, none⟩ (.slice AF m cF)) ⟨gA, 2, none⟩ (.slice AP 0 cP)) ⟨gA, 3, none⟩ (.int .i64 (offX l m : Int))) ⟨gA, 4, none⟩ (.int .i64 0)) = y27 at *
          refine plan_last (by rfl) (by kernel_rfl) ?_
          have d0 := QB.out.cell 0
          have f0 := QB.out.frozen 0
          have d1 := QB.out.cell 1
          have f1 := QB.out.frozen 1
          have d2 := QB.out.cell 2
          have f2 := QB.out.frozen 2
          have d3 := QB.out.cell 3
          have f3 := QB.out.frozen 3
          have d4 := QB.out.cell 4
          have f4 := QB.out.frozen 4
          go_wp2_with fail
          have HB := Lib.hid (((((HB.out.setCell (p := ⟨gB, 0, none⟩) bB (.int .u32 7)).setCell (p := ⟨gB, 1, none⟩) bB (.slice AG (whX l k m) cG)).setCell (p := ⟨gB, 2, none⟩) bB (.slice AQ 0 cQ)).setCell (p := ⟨gB, 3, none⟩) bB (.int .i64 ((cutX l m k).en : Int))).setCell (p := ⟨gB, 4, none⟩) bB (.int .i64 ((cutX l m k).wy : Int)))
          have RX := Lib.hid (ScRow.set (ScRow.set (ScRow.set (ScRow.set (ScRow.set RX.out QB.out 0 (.int .u32 7)) (QB.out.set_ 0 (.int .u32 7)) 1 (.slice AG (whX l k m) cG)) ((QB.out.set_ 0 (.int .u32 7)).set_ 1 (.slice AG (whX l k m) cG)) 2 (.slice AQ 0 cQ)) (((QB.out.set_ 0 (.int .u32 7)).set_ 1 (.slice AG (whX l k m) cG)).set_ 2 (.slice AQ 0 cQ)) 3 (.int .i64 ((cutX l m k).en : Int))) ((((QB.out.set_ 0 (.int .u32 7)).set_ 1 (.slice AG (whX l k m) cG)).set_ 2 (.slice AQ 0 cQ)).set_ 3 (.int .i64 ((cutX l m k).en : Int))) 4 (.int .i64 ((cutX l m k).wy : Int)))
          have QA := Lib.hid (((((QA.out.far (p := ⟨gB, 0, none⟩) nAB (.int .u32 7)).far (p := ⟨gB, 1, none⟩) nAB (.slice AG (whX l k m) cG)).far (p := ⟨gB, 2, none⟩) nAB (.slice AQ 0 cQ)).far (p := ⟨gB, 3, none⟩) nAB (.int .i64 ((cutX l m k).en : Int))).far (p := ⟨gB, 4, none⟩) nAB (.int .i64 ((cutX l m k).wy : Int)))
          have qB : Blk (World.setCell (World.setCell (World.setCell (World.setCell (World.setCell y27 ⟨gB, 0, none⟩ (.int .u32 7)) ⟨gB, 1, none⟩ (.slice AG (whX l k m) cG)) ⟨gB, 2, none⟩ (.slice AQ 0 cQ)) ⟨gB, 3, none⟩ (.int .i64 ((cutX l m k).en : Int))) ⟨gB, 4, none⟩ (.int .i64 ((cutX l m k).wy : Int))) gB _ #[.int .u32 7, .slice AG (whX l k m) cG, .slice AQ 0 cQ, .int .i64 ((cutX l m k).en : Int), .int .i64 ((cutX l m k).wy : Int)] := (blk_eq (((((QB.out.set_ 0 (.int .u32 7)).set_ 1 (.slice AG (whX l k m) cG)).set_ 2 (.slice AQ 0 cQ)).set_ 3 (.int .i64 ((cutX l m k).en : Int))).set_ 4 (.int .i64 ((cutX l m k).wy : Int))) rfl)
          have QB := Lib.hid qB
          clear qB d0 f0 d1 f1 d2 f2 d3 f3 d4 f4
          generalize (World.setCell (World.setCell (World.setCell (World.setCell (World.setCell y27 ⟨gB, 0, none⟩ (.int .u32 7)) ⟨gB, 1, none⟩ (.slice AG (whX l k m) cG)) ⟨gB, 2, none⟩ (.slice AQ 0 cQ)) ⟨gB, 3, none⟩ (.int .i64 ((cutX l m k).en : Int))) ⟨gB, 4, none⟩ (.int .i64 ((cutX l m k).wy : Int))) = y28 at *
          refine plan_end ?_
          go_wp2_with fail
          go_meet
          case rel => exact ⟨gA, gB, _, AF, cF, AP, cP, X, AG, cG, AQ, cQ, rfl, rfl, ⟨QA.out, RX.out, hX⟩, QB.out, HB.out⟩
    · skip
      go_wp2_with fail
      have hBe := (Below.refl _ wd).alloc (Nat.le_refl _) (.cells #[.int .u32 0, .slice none 0 0, .slice none 0 0, .int .i64 0, .int .i64 0] 33)
      have qA := Blk.new wd 33 #[.int .u32 0, .slice none 0 0, .slice none 0 0, .int .i64 0, .int .i64 0]
      have hsz := HB.out.size
      obtain ⟨gA, hgA⟩ : ∃ g, g = wd.heap.size := ⟨_, rfl⟩
      rw [← hgA] at qA ⊢
      have bA : w1.heap.size ≤ gA := by omega
      have HB := Lib.hid (belowGo HB.out hBe)
      have QA := Lib.hid qA
      clear hgA hsz hBe qA 
      generalize wd.alloc (.cells #[.int .u32 0, .slice none 0 0, .slice none 0 0, .int .i64 0, .int .i64 0] 33) = y29 at *
      refine ⟨HB.out, ?_⟩
      refine plan_fork (by rfl) (by rfl) ?_ ?_
      · skip
        go_wp2_with fail
        refine (Lib.hid (of_segX hml hm20 hf Ab cb _ (HT.out.after HB.out) hcb (RB.out.after HB.out))).out.mono ?_
        rintro e y30 ⟨AF, cF, AP, cP, X, rfl, sX, hX, hBe⟩
        have HB := Lib.hid (belowGo HB.out hBe)
        have QA := Lib.hid (QA.out.after hBe)
        clear hBe
        go_wp2_with fail
        have RX := Lib.hid sX
        clear sX
        refine ⟨HB.out, ?_⟩
        refine plan_fork (by rfl) (by rfl) ?_ ?_
        · skip
          go_wp2_with fail
          refine (Lib.hid (of_cut hml hm20 hf hkm Ab cb _ (HT.out.after HB.out) (by omega) ((RB.out.after HB.out).btake hkm))).out.mono ?_
          rw [cutX_len]
          rintro e y31 ⟨AG, cG, AQ, cQ, rfl, hBe⟩
          have HB := Lib.hid (belowGo HB.out hBe)
          have QA := Lib.hid (QA.out.after hBe)
          have RX := Lib.hid (RX.out.after hBe)
          clear hBe
          go_wp2_with fail
          refine ⟨HB.out, ?_⟩
          refine plan_last (by rfl) (by kernel_rfl) ?_
          go_wp2_with fail
          have lA := QA.out.lt
          have hBe := (Below.refl _ y31).alloc (Nat.le_refl _) (.cells #[.int .u32 0, .slice none 0 0, .slice none 0 0, .int .i64 0, .int .i64 0] 33)
          have qB := Blk.new y31 33 #[.int .u32 0, .slice none 0 0, .slice none 0 0, .int .i64 0, .int .i64 0]
          have hsz := HB.out.size
          obtain ⟨gB, hgB⟩ : ∃ g, g = y31.heap.size := ⟨_, rfl⟩
          rw [← hgB] at qB ⊢
          have bB : w1.heap.size ≤ gB := by omega
          have nAB : gA ≠ gB := by omega
          have HB := Lib.hid (belowGo HB.out hBe)
          have QA := Lib.hid (QA.out.after hBe)
          have RX := Lib.hid (RX.out.after hBe)
          have QB := Lib.hid qB
          clear hgB hsz hBe qB lA
          generalize y31.alloc (.cells #[.int .u32 0, .slice none 0 0, .slice none 0 0, .int .i64 0, .int .i64 0] 33) = y32 at *
          refine plan_last (by rfl) (by kernel_rfl) ?_
          have d0 := QA.out.cell 0
          have f0 := QA.out.frozen 0
          have d1 := QA.out.cell 1
          have f1 := QA.out.frozen 1
          have d2 := QA.out.cell 2
          have f2 := QA.out.frozen 2
          have d3 := QA.out.cell 3
          have f3 := QA.out.frozen 3
          have d4 := QA.out.cell 4
          have f4 := QA.out.frozen 4
          go_wp2_with fail
          have HB := Lib.hid (((((HB.out.setCell (p := ⟨gA, 0, none⟩) bA (.int .u32 7)).setCell (p := ⟨gA, 1, none⟩) bA (.slice AF m cF)).setCell (p := ⟨gA, 2, none⟩) bA (.slice AP 0 cP)).setCell (p := ⟨gA, 3, none⟩) bA (.int .i64 (offX l m : Int))).setCell (p := ⟨gA, 4, none⟩) bA (.int .i64 0))
          have RX := Lib.hid (ScRow.set (ScRow.set (ScRow.set (ScRow.set (ScRow.set RX.out QA.out 0 (.int .u32 7)) (QA.out.set_ 0 (.int .u32 7)) 1 (.slice AF m cF)) ((QA.out.set_ 0 (.int .u32 7)).set_ 1 (.slice AF m cF)) 2 (.slice AP 0 cP)) (((QA.out.set_ 0 (.int .u32 7)).set_ 1 (.slice AF m cF)).set_ 2 (.slice AP 0 cP)) 3 (.int .i64 (offX l m : Int))) ((((QA.out.set_ 0 (.int .u32 7)).set_ 1 (.slice AF m cF)).set_ 2 (.slice AP 0 cP)).set_ 3 (.int .i64 (offX l m : Int))) 4 (.int .i64 0))
          have QB := Lib.hid (((((QB.out.far (p := ⟨gA, 0, none⟩) nAB.symm (.int .u32 7)).far (p := ⟨gA, 1, none⟩) nAB.symm (.slice AF m cF)).far (p := ⟨gA, 2, none⟩) nAB.symm (.slice AP 0 cP)).far (p := ⟨gA, 3, none⟩) nAB.symm (.int .i64 (offX l m : Int))).far (p := ⟨gA, 4, none⟩) nAB.symm (.int .i64 0))
          have qA : Blk (World.setCell (World.setCell (World.setCell (World.setCell (World.setCell y32 ⟨gA, 0, none⟩ (.int .u32 7)) ⟨gA, 1, none⟩ (.slice AF m cF)) ⟨gA, 2, none⟩ (.slice AP 0 cP)) ⟨gA, 3, none⟩ (.int .i64 (offX l m : Int))) ⟨gA, 4, none⟩ (.int .i64 0)) gA _ #[.int .u32 7, .slice AF m cF, .slice AP 0 cP, .int .i64 (offX l m : Int), .int .i64 0] := (blk_eq (((((QA.out.set_ 0 (.int .u32 7)).set_ 1 (.slice AF m cF)).set_ 2 (.slice AP 0 cP)).set_ 3 (.int .i64 (offX l m : Int))).set_ 4 (.int .i64 0)) rfl)
          have QA := Lib.hid qA
          clear qA d0 f0 d1 f1 d2 f2 d3 f3 d4 f4
          generalize (World.setCell (World.setCell (World.setCell (World.setCell (World.setCell y32 ⟨gA, 0, none⟩ (.int .u32 7)) ⟨gA, 1, none⟩ (.slice AF m cF)) ⟨gA, 2, none⟩ (.slice AP 0 cP)) ⟨gA, 3, none⟩ (.int .i64 (offX l m : Int))) ⟨gA, 4, none⟩ (.int .i64 0)) = y33 at *
          refine plan_last (by rfl) (by kernel_rfl) ?_
          have d0 := QB.out.cell 0
          have f0 := QB.out.frozen 0
          have d1 := QB.out.cell 1
          have f1 := QB.out.frozen 1
          have d2 := QB.out.cell 2
          have f2 := QB.out.frozen 2
          have d3 := QB.out.cell 3
          have f3 := QB.out.frozen 3
          have d4 := QB.out.cell 4
          have f4 := QB.out.frozen 4
          go_wp2_with fail
          have HB := Lib.hid (((((HB.out.setCell (p := ⟨gB, 0, none⟩) bB (.int .u32 7)).setCell (p := ⟨gB, 1, none⟩) bB (.slice AG (whX l k m) cG)).setCell (p := ⟨gB, 2, none⟩) bB (.slice AQ 0 cQ)).setCell (p := ⟨gB, 3, none⟩) bB (.int .i64 ((cutX l m k).en : Int))).setCell (p := ⟨gB, 4, none⟩) bB (.int .i64 ((cutX l m k).wy : Int)))
          have QA := Lib.hid (((((QA.out.far (p := ⟨gB, 0, none⟩) nAB (.int .u32 7)).far (p := ⟨gB, 1, none⟩) nAB (.slice AG (whX l k m) cG)).far (p := ⟨gB, 2, none⟩) nAB (.slice AQ 0 cQ)).far (p := ⟨gB, 3, none⟩) nAB (.int .i64 ((cutX l m k).en : Int))).far (p := ⟨gB, 4, none⟩) nAB (.int .i64 ((cutX l m k).wy : Int)))
          have RX := Lib.hid (ScRow.set (ScRow.set (ScRow.set (ScRow.set (ScRow.set RX.out QB.out 0 (.int .u32 7)) (QB.out.set_ 0 (.int .u32 7)) 1 (.slice AG (whX l k m) cG)) ((QB.out.set_ 0 (.int .u32 7)).set_ 1 (.slice AG (whX l k m) cG)) 2 (.slice AQ 0 cQ)) (((QB.out.set_ 0 (.int .u32 7)).set_ 1 (.slice AG (whX l k m) cG)).set_ 2 (.slice AQ 0 cQ)) 3 (.int .i64 ((cutX l m k).en : Int))) ((((QB.out.set_ 0 (.int .u32 7)).set_ 1 (.slice AG (whX l k m) cG)).set_ 2 (.slice AQ 0 cQ)).set_ 3 (.int .i64 ((cutX l m k).en : Int))) 4 (.int .i64 ((cutX l m k).wy : Int)))
          have qB : Blk (World.setCell (World.setCell (World.setCell (World.setCell (World.setCell y33 ⟨gB, 0, none⟩ (.int .u32 7)) ⟨gB, 1, none⟩ (.slice AG (whX l k m) cG)) ⟨gB, 2, none⟩ (.slice AQ 0 cQ)) ⟨gB, 3, none⟩ (.int .i64 ((cutX l m k).en : Int))) ⟨gB, 4, none⟩ (.int .i64 ((cutX l m k).wy : Int))) gB _ #[.int .u32 7, .slice AG (whX l k m) cG, .slice AQ 0 cQ, .int .i64 ((cutX l m k).en : Int), .int .i64 ((cutX l m k).wy : Int)] := (blk_eq (((((QB.out.set_ 0 (.int .u32 7)).set_ 1 (.slice AG (whX l k m) cG)).set_ 2 (.slice AQ 0 cQ)).set_ 3 (.int .i64 ((cutX l m k).en : Int))).set_ 4 (.int .i64 ((cutX l m k).wy : Int))) rfl)
          have QB := Lib.hid qB
          clear qB d0 f0 d1 f1 d2 f2 d3 f3 d4 f4
          generalize (World.setCell (World.setCell (World.setCell (World.setCell (World.setCell y33 ⟨gB, 0, none⟩ (.int .u32 7)) ⟨gB, 1, none⟩ (.slice AG (whX l k m) cG)) ⟨gB, 2, none⟩ (.slice AQ 0 cQ)) ⟨gB, 3, none⟩ (.int .i64 ((cutX l m k).en : Int))) ⟨gB, 4, none⟩ (.int .i64 ((cutX l m k).wy : Int))) = y34 at *
          refine plan_end ?_
          go_wp2_with fail
          go_meet
          case rel => exact ⟨gA, gB, _, AF, cF, AP, cP, X, AG, cG, AQ, cQ, rfl, rfl, ⟨QA.out, RX.out, hX⟩, QB.out, HB.out⟩
        · skip
          go_wp2_with fail
          have lA := QA.out.lt
          have hBe := (Below.refl _ y30).alloc (Nat.le_refl _) (.cells #[.int .u32 0, .slice none 0 0, .slice none 0 0, .int .i64 0, .int .i64 0] 33)
          have qB := Blk.new y30 33 #[.int .u32 0, .slice none 0 0, .slice none 0 0, .int .i64 0, .int .i64 0]
          have hsz := HB.out.size
          obtain ⟨gB, hgB⟩ : ∃ g, g = y30.heap.size := ⟨_, rfl⟩
          rw [← hgB] at qB ⊢
          have bB : w1.heap.size ≤ gB := by omega
          have nAB : gA ≠ gB := by omega
          have HB := Lib.hid (belowGo HB.out hBe)
          have QA := Lib.hid (QA.out.after hBe)
          have RX := Lib.hid (RX.out.after hBe)
          have QB := Lib.hid qB
          clear hgB hsz hBe qB lA
          generalize y30.alloc (.cells #[.int .u32 0, .slice none 0 0, .slice none 0 0, .int .i64 0, .int .i64 0] 33) = y35 at *
          refine ⟨HB.out, ?_⟩
          refine plan_last (by rfl) (by kernel_rfl) ?_
          go_wp2_with fail
          refine (Lib.hid (of_cut hml hm20 hf hkm Ab cb _ (HT.out.after HB.out) (by omega) ((RB.out.after HB.out).btake hkm))).out.mono ?_
          rw [cutX_len]
          rintro e y36 ⟨AG, cG, AQ, cQ, rfl, hBe⟩
          have HB := Lib.hid (belowGo HB.out hBe)
          have QA := Lib.hid (QA.out.after hBe)
          have RX := Lib.hid (RX.out.after hBe)
          have QB := Lib.hid (QB.out.after hBe)
          clear hBe
          go_wp2_with fail
          refine plan_last (by rfl) (by kernel_rfl) ?_
          have d0 := QA.out.cell 0
          have f0 := QA.out.frozen 0
          have d1 := QA.out.cell 1
          have f1 := QA.out.frozen 1
          have d2 := QA.out.cell 2
          have f2 := QA.out.frozen 2
          have d3 := QA.out.cell 3
          have f3 := QA.out.frozen 3
          have d4 := QA.out.cell 4
          have f4 := QA.out.frozen 4
          go_wp2_with fail
          have HB := Lib.hid (((((HB.out.setCell (p := ⟨gA, 0, none⟩) bA (.int .u32 7)).setCell (p := ⟨gA, 1, none⟩) bA (.slice AF m cF)).setCell (p := ⟨gA, 2, none⟩) bA (.slice AP 0 cP)).setCell (p := ⟨gA, 3, none⟩) bA (.int .i64 (offX l m : Int))).setCell (p := ⟨gA, 4, none⟩) bA (.int .i64 0))
          have RX := Lib.hid (ScRow.set (ScRow.set (ScRow.set (ScRow.set (ScRow.set RX.out QA.out 0 (.int .u32 7)) (QA.out.set_ 0 (.int .u32 7)) 1 (.slice AF m cF)) ((QA.out.set_ 0 (.int .u32 7)).set_ 1 (.slice AF m cF)) 2 (.slice AP 0 cP)) (((QA.out.set_ 0 (.int .u32 7)).set_ 1 (.slice AF m cF)).set_ 2 (.slice AP 0 cP)) 3 (.int .i64 (offX l m : Int))) ((((QA.out.set_ 0 (.int .u32 7)).set_ 1 (.slice AF m cF)).set_ 2 (.slice AP 0 cP)).set_ 3 (.int .i64 (offX l m : Int))) 4 (.int .i64 0))
          have QB := Lib.hid (((((QB.out.far (p := ⟨gA, 0, none⟩) nAB.symm (.int .u32 7)).far (p := ⟨gA, 1, none⟩) nAB.symm (.slice AF m cF)).far (p := ⟨gA, 2, none⟩) nAB.symm (.slice AP 0 cP)).far (p := ⟨gA, 3, none⟩) nAB.symm (.int .i64 (offX l m : Int))).far (p := ⟨gA, 4, none⟩) nAB.symm (.int .i64 0))
          have qA : Blk (World.setCell (World.setCell (World.setCell (World.setCell (World.setCell y36 ⟨gA, 0, none⟩ (.int .u32 7)) ⟨gA, 1, none⟩ (.slice AF m cF)) ⟨gA, 2, none⟩ (.slice AP 0 cP)) ⟨gA, 3, none⟩ (.int .i64 (offX l m : Int))) ⟨gA, 4, none⟩ (.int .i64 0)) gA _ #[.int .u32 7, .slice AF m cF, .slice AP 0 cP, .int .i64 (offX l m : Int), .int .i64 0] := (blk_eq (((((QA.out.set_ 0 (.int .u32 7)).set_ 1 (.slice AF m cF)).set_ 2 (.slice AP 0 cP)).set_ 3 (.int .i64 (offX l m : Int))).set_ 4 (.int .i64 0)) rfl)
          have QA := Lib.hid qA
          clear qA d0 f0 d1 f1 d2 f2 d3 f3 d4 f4
          generalize (World.setCell (World.setCell (World.setCell (World.setCell (World.setCell y36 ⟨gA, 0, none⟩ (.int .u32 7)) ⟨gA, 1, none⟩ (.slice AF m cF)) ⟨gA, 2, none⟩ (.slice AP 0 cP)) ⟨gA, 3, none⟩ (.int .i64 (offX l m : Int))) ⟨gA, 4, none⟩ (.int .i64 0)) = y37 at *
          refine plan_last (by rfl) (by kernel_rfl) ?_
          have d0 := QB.out.cell 0
          have f0 := QB.out.frozen 0
          have d1 := QB.out.cell 1
          have f1 := QB.out.frozen 1
          have d2 := QB.out.cell 2
          have f2 := QB.out.frozen 2
          have d3 := QB.out.cell 3
          have f3 := QB.out.frozen 3
          have d4 := QB.out.cell 4
          have f4 := QB.out.frozen 4
          go_wp2_with fail
          have HB := Lib.hid (((((HB.out.setCell (p := ⟨gB, 0, none⟩) bB (.int .u32 7)).setCell (p := ⟨gB, 1, none⟩) bB (.slice AG (whX l k m) cG)).setCell (p := ⟨gB, 2, none⟩) bB (.slice AQ 0 cQ)).setCell (p := ⟨gB, 3, none⟩) bB (.int .i64 ((cutX l m k).en : Int))).setCell (p := ⟨gB, 4, none⟩) bB (.int .i64 ((cutX l m k).wy : Int)))
          have QA := Lib.hid (((((QA.out.far (p := ⟨gB, 0, none⟩) nAB (.int .u32 7)).far (p := ⟨gB, 1, none⟩) nAB (.slice AG (whX l k m) cG)).far (p := ⟨gB, 2, none⟩) nAB (.slice AQ 0 cQ)).far (p := ⟨gB, 3, none⟩) nAB (.int .i64 ((cutX l m k).en : Int))).far (p := ⟨gB, 4, none⟩) nAB (.int .i64 ((cutX l m k).wy : Int)))
          have RX := Lib.hid (ScRow.set (ScRow.set (ScRow.set (ScRow.set (ScRow.set RX.out QB.out 0 (.int .u32 7)) (QB.out.set_ 0 (.int .u32 7)) 1 (.slice AG (whX l k m) cG)) ((QB.out.set_ 0 (.int .u32 7)).set_ 1 (.slice AG (whX l k m) cG)) 2 (.slice AQ 0 cQ)) (((QB.out.set_ 0 (.int .u32 7)).set_ 1 (.slice AG (whX l k m) cG)).set_ 2 (.slice AQ 0 cQ)) 3 (.int .i64 ((cutX l m k).en : Int))) ((((QB.out.set_ 0 (.int .u32 7)).set_ 1 (.slice AG (whX l k m) cG)).set_ 2 (.slice AQ 0 cQ)).set_ 3 (.int .i64 ((cutX l m k).en : Int))) 4 (.int .i64 ((cutX l m k).wy : Int)))
          have qB : Blk (World.setCell (World.setCell (World.setCell (World.setCell (World.setCell y37 ⟨gB, 0, none⟩ (.int .u32 7)) ⟨gB, 1, none⟩ (.slice AG (whX l k m) cG)) ⟨gB, 2, none⟩ (.slice AQ 0 cQ)) ⟨gB, 3, none⟩ (.int .i64 ((cutX l m k).en : Int))) ⟨gB, 4, none⟩ (.int .i64 ((cutX l m k).wy : Int))) gB _ #[.int .u32 7, .slice AG (whX l k m) cG, .slice AQ 0 cQ, .int .i64 ((cutX l m k).en : Int), .int .i64 ((cutX l m k).wy : Int)] := (blk_eq (((((QB.out.set_ 0 (.int .u32 7)).set_ 1 (.slice AG (whX l k m) cG)).set_ 2 (.slice AQ 0 cQ)).set_ 3 (.int .i64 ((cutX l m k).en : Int))).set_ 4 (.int .i64 ((cutX l m k).wy : Int))) rfl)
          have QB := Lib.hid qB
          clear qB d0 f0 d1 f1 d2 f2 d3 f3 d4 f4
          generalize (World.setCell (World.setCell (World.setCell (World.setCell (World.setCell y37 ⟨gB, 0, none⟩ (.int .u32 7)) ⟨gB, 1, none⟩ (.slice AG (whX l k m) cG)) ⟨gB, 2, none⟩ (.slice AQ 0 cQ)) ⟨gB, 3, none⟩ (.int .i64 ((cutX l m k).en : Int))) ⟨gB, 4, none⟩ (.int .i64 ((cutX l m k).wy : Int))) = y38 at *
          refine plan_end ?_
          go_wp2_with fail
          go_meet
          case rel => exact ⟨gA, gB, _, AF, cF, AP, cP, X, AG, cG, AQ, cQ, rfl, rfl, ⟨QA.out, RX.out, hX⟩, QB.out, HB.out⟩
      · skip
        go_wp2_with fail
        have lA := QA.out.lt
        have hBe := (Below.refl _ y29).alloc (Nat.le_refl _) (.cells #[.int .u32 0, .slice none 0 0, .slice none 0 0, .int .i64 0, .int .i64 0] 33)
        have qB := Blk.new y29 33 #[.int .u32 0, .slice none 0 0, .slice none 0 0, .int .i64 0, .int .i64 0]
        have hsz := HB.out.size
        obtain ⟨gB, hgB⟩ : ∃ g, g = y29.heap.size := ⟨_, rfl⟩
        rw [← hgB] at qB ⊢
        have bB : w1.heap.size ≤ gB := by omega
        have nAB : gA ≠ gB := by omega
        have HB := Lib.hid (belowGo HB.out hBe)
        have QA := Lib.hid (QA.out.after hBe)
        have QB := Lib.hid qB
        clear hgB hsz hBe qB lA
        generalize y29.alloc (.cells #[.int .u32 0, .slice none 0 0, .slice none 0 0, .int .i64 0, .int .i64 0] 33) = y39 at *
        refine ⟨HB.out, ?_⟩
        refine plan_last (by rfl) (by kernel_rfl) ?_
        go_wp2_with fail
        refine (Lib.hid (of_segX hml hm20 hf Ab cb _ (HT.out.after HB.out) hcb (RB.out.after HB.out))).out.mono ?_
        rintro e y40 ⟨AF, cF, AP, cP, X, rfl, sX, hX, hBe⟩
        have HB := Lib.hid (belowGo HB.out hBe)
        have QA := Lib.hid (QA.out.after hBe)
        have QB := Lib.hid (QB.out.after hBe)
        clear hBe
        go_wp2_with fail
        have RX := Lib.hid sX
        clear sX
        refine plan_last (by rfl) (by kernel_rfl) ?_
        go_wp2_with fail
        refine (Lib.hid (of_cut hml hm20 hf hkm Ab cb _ (HT.out.after HB.out) (by omega) ((RB.out.after HB.out).btake hkm))).out.mono ?_
        rw [cutX_len]
        rintro e y41 ⟨AG, cG, AQ, cQ, rfl, hBe⟩
        have HB := Lib.hid (belowGo HB.out hBe)
        have QA := Lib.hid (QA.out.after hBe)
        have QB := Lib.hid (QB.out.after hBe)
        have RX := Lib.hid (RX.out.after hBe)
        clear hBe
        go_wp2_with fail
        refine plan_last (by rfl) (by kernel_rfl) ?_
        have d0 := QA.out.cell 0
        have f0 := QA.out.frozen 0
        have d1 := QA.out.cell 1
        have f1 := QA.out.frozen 1
        have d2 := QA.out.cell 2
        have f2 := QA.out.frozen 2
        have d3 := QA.out.cell 3
        have f3 := QA.out.frozen 3
        have d4 := QA.out.cell 4
        have f4 := QA.out.frozen 4
        go_wp2_with fail
        have HB := Lib.hid (((((HB.out.setCell (p := ⟨gA, 0, none⟩) bA (.int .u32 7)).setCell (p := ⟨gA, 1, none⟩) bA (.slice AF m cF)).setCell (p := ⟨gA, 2, none⟩) bA (.slice AP 0 cP)).setCell (p := ⟨gA, 3, none⟩) bA (.int .i64 (offX l m : Int))).setCell (p := ⟨gA, 4, none⟩) bA (.int .i64 0))
        have QB := Lib.hid (((((QB.out.far (p := ⟨gA, 0, none⟩) nAB.symm (.int .u32 7)).far (p := ⟨gA, 1, none⟩) nAB.symm (.slice AF m cF)).far (p := ⟨gA, 2, none⟩) nAB.symm (.slice AP 0 cP)).far (p := ⟨gA, 3, none⟩) nAB.symm (.int .i64 (offX l m : Int))).far (p := ⟨gA, 4, none⟩) nAB.symm (.int .i64 0))
        have RX := Lib.hid (ScRow.set (ScRow.set (ScRow.set (ScRow.set (ScRow.set RX.out QA.out 0 (.int .u32 7)) (QA.out.set_ 0 (.int .u32 7)) 1 (.slice AF m cF)) ((QA.out.set_ 0 (.int .u32 7)).set_ 1 (.slice AF m cF)) 2 (.slice AP 0 cP)) (((QA.out.set_ 0 (.int .u32 7)).set_ 1 (.slice AF m cF)).set_ 2 (.slice AP 0 cP)) 3 (.int .i64 (offX l m : Int))) ((((QA.out.set_ 0 (.int .u32 7)).set_ 1 (.slice AF m cF)).set_ 2 (.slice AP 0 cP)).set_ 3 (.int .i64 (offX l m : Int))) 4 (.int .i64 0))
        have qA : Blk (World.setCell (World.setCell (World.setCell (World.setCell (World.setCell y41 ⟨gA, 0, none⟩ (.int .u32 7)) ⟨gA, 1, none⟩ (.slice AF m cF)) ⟨gA, 2, none⟩ (.slice AP 0 cP)) ⟨gA, 3, none⟩ (.int .i64 (offX l m : Int))) ⟨gA, 4, none⟩ (.int .i64 0)) gA _ #[.int .u32 7, .slice AF m cF, .slice AP 0 cP, .int .i64 (offX l m : Int), .int .i64 0] := (blk_eq (((((QA.out.set_ 0 (.int .u32 7)).set_ 1 (.slice AF m cF)).set_ 2 (.slice AP 0 cP)).set_ 3 (.int .i64 (offX l m : Int))).set_ 4 (.int .i64 0)) rfl)
        have QA := Lib.hid qA
        clear qA d0 f0 d1 f1 d2 f2 d3 f3 d4 f4
        generalize (World.setCell (World.setCell (World.setCell (World.setCell (World.setCell y41 ⟨gA, 0, none⟩ (.int .u32 7)) ⟨gA, 1, none⟩ (.slice AF m cF)) ⟨gA, 2, none⟩ (.slice AP 0 cP)) ⟨gA, 3, none⟩ (.int .i64 (offX l m : Int))) ⟨gA, 4, none⟩ (.int .i64 0)) = y42 at *
        refine plan_last (by rfl) (by kernel_rfl) ?_
        have d0 := QB.out.cell 0
        have f0 := QB.out.frozen 0
        have d1 := QB.out.cell 1
        have f1 := QB.out.frozen 1
        have d2 := QB.out.cell 2
        have f2 := QB.out.frozen 2
        have d3 := QB.out.cell 3
        have f3 := QB.out.frozen 3
        have d4 := QB.out.cell 4
        have f4 := QB.out.frozen 4
        go_wp2_with fail
        have HB := Lib.hid (((((HB.out.setCell (p := ⟨gB, 0, none⟩) bB (.int .u32 7)).setCell (p := ⟨gB, 1, none⟩) bB (.slice AG (whX l k m) cG)).setCell (p := ⟨gB, 2, none⟩) bB (.slice AQ 0 cQ)).setCell (p := ⟨gB, 3, none⟩) bB (.int .i64 ((cutX l m k).en : Int))).setCell (p := ⟨gB, 4, none⟩) bB (.int .i64 ((cutX l m k).wy : Int)))
        have QA := Lib.hid (((((QA.out.far (p := ⟨gB, 0, none⟩) nAB (.int .u32 7)).far (p := ⟨gB, 1, none⟩) nAB (.slice AG (whX l k m) cG)).far (p := ⟨gB, 2, none⟩) nAB (.slice AQ 0 cQ)).far (p := ⟨gB, 3, none⟩) nAB (.int .i64 ((cutX l m k).en : Int))).far (p := ⟨gB, 4, none⟩) nAB (.int .i64 ((cutX l m k).wy : Int)))
        have RX := Lib.hid (ScRow.set (ScRow.set (ScRow.set (ScRow.set (ScRow.set RX.out QB.out 0 (.int .u32 7)) (QB.out.set_ 0 (.int .u32 7)) 1 (.slice AG (whX l k m) cG)) ((QB.out.set_ 0 (.int .u32 7)).set_ 1 (.slice AG (whX l k m) cG)) 2 (.slice AQ 0 cQ)) (((QB.out.set_ 0 (.int .u32 7)).set_ 1 (.slice AG (whX l k m) cG)).set_ 2 (.slice AQ 0 cQ)) 3 (.int .i64 ((cutX l m k).en : Int))) ((((QB.out.set_ 0 (.int .u32 7)).set_ 1 (.slice AG (whX l k m) cG)).set_ 2 (.slice AQ 0 cQ)).set_ 3 (.int .i64 ((cutX l m k).en : Int))) 4 (.int .i64 ((cutX l m k).wy : Int)))
        have qB : Blk (World.setCell (World.setCell (World.setCell (World.setCell (World.setCell y42 ⟨gB, 0, none⟩ (.int .u32 7)) ⟨gB, 1, none⟩ (.slice AG (whX l k m) cG)) ⟨gB, 2, none⟩ (.slice AQ 0 cQ)) ⟨gB, 3, none⟩ (.int .i64 ((cutX l m k).en : Int))) ⟨gB, 4, none⟩ (.int .i64 ((cutX l m k).wy : Int))) gB _ #[.int .u32 7, .slice AG (whX l k m) cG, .slice AQ 0 cQ, .int .i64 ((cutX l m k).en : Int), .int .i64 ((cutX l m k).wy : Int)] := (blk_eq (((((QB.out.set_ 0 (.int .u32 7)).set_ 1 (.slice AG (whX l k m) cG)).set_ 2 (.slice AQ 0 cQ)).set_ 3 (.int .i64 ((cutX l m k).en : Int))).set_ 4 (.int .i64 ((cutX l m k).wy : Int))) rfl)
        have QB := Lib.hid qB
        clear qB d0 f0 d1 f1 d2 f2 d3 f3 d4 f4
        generalize (World.setCell (World.setCell (World.setCell (World.setCell (World.setCell y42 ⟨gB, 0, none⟩ (.int .u32 7)) ⟨gB, 1, none⟩ (.slice AG (whX l k m) cG)) ⟨gB, 2, none⟩ (.slice AQ 0 cQ)) ⟨gB, 3, none⟩ (.int .i64 ((cutX l m k).en : Int))) ⟨gB, 4, none⟩ (.int .i64 ((cutX l m k).wy : Int))) = y43 at *
        refine plan_end ?_
        go_wp2_with fail
        go_meet
        case rel => exact ⟨gA, gB, _, AF, cF, AP, cP, X, AG, cG, AQ, cQ, rfl, rfl, ⟨QA.out, RX.out, hX⟩, QB.out, HB.out⟩
    · skip
      go_wp2_with fail
      have hBe := (Below.refl _ wd).alloc (Nat.le_refl _) (.cells #[.int .u32 0, .slice none 0 0, .slice none 0 0, .int .i64 0, .int .i64 0] 33)
      have qB := Blk.new wd 33 #[.int .u32 0, .slice none 0 0, .slice none 0 0, .int .i64 0, .int .i64 0]
      have hsz := HB.out.size
      obtain ⟨gB, hgB⟩ : ∃ g, g = wd.heap.size := ⟨_, rfl⟩
      rw [← hgB] at qB ⊢
      have bB : w1.heap.size ≤ gB := by omega
      have HB := Lib.hid (belowGo HB.out hBe)
      have QB := Lib.hid qB
      clear hgB hsz hBe qB 
      generalize wd.alloc (.cells #[.int .u32 0, .slice none 0 0, .slice none 0 0, .int .i64 0, .int .i64 0] 33) = y44 at *
      refine ⟨HB.out, ?_⟩
      refine plan_fork (by rfl) (by rfl) ?_ ?_
      · skip
        go_wp2_with fail
        refine (Lib.hid (of_segX hml hm20 hf Ab cb _ (HT.out.after HB.out) hcb (RB.out.after HB.out))).out.mono ?_
        rintro e y45 ⟨AF, cF, AP, cP, X, rfl, sX, hX, hBe⟩
        have HB := Lib.hid (belowGo HB.out hBe)
        have QB := Lib.hid (QB.out.after hBe)
        clear hBe
        go_wp2_with fail
        have RX := Lib.hid sX
        clear sX
        refine ⟨HB.out, ?_⟩
        refine plan_fork (by rfl) (by rfl) ?_ ?_
        · skip
          go_wp2_with fail
          refine (Lib.hid (of_cut hml hm20 hf hkm Ab cb _ (HT.out.after HB.out) (by omega) ((RB.out.after HB.out).btake hkm))).out.mono ?_
          rw [cutX_len]
          rintro e y46 ⟨AG, cG, AQ, cQ, rfl, hBe⟩
          have HB := Lib.hid (belowGo HB.out hBe)
          have QB := Lib.hid (QB.out.after hBe)
          have RX := Lib.hid (RX.out.after hBe)
          clear hBe
          go_wp2_with fail
          refine ⟨HB.out, ?_⟩
          refine plan_last (by rfl) (by kernel_rfl) ?_
          go_wp2_with fail
          have lB := QB.out.lt
          have hBe := (Below.refl _ y46).alloc (Nat.le_refl _) (.cells #[.int .u32 0, .slice none 0 0, .slice none 0 0, .int .i64 0, .int .i64 0] 33)
          have qA := Blk.new y46 33 #[.int .u32 0, .slice none 0 0, .slice none 0 0, .int .i64 0, .int .i64 0]
          have hsz := HB.out.size
          obtain ⟨gA, hgA⟩ : ∃ g, g = y46.heap.size := ⟨_, rfl⟩
          rw [← hgA] at qA ⊢
          have bA : w1.heap.size ≤ gA := by omega
          have nAB : gA ≠ gB := by omega
          have HB := Lib.hid (belowGo HB.out hBe)
          have QB := Lib.hid (QB.out.after hBe)
          have RX := Lib.hid (RX.out.after hBe)
          have QA := Lib.hid qA
          clear hgA hsz hBe qA lB
          generalize y46.alloc (.cells #[.int .u32 0, .slice none 0 0, .slice none 0 0, .int .i64 0, .int .i64 0] 33) = y47 at *
          refine plan_last (by rfl) (by kernel_rfl) ?_
          have d0 := QA.out.cell 0
          have f0 := QA.out.frozen 0
          have d1 := QA.out.cell 1
          have f1 := QA.out.frozen 1
          have d2 := QA.out.cell 2
          have f2 := QA.out.frozen 2
          have d3 := QA.out.cell 3
          have f3 := QA.out.frozen 3
          have d4 := QA.out.cell 4
          have f4 := QA.out.frozen 4
          go_wp2_with fail
          have HB := Lib.hid (((((HB.out.setCell (p := ⟨gA, 0, none⟩) bA (.int .u32 7)).setCell (p := ⟨gA, 1, none⟩) bA (.slice AF m cF)).setCell (p := ⟨gA, 2, none⟩) bA (.slice AP 0 cP)).setCell (p := ⟨gA, 3, none⟩) bA (.int .i64 (offX l m : Int))).setCell (p := ⟨gA, 4, none⟩) bA (.int .i64 0))
          have QB := Lib.hid (((((QB.out.far (p := ⟨gA, 0, none⟩) nAB.symm (.int .u32 7)).far (p := ⟨gA, 1, none⟩) nAB.symm (.slice AF m cF)).far (p := ⟨gA, 2, none⟩) nAB.symm (.slice AP 0 cP)).far (p := ⟨gA, 3, none⟩) nAB.symm (.int .i64 (offX l m : Int))).far (p := ⟨gA, 4, none⟩) nAB.symm (.int .i64 0))
          have RX := Lib.hid (ScRow.set (ScRow.set (ScRow.set (ScRow.set (ScRow.set RX.out QA.out 0 (.int .u32 7)) (QA.out.set_ 0 (.int .u32 7)) 1 (.slice AF m cF)) ((QA.out.set_ 0 (.int .u32 7)).set_ 1 (.slice AF m cF)) 2 (.slice AP 0 cP)) (((QA.out.set_ 0 (.int .u32 7)).set_ 1 (.slice AF m cF)).set_ 2 (.slice AP 0 cP)) 3 (.int .i64 (offX l m : Int))) ((((QA.out.set_ 0 (.int .u32 7)).set_ 1 (.slice AF m cF)).set_ 2 (.slice AP 0 cP)).set_ 3 (.int .i64 (offX l m : Int))) 4 (.int .i64 0))
          have qA : Blk (World.setCell (World.setCell (World.setCell (World.setCell (World.setCell y47 ⟨gA, 0, none⟩ (.int .u32 7)) ⟨gA, 1, none⟩ (.slice AF m cF)) ⟨gA, 2, none⟩ (.slice AP 0 cP)) ⟨gA, 3, none⟩ (.int .i64 (offX l m : Int))) ⟨gA, 4, none⟩ (.int .i64 0)) gA _ #[.int .u32 7, .slice AF m cF, .slice AP 0 cP, .int .i64 (offX l m : Int), .int .i64 0] := (blk_eq (((((QA.out.set_ 0 (.int .u32 7)).set_ 1 (.slice AF m cF)).set_ 2 (.slice AP 0 cP)).set_ 3 (.int .i64 (offX l m : Int))).set_ 4 (.int .i64 0)) rfl)
          have QA := Lib.hid qA
          clear qA d0 f0 d1 f1 d2 f2 d3 f3 d4 f4
          generalize (World.setCell (World.setCell (World.setCell (World.setCell (World.setCell y47 ⟨gA, 0, none⟩ (.int .u32 7)) ⟨gA, 1, none⟩ (.slice AF m cF)) ⟨gA, 2, none⟩ (.slice AP 0 cP)) ⟨gA, 3, none⟩ (.int .i64 (offX l m : Int))) ⟨gA, 4, none⟩ (.int .i64 0)) = y48 at *
          refine plan_last (by rfl) (by kernel_rfl) ?_
          have d0 := QB.out.cell 0
          have f0 := QB.out.frozen 0
          have d1 := QB.out.cell 1
          have f1 := QB.out.frozen 1
          have d2 := QB.out.cell 2
          have f2 := QB.out.frozen 2
          have d3 := QB.out.cell 3
          have f3 := QB.out.frozen 3
          have d4 := QB.out.cell 4
          have f4 := QB.out.frozen 4
          go_wp2_with fail
          have HB := Lib.hid (((((HB.out.setCell (p := ⟨gB, 0, none⟩) bB (.int .u32 7)).setCell (p := ⟨gB, 1, none⟩) bB (.slice AG (whX l k m) cG)).setCell (p := ⟨gB, 2, none⟩) bB (.slice AQ 0 cQ)).setCell (p := ⟨gB, 3, none⟩) bB (.int .i64 ((cutX l m k).en : Int))).setCell (p := ⟨gB, 4, none⟩) bB (.int .i64 ((cutX l m k).wy : Int)))
          have RX := Lib.hid (ScRow.set (ScRow.set (ScRow.set (ScRow.set (ScRow.set RX.out QB.out 0 (.int .u32 7)) (QB.out.set_ 0 (.int .u32 7)) 1 (.slice AG (whX l k m) cG)) ((QB.out.set_ 0 (.int .u32 7)).set_ 1 (.slice AG (whX l k m) cG)) 2 (.slice AQ 0 cQ)) (((QB.out.set_ 0 (.int .u32 7)).set_ 1 (.slice AG (whX l k m) cG)).set_ 2 (.slice AQ 0 cQ)) 3 (.int .i64 ((cutX l m k).en : Int))) ((((QB.out.set_ 0 (.int .u32 7)).set_ 1 (.slice AG (whX l k m) cG)).set_ 2 (.slice AQ 0 cQ)).set_ 3 (.int .i64 ((cutX l m k).en : Int))) 4 (.int .i64 ((cutX l m k).wy : Int)))
          have QA := Lib.hid (((((QA.out.far (p := ⟨gB, 0, none⟩) nAB (.int .u32 7)).far (p := ⟨gB, 1, none⟩) nAB (.slice AG (whX l k m) cG)).far (p := ⟨gB, 2, none⟩) nAB (.slice AQ 0 cQ)).far (p := ⟨gB, 3, none⟩) nAB (.int .i64 ((cutX l m k).en : Int))).far (p := ⟨gB, 4, none⟩) nAB (.int .i64 ((cutX l m k).wy : Int)))
          have qB : Blk (World.setCell (World.setCell (World.setCell (World.setCell (World.setCell y48 ⟨gB, 0, none⟩ (.int .u32 7)) ⟨gB, 1, none⟩ (.slice AG (whX l k m) cG)) ⟨gB, 2, none⟩ (.slice AQ 0 cQ)) ⟨gB, 3, none⟩ (.int .i64 ((cutX l m k).en : Int))) ⟨gB, 4, none⟩ (.int .i64 ((cutX l m k).wy : Int))) gB _ #[.int .u32 7, .slice AG (whX l k m) cG, .slice AQ 0 cQ, .int .i64 ((cutX l m k).en : Int), .int .i64 ((cutX l m k).wy : Int)] := (blk_eq (((((QB.out.set_ 0 (.int .u32 7)).set_ 1 (.slice AG (whX l k m) cG)).set_ 2 (.slice AQ 0 cQ)).set_ 3 (.int .i64 ((cutX l m k).en : Int))).set_ 4 (.int .i64 ((cutX l m k).wy : Int))) rfl)
          have QB := Lib.hid qB
          clear qB d0 f0 d1 f1 d2 f2 d3 f3 d4 f4
          generalize (World.setCell (World.setCell (World.setCell (World.setCell (World.setCell y48 ⟨gB, 0, none⟩ (.int .u32 7)) ⟨gB, 1, none⟩ (.slice AG (whX l k m) cG)) ⟨gB, 2, none⟩ (.slice AQ 0 cQ)) ⟨gB, 3, none⟩ (.int .i64 ((cutX l m k).en : Int))) ⟨gB, 4, none⟩ (.int .i64 ((cutX l m k).wy : Int))) = y49 at *
          refine plan_end ?_
          go_wp2_with fail
          go_meet
          case rel => exact ⟨gA, gB, _, AF, cF, AP, cP, X, AG, cG, AQ, cQ, rfl, rfl, ⟨QA.out, RX.out, hX⟩, QB.out, HB.out⟩
        · skip
          go_wp2_with fail
          have lB := QB.out.lt
          have hBe := (Below.refl _ y45).alloc (Nat.le_refl _) (.cells #[.int .u32 0, .slice none 0 0, .slice none 0 0, .int .i64 0, .int .i64 0] 33)
          have qA := Blk.new y45 33 #[.int .u32 0, .slice none 0 0, .slice none 0 0, .int .i64 0, .int .i64 0]
          have hsz := HB.out.size
          obtain ⟨gA, hgA⟩ : ∃ g, g = y45.heap.size := ⟨_, rfl⟩
          rw [← hgA] at qA ⊢
          have bA : w1.heap.size ≤ gA := by omega
          have nAB : gA ≠ gB := by omega
          have HB := Lib.hid (belowGo HB.out hBe)
          have QB := Lib.hid (QB.out.after hBe)
          have RX := Lib.hid (RX.out.after hBe)
          have QA := Lib.hid qA
          clear hgA hsz hBe qA lB
          generalize y45.alloc (.cells #[.int .u32 0, .slice none 0 0, .slice none 0 0, .int .i64 0, .int .i64 0] 33) = y50 at *
          refine ⟨HB.out, ?_⟩
          refine plan_last (by rfl) (by kernel_rfl) ?_
          go_wp2_with fail
          refine (Lib.hid (of_cut hml hm20 hf hkm Ab cb _ (HT.out.after HB.out) (by omega) ((RB.out.after HB.out).btake hkm))).out.mono ?_
          rw [cutX_len]
          rintro e y51 ⟨AG, cG, AQ, cQ, rfl, hBe⟩
          have HB := Lib.hid (belowGo HB.out hBe)
          have QB := Lib.hid (QB.out.after hBe)
          have RX := Lib.hid (RX.out.after hBe)
          have QA := Lib.hid (QA.out.after hBe)
          clear hBe
          go_wp2_with fail
          refine plan_last (by rfl) (by kernel_rfl) ?_
          have d0 := QA.out.cell 0
          have f0 := QA.out.frozen 0
          have d1 := QA.out.cell 1
          have f1 := QA.out.frozen 1
          have d2 := QA.out.cell 2
          have f2 := QA.out.frozen 2
          have d3 := QA.out.cell 3
          have f3 := QA.out.frozen 3
          have d4 := QA.out.cell 4
          have f4 := QA.out.frozen 4
          go_wp2_with fail
          have HB := Lib.hid (((((HB.out.setCell (p := ⟨gA, 0, none⟩) bA (.int .u32 7)).setCell (p := ⟨gA, 1, none⟩) bA (.slice AF m cF)).setCell (p := ⟨gA, 2, none⟩) bA (.slice AP 0 cP)).setCell (p := ⟨gA, 3, none⟩) bA (.int .i64 (offX l m : Int))).setCell (p := ⟨gA, 4, none⟩) bA (.int .i64 0))
          have QB := Lib.hid (((((QB.out.far (p := ⟨gA, 0, none⟩) nAB.symm (.int .u32 7)).far (p := ⟨gA, 1, none⟩) nAB.symm (.slice AF m cF)).far (p := ⟨gA, 2, none⟩) nAB.symm (.slice AP 0 cP)).far (p := ⟨gA, 3, none⟩) nAB.symm (.int .i64 (offX l m : Int))).far (p := ⟨gA, 4, none⟩) nAB.symm (.int .i64 0))
          have RX := Lib.hid (ScRow.set (ScRow.set (ScRow.set (ScRow.set (ScRow.set RX.out QA.out 0 (.int .u32 7)) (QA.out.set_ 0 (.int .u32 7)) 1 (.slice AF m cF)) ((QA.out.set_ 0 (.int .u32 7)).set_ 1 (.slice AF m cF)) 2 (.slice AP 0 cP)) (((QA.out.set_ 0 (.int .u32 7)).set_ 1 (.slice AF m cF)).set_ 2 (.slice AP 0 cP)) 3 (.int .i64 (offX l m : Int))) ((((QA.out.set_ 0 (.int .u32 7)).set_ 1 (.slice AF m cF)).set_ 2 (.slice AP 0 cP)).set_ 3 (.int .i64 (offX l m : Int))) 4 (.int .i64 0))
          have qA : Blk (World.setCell (World.setCell (World.setCell (World.setCell (World.setCell y51 ⟨gA, 0, none⟩ (.int .u32 7)) ⟨gA, 1, none⟩ (.slice AF m cF)) ⟨gA, 2, none⟩ (.slice AP 0 cP)) ⟨gA, 3, none⟩ (.int .i64 (offX l m : Int))) ⟨gA, 4, none⟩ (.int .i64 0)) gA _ #[.int .u32 7, .slice AF m cF, .slice AP 0 cP, .int .i64 (offX l m : Int), .int .i64 0] := (blk_eq (((((QA.out.set_ 0 (.int .u32 7)).set_ 1 (.slice AF m cF)).set_ 2 (.slice AP 0 cP)).set_ 3 (.int .i64 (offX l m : Int))).set_ 4 (.int .i64 0)) rfl)
          have QA := Lib.hid qA
          clear qA d0 f0 d1 f1 d2 f2 d3 f3 d4 f4
          generalize (World.setCell (World.setCell (World.setCell (World.setCell (World.setCell y51 ⟨gA, 0, none⟩ (.int .u32 7)) ⟨gA, 1, none⟩ (.slice AF m cF)) ⟨gA, 2, none⟩ (.slice AP 0 cP)) ⟨gA, 3, none⟩ (.int .i64 (offX l m : Int))) ⟨gA, 4, none⟩ (.int .i64 0)) = y52 at *
          refine plan_last (by rfl) (by kernel_rfl) ?_
          have d0 := QB.out.cell 0
          have f0 := QB.out.frozen 0
          have d1 := QB.out.cell 1
          have f1 := QB.out.frozen 1
          have d2 := QB.out.cell 2
          have f2 := QB.out.frozen 2
          have d3 := QB.out.cell 3
          have f3 := QB.out.frozen 3
          have d4 := QB.out.cell 4
          have f4 := QB.out.frozen 4
          go_wp2_with fail
          have HB := Lib.hid (((((HB.out.setCell (p := ⟨gB, 0, none⟩) bB (.int .u32 7)).setCell (p := ⟨gB, 1, none⟩) bB (.slice AG (whX l k m) cG)).setCell (p := ⟨gB, 2, none⟩) bB (.slice AQ 0 cQ)).setCell (p := ⟨gB, 3, none⟩) bB (.int .i64 ((cutX l m k).en : Int))).setCell (p := ⟨gB, 4, none⟩) bB (.int .i64 ((cutX l m k).wy : Int)))
          have RX := Lib.hid (ScRow.set (ScRow.set (ScRow.set (ScRow.set (ScRow.set RX.out QB.out 0 (.int .u32 7)) (QB.out.set_ 0 (.int .u32 7)) 1 (.slice AG (whX l k m) cG)) ((QB.out.set_ 0 (.int .u32 7)).set_ 1 (.slice AG (whX l k m) cG)) 2 (.slice AQ 0 cQ)) (((QB.out.set_ 0 (.int .u32 7)).set_ 1 (.slice AG (whX l k m) cG)).set_ 2 (.slice AQ 0 cQ)) 3 (.int .i64 ((cutX l m k).en : Int))) ((((QB.out.set_ 0 (.int .u32 7)).set_ 1 (.slice AG (whX l k m) cG)).set_ 2 (.slice AQ 0 cQ)).set_ 3 (.int .i64 ((cutX l m k).en : Int))) 4 (.int .i64 ((cutX l m k).wy : Int)))
          have QA := Lib.hid (((((QA.out.far (p := ⟨gB, 0, none⟩) nAB (.int .u32 7)).far (p := ⟨gB, 1, none⟩) nAB (.slice AG (whX l k m) cG)).far (p := ⟨gB, 2, none⟩) nAB (.slice AQ 0 cQ)).far (p := ⟨gB, 3, none⟩) nAB (.int .i64 ((cutX l m k).en : Int))).far (p := ⟨gB, 4, none⟩) nAB (.int .i64 ((cutX l m k).wy : Int)))
          have qB : Blk (World.setCell (World.setCell (World.setCell (World.setCell (World.setCell y52 ⟨gB, 0, none⟩ (.int .u32 7)) ⟨gB, 1, none⟩ (.slice AG (whX l k m) cG)) ⟨gB, 2, none⟩ (.slice AQ 0 cQ)) ⟨gB, 3, none⟩ (.int .i64 ((cutX l m k).en : Int))) ⟨gB, 4, none⟩ (.int .i64 ((cutX l m k).wy : Int))) gB _ #[.int .u32 7, .slice AG (whX l k m) cG, .slice AQ 0 cQ, .int .i64 ((cutX l m k).en : Int), .int .i64 ((cutX l m k).wy : Int)] := (blk_eq (((((QB.out.set_ 0 (.int .u32 7)).set_ 1 (.slice AG (whX l k m) cG)).set_ 2 (.slice AQ 0 cQ)).set_ 3 (.int .i64 ((cutX l m k).en : Int))).set_ 4 (.int .i64 ((cutX l m k).wy : Int))) rfl)
          have QB := Lib.hid qB
          clear qB d0 f0 d1 f1 d2 f2 d3 f3 d4 f4
          generalize (World.setCell (World.setCell (World.setCell (World.setCell (World.setCell y52 ⟨gB, 0, none⟩ (.int .u32 7)) ⟨gB, 1, none⟩ (.slice AG (whX l k m) cG)) ⟨gB, 2, none⟩ (.slice AQ 0 cQ)) ⟨gB, 3, none⟩ (.int .i64 ((cutX l m k).en : Int))) ⟨gB, 4, none⟩ (.int .i64 ((cutX l m k).wy : Int))) = y53 at *
          refine plan_end ?_
          go_wp2_with fail
          go_meet
          case rel => exact ⟨gA, gB, _, AF, cF, AP, cP, X, AG, cG, AQ, cQ, rfl, rfl, ⟨QA.out, RX.out, hX⟩, QB.out, HB.out⟩
      · skip
        go_wp2_with fail
        have lB := QB.out.lt
        have hBe := (Below.refl _ y44).alloc (Nat.le_refl _) (.cells #[.int .u32 0, .slice none 0 0, .slice none 0 0, .int .i64 0, .int .i64 0] 33)
        have qA := Blk.new y44 33 #[.int .u32 0, .slice none 0 0, .slice none 0 0, .int .i64 0, .int .i64 0]
        have hsz := HB.out.size
        obtain ⟨gA, hgA⟩ : ∃ g, g = y44.heap.size := ⟨_, rfl⟩
        rw [← hgA] at qA ⊢
        have bA : w1.heap.size ≤ gA := by omega
        have nAB : gA ≠ gB := by omega
        have HB := Lib.hid (belowGo HB.out hBe)
        have QB := Lib.hid (QB.out.after hBe)
        have QA := Lib.hid qA
        clear hgA hsz hBe qA lB
        generalize y44.alloc (.cells #[.int .u32 0, .slice none 0 0, .slice none 0 0, .int .i64 0, .int .i64 0] 33) = y54 at *
        refine ⟨HB.out, ?_⟩
        refine plan_last (by rfl) (by kernel_rfl) ?_
        go_wp2_with fail
        refine (Lib.hid (of_segX hml hm20 hf Ab cb _ (HT.out.after HB.out) hcb (RB.out.after HB.out))).out.mono ?_
        rintro e y55 ⟨AF, cF, AP, cP, X, rfl, sX, hX, hBe⟩
        have HB := Lib.hid (belowGo HB.out hBe)
        have QB := Lib.hid (QB.out.after hBe)
        have QA := Lib.hid (QA.out.after hBe)
        clear hBe
        go_wp2_with fail
        have RX := Lib.hid sX
        clear sX
        refine plan_last (by rfl) (by kernel_rfl) ?_
        go_wp2_with fail
        refine (Lib.hid (of_cut hml hm20 hf hkm Ab cb _ (HT.out.after HB.out) (by omega) ((RB.out.after HB.out).btake hkm))).out.mono ?_
        rw [cutX_len]
        rintro e y56 ⟨AG, cG, AQ, cQ, rfl, hBe⟩
        have HB := Lib.hid (belowGo HB.out hBe)
        have QB := Lib.hid (QB.out.after hBe)
        have QA := Lib.hid (QA.out.after hBe)
        have RX := Lib.hid (RX.out.after hBe)
        clear hBe
        go_wp2_with fail
        refine plan_last (by rfl) (by kernel_rfl) ?_
        have d0 := QA.out.cell 0
        have f0 := QA.out.frozen 0
        have d1 := QA.out.cell 1
        have f1 := QA.out.frozen 1
        have d2 := QA.out.cell 2
        have f2 := QA.out.frozen 2
        have d3 := QA.out.cell 3
        have f3 := QA.out.frozen 3
        have d4 := QA.out.cell 4
        have f4 := QA.out.frozen 4
        go_wp2_with fail
        have HB := Lib.hid (((((HB.out.setCell (p := ⟨gA, 0, none⟩) bA (.int .u32 7)).setCell (p := ⟨gA, 1, none⟩) bA (.slice AF m cF)).setCell (p := ⟨gA, 2, none⟩) bA (.slice AP 0 cP)).setCell (p := ⟨gA, 3, none⟩) bA (.int .i64 (offX l m : Int))).setCell (p := ⟨gA, 4, none⟩) bA (.int .i64 0))
        have QB := Lib.hid (((((QB.out.far (p := ⟨gA, 0, none⟩) nAB.symm (.int .u32 7)).far (p := ⟨gA, 1, none⟩) nAB.symm (.slice AF m cF)).far (p := ⟨gA, 2, none⟩) nAB.symm (.slice AP 0 cP)).far (p := ⟨gA, 3, none⟩) nAB.symm (.int .i64 (offX l m : Int))).far (p := ⟨gA, 4, none⟩) nAB.symm (.int .i64 0))
        have RX := Lib.hid (ScRow.set (ScRow.set (ScRow.set (ScRow.set (ScRow.set RX.out QA.out 0 (.int .u32 7)) (QA.out.set_ 0 (.int .u32 7)) 1 (.slice AF m cF)) ((QA.out.set_ 0 (.int .u32 7)).set_ 1 (.slice AF m cF)) 2 (.slice AP 0 cP)) (((QA.out.set_ 0 (.int .u32 7)).set_ 1 (.slice AF m cF)).set_ 2 (.slice AP 0 cP)) 3 (.int .i64 (offX l m : Int))) ((((QA.out.set_ 0 (.int .u32 7)).set_ 1 (.slice AF m cF)).set_ 2 (.slice AP 0 cP)).set_ 3 (.int .i64 (offX l m : Int))) 4 (.int .i64 0))
        have qA : Blk (World.setCell (World.setCell (World.setCell (World.setCell (World.setCell y56 ⟨gA, 0, none⟩ (.int .u32 7)) ⟨gA, 1, none⟩ (.slice AF m cF)) ⟨gA, 2, none⟩ (.slice AP 0 cP)) ⟨gA, 3, none⟩ (.int .i64 (offX l m : Int))) ⟨gA, 4, none⟩ (.int .i64 0)) gA _ #[.int .u32 7, .slice AF m cF, .slice AP 0 cP, .int .i64 (offX l m : Int), .int .i64 0] := (blk_eq (((((QA.out.set_ 0 (.int .u32 7)).set_ 1 (.slice AF m cF)).set_ 2 (.slice AP 0 cP)).set_ 3 (.int .i64 (offX l m : Int))).set_ 4 (.int .i64 0)) rfl)
        have QA := Lib.hid qA
        clear qA d0 f0 d1 f1 d2 f2 d3 f3 d4 f4
        generalize (World.setCell (World.setCell (World.setCell (World.setCell (World.setCell y56 ⟨gA, 0, none⟩ (.int .u32 7)) ⟨gA, 1, none⟩ (.slice AF m cF)) ⟨gA, 2, none⟩ (.slice AP 0 cP)) ⟨gA, 3, none⟩ (.int .i64 (offX l m : Int))) ⟨gA, 4, none⟩ (.int .i64 0)) = y57 at *
        refine plan_last (by rfl) (by kernel_rfl) ?_
        have d0 := QB.out.cell 0
        have f0 := QB.out.frozen 0
        have d1 := QB.out.cell 1
        have f1 := QB.out.frozen 1
        have d2 := QB.out.cell 2
        have f2 := QB.out.frozen 2
        have d3 := QB.out.cell 3
        have f3 := QB.out.frozen 3
        have d4 := QB.out.cell 4
        have f4 := QB.out.frozen 4
        go_wp2_with fail
        have HB := Lib.hid (((((HB.out.setCell (p := ⟨gB, 0, none⟩) bB (.int .u32 7)).setCell (p := ⟨gB, 1, none⟩) bB (.slice AG (whX l k m) cG)).setCell (p := ⟨gB, 2, none⟩) bB (.slice AQ 0 cQ)).setCell (p := ⟨gB, 3, none⟩) bB (.int .i64 ((cutX l m k).en : Int))).setCell (p := ⟨gB, 4, none⟩) bB (.int .i64 ((cutX l m k).wy : Int)))
        have QA := Lib.hid (((((QA.out.far (p := ⟨gB, 0, none⟩) nAB (.int .u32 7)).far (p := ⟨gB, 1, none⟩) nAB (.slice AG (whX l k m) cG)).far (p := ⟨gB, 2, none⟩) nAB (.slice AQ 0 cQ)).far (p := ⟨gB, 3, none⟩) nAB (.int .i64 ((cutX l m k).en : Int))).far (p := ⟨gB, 4, none⟩) nAB (.int .i64 ((cutX l m k).wy : Int)))
        have RX := Lib.hid (ScRow.set (ScRow.set (ScRow.set (ScRow.set (ScRow.set RX.out QB.out 0 (.int .u32 7)) (QB.out.set_ 0 (.int .u32 7)) 1 (.slice AG (whX l k m) cG)) ((QB.out.set_ 0 (.int .u32 7)).set_ 1 (.slice AG (whX l k m) cG)) 2 (.slice AQ 0 cQ)) (((QB.out.set_ 0 (.int .u32 7)).set_ 1 (.slice AG (whX l k m) cG)).set_ 2 (.slice AQ 0 cQ)) 3 (.int .i64 ((cutX l m k).en : Int))) ((((QB.out.set_ 0 (.int .u32 7)).set_ 1 (.slice AG (whX l k m) cG)).set_ 2 (.slice AQ 0 cQ)).set_ 3 (.int .i64 ((cutX l m k).en : Int))) 4 (.int .i64 ((cutX l m k).wy : Int)))
        have qB : Blk (World.setCell (World.setCell (World.setCell (World.setCell (World.setCell y57 ⟨gB, 0, none⟩ (.int .u32 7)) ⟨gB, 1, none⟩ (.slice AG (whX l k m) cG)) ⟨gB, 2, none⟩ (.slice AQ 0 cQ)) ⟨gB, 3, none⟩ (.int .i64 ((cutX l m k).en : Int))) ⟨gB, 4, none⟩ (.int .i64 ((cutX l m k).wy : Int))) gB _ #[.int .u32 7, .slice AG (whX l k m) cG, .slice AQ 0 cQ, .int .i64 ((cutX l m k).en : Int), .int .i64 ((cutX l m k).wy : Int)] := (blk_eq (((((QB.out.set_ 0 (.int .u32 7)).set_ 1 (.slice AG (whX l k m) cG)).set_ 2 (.slice AQ 0 cQ)).set_ 3 (.int .i64 ((cutX l m k).en : Int))).set_ 4 (.int .i64 ((cutX l m k).wy : Int))) rfl)
        have QB := Lib.hid qB
        clear qB d0 f0 d1 f1 d2 f2 d3 f3 d4 f4
        generalize (World.setCell (World.setCell (World.setCell (World.setCell (World.setCell y57 ⟨gB, 0, none⟩ (.int .u32 7)) ⟨gB, 1, none⟩ (.slice AG (whX l k m) cG)) ⟨gB, 2, none⟩ (.slice AQ 0 cQ)) ⟨gB, 3, none⟩ (.int .i64 ((cutX l m k).en : Int))) ⟨gB, 4, none⟩ (.int .i64 ((cutX l m k).wy : Int))) = y58 at *
        refine plan_end ?_
        go_wp2_with fail
        go_meet
        case rel => exact ⟨gA, gB, _, AF, cF, AP, cP, X, AG, cG, AQ, cQ, rfl, rfl, ⟨QA.out, RX.out, hX⟩, QB.out, HB.out⟩
  case rest =>
  obtain ⟨gX, gY, lo, AF, cF, AP, cP, X, AG, cG, AQ, cQ, rfl, rfl, bx, qY, hc⟩ := hcut
  have HEN := Lib.hid (show (cutX l m k).en = if k < 16 then 0 else offX l (whX l k m) by unfold cutX; split <;> rfl)
  have HWY := Lib.hid (show (cutX l m k).wy = if k < 16 then 22 else if k = offX l (whX l k m) then 0 else 22 by unfold cutX; split <;> rfl)
  generalize (cutX l m k).en = en at *
  generalize (cutX l m k).wy = wy at *
  have BX := Lib.hid bx
  have QY := Lib.hid qY
  have hT := HT.out.after hc
  have rb := RB.out.after hc
  have ou : Ow _ _ _ _ _ _ _ := Ow.after OU.out hc
  have hb := belowGo HB0.out hc
  have HT := Lib.hid hT
  have RB := Lib.hid rb
  have OU : Hid (Ow _ _ _ _ _ _ _) := Lib.hid ou
  have HB0 := Lib.hid hb
  clear bx qY hT rb ou hb hc hkc
  go_upto_region 4 with (fail)
  go_cut [72] from 36 to 72 (fun v wx => v = .bool false ∧ Below wc.heap.size wc wx)
  case first =>
    have hc0 := Below.drew_ wc
    refine wp_region_tree (fun W => Below wc.heap.size wc W) (row [.calms [0, 3, 4], .read 1, .calms [2, 5, 6, 7], .read 8, .calms [9, 10, 11, 12, 13, 15, 16], .read 14, .calms [17, 18, 19, 20], .read 21, .calms [22, 23, 24], .read 25, .read 26, .act 27, .act 28, .calms [29, 30, 31, 32, 33], .read 34, .calms [35, 36]] .done) (by kernel_rfl) (by rfl) (by kernel_rfl) (by kernel_rfl) hc0 ?_
    have HC := Lib.hid hc0
    clear hc0
    generalize wc.drew = wd at *
    refine plan_calms (by simp [calmRow, need]; rfl) ?_
    go_wp2_with fail
    refine plan_read (by rfl) (.slice AF m cF) (by rfl) (fun W hW => exec_load rfl rfl (by kernel_rfl) ((BX.out.after hW).q.cell 1)) ?_
    refine plan_calms (by simp [calmRow, need, chk]; rfl) ?_
    go_wp2_with fail
    refine plan_read (by rfl) (.slice AP 0 cP) (by rfl) (fun W hW => exec_load rfl rfl (by kernel_rfl) ((BX.out.after hW).q.cell 2)) ?_
    refine plan_calms (by simp [calmRow, need, chk]; rfl) ?_
    go_wp2_with fail
    refine plan_read (by rfl) (.int .i64 (offX l m : Int)) (by rfl) (fun W hW => exec_load rfl rfl (by kernel_rfl) ((BX.out.after hW).q.cell 3)) ?_
    refine plan_calms (by simp [calmRow, need, chk]; rfl) ?_
    go_wp2_with fail
    refine plan_read (by rfl) (.int .i64 0) (by rfl) (fun W hW => exec_load rfl rfl (by kernel_rfl) ((BX.out.after hW).q.cell 4)) ?_
    refine plan_calms (by simp [calmRow, need, chk]; rfl) ?_
    go_wp2_with fail
    refine plan_read (by rfl) (.agg #[.int .u32 7, .slice AF m cF, .slice AP 0 cP, .int .i64 (offX l m : Int), .int .i64 0]) (by rfl) (fun W hW => exec_load_blk rfl rfl (BX.out.after hW).q Tryd.underlying33 rfl (by kernel_rfl)) ?_
    refine plan_read (by rfl) (.agg #[.int .u32 7, .slice AF m cF, .slice AP 0 cP, .int .i64 (offX l m : Int), .int .i64 0]) (by rfl) (fun W hW => exec_load_blk rfl rfl (BX.out.after hW).q Tryd.underlying33 rfl (by kernel_rfl)) ?_
    refine plan_act (by rfl) ?_
    go_wp2_with fail
    refine (Lib.hid (seal_segX hml hm20 hf (BX.out.after HC.out))).out.mono ?_
    rintro e y59 ⟨rfl, hBe⟩
    have HC := Lib.hid (belowGo HC.out hBe)
    clear hBe
    go_wp2_with fail
    refine ⟨HC.out, ?_⟩
    refine plan_act (by rfl) ?_
    go_wp2_with fail
    refine (Lib.hid (lost_own hml hm20 hf (BX.out.after HC.out))).out.mono ?_
    unfold RetLost
    rintro e y60 ⟨vL, rfl, oL, hBe⟩
    obtain ⟨AL, cL, rfl⟩ := own_slice oL
    have HC := Lib.hid (belowGo HC.out hBe)
    clear hBe
    go_wp2_with fail
    refine ⟨HC.out, ?_⟩
    refine plan_calms (by simp [calmRow, need, chk]; rfl) ?_
    go_wp2_with fail
    refine plan_read (by rfl) (.int .u32 7) (by rfl) (fun W hW => exec_load rfl rfl (by kernel_rfl) ((BX.out.after hW).q.cell 0)) ?_
    refine plan_calms (by simp [calmRow, need, chk]; rfl) ?_
    go_wp2_with fail
    refine plan_end ?_
    go_wp2_with fail
    go_meet
    case rel => exact ⟨rfl, HC.out⟩
  case rest =>
  obtain ⟨rfl, hc⟩ := hcut
  have bx := BX.out.after hc
  have qY := QY.out.after hc
  have hT := HT.out.after hc
  have rb := RB.out.after hc
  have ou : Ow _ _ _ _ _ _ _ := Ow.after OU.out hc
  have hb := belowGo HB0.out hc
  have BX := Lib.hid bx
  have QY := Lib.hid qY
  have HT := Lib.hid hT
  have RB := Lib.hid rb
  have OU : Hid (Ow _ _ _ _ _ _ _) := Lib.hid ou
  have HB0 := Lib.hid hb
  clear bx qY hT rb ou hb hc
  go_wp2_with fail
  go_loopw [12, 13, 14] (fun wh en' i wr => ∃ j : Nat, j ≤ m ∧ i = .int .i64 (j : Int) ∧ wh = .int .i64 (whX l k j : Int) ∧ en' = .int .i64 (offX l (whX l k j) : Int) ∧ Below wc.heap.size wc wr) (fun _ _ i _ => m - (intOf i).toNat)
  case atStart => exact ⟨0, Nat.zero_le _, rfl, rfl, by unfold whX; rw [offX_zero]; rfl, Below.refl _ _⟩
  case round =>
    obtain ⟨j, hj, rfl, rfl, rfl, hb⟩ := hrel
    by_cases hlt : j < m
    · have i1 : (j : Int) < (m : Int) := by omega
      obtain ⟨gF, rfl, gK, gV, F1⟩ := BX.out.row hml hm20 hf hlt
      have F1 := F1.after hb
      have qx1 := (BX.out.q.after hb).cell 1
      have hpx : (offX l (j + 1) : Int) - (offX l j : Int) = ((prX l j).len : Int) := by rw [offX_succ]; omega
      obtain ⟨kr, hka⟩ : ∃ r, (prX l j).a = UInt8.ofNat j :: r := ⟨_, rfl⟩
      have hkl : (0 : Int) < ((prX l j).a.length : Int) := by rw [hka]; simp
      have ho32 := (offX_le l j).2
      have eo : (offX l j : Int) % 4294967296 = (offX l j : Int) := by omega
      have ej8 : (j : Int) % 256 = (j : Int) := by omega
      have ou := Ow.after OU.out hb
      obtain ⟨gU, c', hA, _, _⟩ := own_ptr ou (by omega)
      injection hA with hA e1 e2
      clear e1 e2
      subst hA
      have hU : ∀ W, Below wr.heap.size wr W → _ := fun W (hW : Below wr.heap.size wr W) => pl_cell (Ow.after ou hW) hlt
      have hwh : whX l k (j + 1) = if offX l (j + 1) ≤ k then j + 1 else whX l k j := by rw [whX]
      have hln := prX_len l j
      obtain ⟨of, hof⟩ : ∃ x, x = offX l j := ⟨_, rfl⟩
      obtain ⟨of2, hof2⟩ : ∃ x, x = offX l (j + 1) := ⟨_, rfl⟩
      obtain ⟨sq, hsq⟩ : ∃ x, x = seqL (l.take (j + 1)) := ⟨_, rfl⟩
      rw [← hof] at hpx ho32 eo hU F1
      rw [← hof2] at hpx hU hwh
      rw [← hsq] at hU F1
      have HOF2 := Lib.hid hof2
      have hb2 : of2 < 4294967296 := by omega
      clear hof hof2 hsq
      have HWH := Lib.hid hwh
      generalize hw1 : whX l k (j + 1) = wh1 at *
      generalize whX l k j = wh0 at *
      have HKA := Lib.hid hka
      have hbk : wr.cell? ⟨gK, 0, none⟩ = some (.int .u8 (j : Int)) := by have := F1.key0 hka; rwa [UInt8.toNat_ofNat', Nat.mod_eq_of_lt (by omega)] at this
      generalize (prX l j).a = ka at *
      generalize (prX l j).b = va at *
      generalize (prX l j).len = ln at *
      have c0 : wr.cell? ⟨gF, j * 9, none⟩ = some (.int .u32 7) := by have := F1.at_ 0 _ rfl; rwa [Nat.add_zero] at this
      have c1 := F1.cell 1 _ rfl
      have c2 := F1.cell 2 _ rfl
      have c3 := F1.cell 3 _ rfl
      have c4 := F1.cell 4 _ rfl
      have c5 := F1.cell 5 _ rfl
      have c6 := F1.cell 6 _ rfl
      have c7 := F1.cell 7 _ rfl
      have c8 := F1.cell 8 _ rfl
      have hgk : gK < wr.heap.size := by
        obtain ⟨_, _, e, hl2, _⟩ := F1.rK.2.2 (by omega)
        injection e with e
        injection e with e1 e2
        subst e1
        exact hl2
      have HU := Lib.hid hU
      have HBj := Lib.hid hb
      have HLT := Lib.hid hlt
      have HBK := Lib.hid hbk
      have HW1 := Lib.hid hw1
      clear hb hlt hU hbk hka F1 ou hwh hw1 ho32 hln
      go_upto_region 11 with (fail)
      clear c0 c1 c2 c3 c4 c5 c6 c7 c8 qx1
      have bA := (Below.refl wr.heap.size wr).alloc (Nat.le_refl _) (.cells #[.int .u32 7, .int .u32 (of : Int), .int .i64 (ln : Int), .int .u64 (sq : Int), .int .i64 1, .slice (some ⟨gK, 0, none⟩) ka.length ka.length, .slice (some ⟨gV, 0, none⟩) va.length va.length, .int .u32 0, .int .u32 0] 46)
      have qF := Blk.newAt wr 46 #[.int .u32 7, .int .u32 (of : Int), .int .i64 (ln : Int), .int .u64 (sq : Int), .int .i64 1, .slice (some ⟨gK, 0, none⟩) ka.length ka.length, .slice (some ⟨gV, 0, none⟩) va.length va.length, .int .u32 0, .int .u32 0] (g := wr.heap.size) rfl
      obtain ⟨g15, hg15⟩ : ∃ g, g = wr.heap.size := ⟨_, rfl⟩
      rw [← hg15] at qF ⊢
      clear hg15
      generalize wr.alloc (.cells #[.int .u32 7, .int .u32 (of : Int), .int .i64 (ln : Int), .int .u64 (sq : Int), .int .i64 1, .slice (some ⟨gK, 0, none⟩) ka.length ka.length, .slice (some ⟨gV, 0, none⟩) va.length va.length, .int .u32 0, .int .u32 0] 46) = y0 at *
      have QF := Lib.hid qF
      have BA := Lib.hid bA
      have hzz := bA.size
      clear qF bA
      have hc0 := Below.drew_ y0
      refine wp_region_tree (fun W => Below y0.heap.size y0 W) (row [.calms [0, 2, 3, 4, 5], .read 1, .read 6, .calms [7], .read 8, .read 9, .calms [10, 11, 13, 14, 15, 16, 18, 19, 20, 21], .read 12, .read 17, .read 22, .calms [23, 24, 25, 26, 27, 28, 30, 31, 32, 33], .read 29, .read 34, .calms [35, 36, 37, 38, 39, 43, 44], .read 40, .calms [41], .read 42, .calms [45, 46]] .done) (by kernel_rfl) (by rfl) (by kernel_rfl) (by kernel_rfl) hc0 ?_
      have HC := Lib.hid hc0
      clear hc0
      generalize y0.drew = wd at *
      refine plan_calms (by simp [calmRow, need]; rfl) ?_
      go_wp2_with fail
      refine plan_read (by rfl) (.agg #[.int .u32 7, .int .u32 (of : Int)]) (by rfl) (fun W hW => exec_load_mid rfl rfl (blk_at (QF.out.after hW) 0 2) Tryd.underlying42 rfl (by kernel_rfl)) ?_
      refine plan_read (by rfl) (.int .i64 (of : Int)) (by rfl) (fun W hW => exec_load rfl rfl (by kernel_rfl) (HU.out W (BA.out.trans (hW.mono hzz))).1) ?_
      refine plan_calms (by simp [calmRow, need, chk]; rfl) ?_
      go_wp2_with fail
      refine plan_read (by rfl) (.agg #[.int .u32 7, .int .u32 (of : Int)]) (by rfl) (fun W _ => exec_build rfl (by kernel_rfl)) ?_
      refine plan_read (by rfl) (.bool false) (by rfl) (fun W _ => exec_bin rfl (neq_loc 7 (of) _ _ W)) ?_
      refine plan_calms (by simp [calmRow, need]; rfl) ?_
      go_wp2_with fail
      refine plan_read (by rfl) (.int .i64 (ln : Int)) (by rfl) (fun W hW => exec_load rfl rfl (by kernel_rfl) ((QF.out.after hW).cell 2)) ?_
      refine plan_read (by rfl) (.int .i64 (of2 : Int)) (by rfl) (fun W hW => exec_load rfl rfl (by kernel_rfl) (HU.out W (BA.out.trans (hW.mono hzz))).2.1) ?_
      refine plan_read (by rfl) (.int .i64 (of : Int)) (by rfl) (fun W hW => exec_load rfl rfl (by kernel_rfl) (HU.out W (BA.out.trans (hW.mono hzz))).1) ?_
      refine plan_calms (by simp [calmRow, need, chk]; rfl) ?_
      go_wp2_with fail
      refine plan_read (by rfl) (.int .u64 (sq : Int)) (by rfl) (fun W hW => exec_load rfl rfl (by kernel_rfl) ((QF.out.after hW).cell 3)) ?_
      refine plan_read (by rfl) (.int .u64 (sq : Int)) (by rfl) (fun W hW => exec_load rfl rfl (by kernel_rfl) (HU.out W (BA.out.trans (hW.mono hzz))).2.2) ?_
      refine plan_calms (by simp [calmRow, need, chk]; rfl) ?_
      go_wp2_with fail
      refine plan_read (by rfl) (.slice (some ⟨gK, 0, none⟩) ka.length ka.length) (by rfl) (fun W hW => exec_load rfl rfl (by kernel_rfl) ((QF.out.after hW).cell 5)) ?_
      refine plan_calms (by simp [calmRow, need]; rfl) ?_
      go_wp2_with fail
      refine plan_read (by rfl) (.int .u8 (j : Int)) (by rfl) (fun W hW => exec_load rfl rfl (by kernel_rfl) (((BA.out.trans (hW.mono hzz)).cell (p := ⟨gK, 0, none⟩) hgk).trans HBK.out)) ?_
      refine plan_calms (by simp [calmRow, need, chk]; rfl) ?_
      go_wp2_with fail
      refine plan_end ?_
      have b2 := Lib.hid (HBj.out.trans ((BA.out.trans (HC.out.mono hzz)).mono HBj.out.size))
      have u1 := (HU.out _ (BA.out.trans (HC.out.mono hzz))).2.1
      have HCd := HC
      by_cases hle : of2 ≤ k
      · have i3 : (of2 : Int) ≤ (k : Int) := by omega
        have e5 : wh1 = j + 1 := by rw [HWH.out, if_pos hle]
        have HE5 := Lib.hid e5
        clear e5 hle
        go_upto_region 14 with (fail)
        have hc0 := Below.drew_ wd
        refine wp_region_tree (fun W => Below wd.heap.size wd W) (row [.calms [0, 1, 2, 3, 4, 5, 7], .read 6, .calms [8]] .done) (by kernel_rfl) (by rfl) (by kernel_rfl) (by kernel_rfl) hc0 ?_
        have HC := Lib.hid hc0
        clear hc0
        generalize wd.drew = we at *
        refine plan_calms (by simp [calmRow, need, chk]; rfl) ?_
        go_wp2_with fail
        refine plan_read (by rfl) (.int .i64 (of2 : Int)) (by rfl) (fun W hW => exec_load rfl rfl (by kernel_rfl) (HU.out W (BA.out.trans ((HCd.out.trans (hW.mono HCd.out.size)).mono hzz))).2.1) ?_
        refine plan_calms (by simp [calmRow, need]; rfl) ?_
        go_wp2_with fail
        refine plan_end ?_
        clear u1
        go_wp2_with fail
        go_roundw
        case rel => exact ⟨j + 1, by have := HLT.out; omega, by go_num, by rw [HW1.out, HE5.out]; go_num, by rw [HW1.out, HE5.out, ← HOF2.out], b2.out.trans (HC.out.mono (Nat.le_trans HBj.out.size (Nat.le_trans hzz HCd.out.size)))⟩
        case measure => have := HLT.out; simp [intOf]; omega
      · have i3 : ¬ (of2 : Int) ≤ (k : Int) := by omega
        have e5 : wh1 = wh0 := by rw [HWH.out, if_neg hle]
        have HE5 := Lib.hid e5
        clear e5 hle
        go_wp2_with fail
        go_roundw
        case rel => exact ⟨j + 1, by have := HLT.out; omega, by go_num, by rw [HW1.out, HE5.out], by rw [HW1.out, HE5.out], b2.out⟩
        case measure => have := HLT.out; simp [intOf]; omega
    · have hjm : j = m := by omega
      rw [hjm]
      have i1 : ¬ (m : Int) < (m : Int) := by omega
      have bx := BX.out.after hb
      have qY := QY.out.after hb
      have hT := HT.out.after hb
      have rb := RB.out.after hb
      have ou : Ow _ _ _ _ _ _ _ := Ow.after OU.out hb
      have hbb := belowGo HB0.out hb
      have BX := Lib.hid bx
      have QY := Lib.hid qY
      have HT := Lib.hid hT
      have RB := Lib.hid rb
      have OU : Hid (Ow _ _ _ _ _ _ _) := Lib.hid ou
      have HB := Lib.hid hbb
      have y1 := qY.cell 1
      clear bx qY hT rb ou hbb hb hjm hj hlt
      generalize offX l (whX l k m) = e0 at *
      generalize whX l k m = wh at *
      go_upto_if 152 with (fail)
      clear y1
      go_cut [16] from 152 to 152 (fun v16 wx => v16 = .int .i64 ((if k = e0 then 0 else 22 : Nat) : Int) ∧ wx = wr)
      case first =>
        by_cases hke : k = e0
        · have i3 : ((k : Int) == (e0 : Int)) = true := by rw [hke]; simp
          have HK := Lib.hid hke
          clear hke
          go_wp2_with fail
          go_meet
          case rel => exact ⟨by rw [if_pos HK.out]; rfl, rfl⟩
        · have i3 : ((k : Int) == (e0 : Int)) = false := by simp; omega
          have HK := Lib.hid hke
          clear hke
          go_wp2_with fail
          go_meet
          case rel => exact ⟨by rw [if_neg HK.out]; rfl, rfl⟩
      case rest =>
      obtain ⟨rfl, rfl⟩ := hcut
      obtain ⟨wy0, hwy0⟩ : ∃ x, x = (if k = e0 then 0 else 22 : Nat) := ⟨_, rfl⟩
      rw [← hwy0] at HWY ⊢
      clear hwy0 i1
      go_upto_if 154 with (fail)
      go_cut [13, 16] from 154 to 154 (fun v13 v16 wx => v13 = .int .i64 (en : Int) ∧ v16 = .int .i64 (wy : Int) ∧ wx = wc)
      case first =>
        by_cases hke : k < 16
        · have i3 : (k : Int) < 16 := by omega
          have h1 := HEN.out
          have h2 := HWY.out
          rw [if_pos hke] at h1 h2
          subst h1
          subst h2
          clear hke
          go_wp2_with fail
          go_meet
          case rel => exact ⟨rfl, rfl, rfl⟩
        · have i3 : ¬ (k : Int) < 16 := by omega
          have h1 := HEN.out
          have h2 := HWY.out
          rw [if_neg hke] at h1 h2
          subst h1
          subst h2
          clear hke
          go_wp2_with fail
          go_meet
          case rel => exact ⟨rfl, rfl, rfl⟩
      case rest =>
      obtain ⟨rfl, rfl, rfl⟩ := hcut
      have x0 := BX.out.q.cell 0
      have x1 := BX.out.q.cell 1
      have x2 := BX.out.q.cell 2
      have x3 := BX.out.q.cell 3
      have x4 := BX.out.q.cell 4
      have HS := Lib.hid (seal_segX hml hm20 hf BX.out)
      go_wp2_with fail
      refine HS.out.mono ?_
      rintro e w5 ⟨rfl, b5⟩
      clear x0 x1 x2 x3 x4 HS
      have bA := b5.alloc b5.size (.cells #[.int .u32 7, .int .u32 (offX l m : Int), .int .u32 (m : Int), .int .u64 (firstX l m : Int), .int .u64 (seqL (l.take m) : Int)] 39)
      have q17 := Blk.newAt w5 39 #[.int .u32 7, .int .u32 (offX l m : Int), .int .u32 (m : Int), .int .u64 (firstX l m : Int), .int .u64 (seqL (l.take m) : Int)] (g := w5.heap.size) rfl
      have HM1 := Lib.hid (show m ≠ 0 → firstX l m = seqL (l.take 1) from fun h => by unfold firstX; rw [if_neg h])
      have qY := QY.out.after bA
      have hT := HT.out.after bA
      have rb := RB.out.after bA
      have ou : Ow _ _ _ _ _ _ _ := Ow.after OU.out bA
      have hbb := belowGo HB.out bA
      have hpc : ∀ gU, Au = some ⟨gU, 0, none⟩ → ∀ i, i < m → ∀ W, Below (w5.alloc (.cells #[.int .u32 7, .int .u32 (offX l m : Int), .int .u32 (m : Int), .int .u64 (firstX l m : Int), .int .u64 (seqL (l.take m) : Int)] 39)).heap.size (w5.alloc (.cells #[.int .u32 7, .int .u32 (offX l m : Int), .int .u32 (m : Int), .int .u64 (firstX l m : Int), .int .u64 (seqL (l.take m) : Int)] 39)) W → W.cell? ⟨gU, i * 3 + 2, none⟩ = some (.int .u64 (seqL (l.take (i + 1)) : Int)) := fun gU e i hi W hW => by
        subst e
        exact (pl_cell (Ow.after ou hW) hi).2.2
      have HPC := Lib.hid hpc
      have QY := Lib.hid qY
      have HT := Lib.hid hT
      have RB := Lib.hid rb
      have HB := Lib.hid hbb
      have Q17 := Lib.hid q17
      have HNIL := Lib.hid (fun (h : 0 < m) => own_ptr OU.out h)
      clear OU qY hT rb ou hbb q17 bA b5 hpc BX
      go_upto_region 23 with (fail)
      obtain ⟨g17, hg17⟩ : ∃ g, g = w5.heap.size := ⟨_, rfl⟩
      rw [← hg17] at Q17 ⊢
      clear hg17
      generalize w5.alloc (.cells #[.int .u32 7, .int .u32 (offX l m : Int), .int .u32 (m : Int), .int .u64 (firstX l m : Int), .int .u64 (seqL (l.take m) : Int)] 39) = w6 at *
      have hqm := seqL_le (l := l.take m) fun x hx => hf x (List.mem_of_mem_take hx)
      have HOS := fun W hT rb => Lib.hid (of_segX hml hm20 hf Ab cb W hT hcb rb)
      have HOO := fun (h : q ≠ 7) W hT rb => Lib.hid (of_other (l := l) (m := m) h Ab cb W hT hm20 hcb rb)
      generalize hsqm : seqL (l.take m) = qm at *
      generalize firstX l m = fm at *
      have HOM := Lib.hid hom
      generalize hofm : offX l m = om at *
      have eo : (om : Int) % 4294967296 = (om : Int) := by omega
      go_cut [208] from 157 to 208 (fun v wx => v = .bool false ∧ Below w6.heap.size w6 wx)
      case first =>
        rcases Nat.eq_zero_or_pos m with h0 | h0
        · have i5 : ¬ (0 : Int) < (m : Int) := by omega
          have H0 := Lib.hid h0
          have HSQ := Lib.hid hsqm
          clear h0 hom hofm hsqm hqm
          have y3 : w6.cell? ⟨gY, 3, none⟩ = some (.int .i64 (en : Int)) := QY.out.cell 3
          have y4 : w6.cell? ⟨gY, 4, none⟩ = some (.int .i64 (wy : Int)) := QY.out.cell 4
          have s1 : w6.cell? ⟨g17, 1, none⟩ = some (.int .u32 (om : Int)) := Q17.out.cell 1
          have s2 : w6.cell? ⟨g17, 2, none⟩ = some (.int .u32 (m : Int)) := Q17.out.cell 2
          have hw1 : IntKind.u32.wrap (om : Int) = (om : Int) := by rw [IntKind.wrap_u32]; omega
          have hw2 : ((om : Int) != (om : Int)) = false := by simp
          have hw3 : IntKind.i64.wrap (m : Int) = (m : Int) := by rw [IntKind.wrap_i64]; omega
          have hw4 : ((m : Int) != (m : Int)) = false := by simp
          have hw5 : decide ((0 : Int) < (m : Int)) = false := decide_eq_false i5
          have hw6 : ((m : Int) == 0) = true := by have := H0.out; simp; omega
          have hw7 : decide (0 < m) = false := decide_eq_false (by have := H0.out; omega)
          have hm32 : m < 4294967296 := by omega
          have ho32 : om < 4294967296 := by have := HOM.out; omega
          go_quiet (fail)
          go_wp2_with fail
          go_meet
          case rel => exact ⟨rfl, below_of_drewN ⟨_, rfl⟩⟩
        · have i5 : (0 : Int) < (m : Int) := by omega
          obtain ⟨gU, c', hA, _, _⟩ := HNIL.out h0
          injection hA with hA e1 e2
          clear e1 e2
          subst hA
          have hfm := HM1.out (by omega)
          have r0 := HPC.out gU rfl 0 h0
          rw [← hfm] at r0
          obtain ⟨m', hm'⟩ : ∃ m', m' = m - 1 := ⟨_, rfl⟩
          have r1 := HPC.out gU rfl m' (by omega)
          rw [show m' + 1 = m by omega, hsqm] at r1
          have em' : (m : Int) - 1 = (m' : Int) := by omega
          have i6 : (m' : Int) < (m : Int) := by omega
          have R0 := Lib.hid r0
          have R1 := Lib.hid r1
          have HSQ := Lib.hid hsqm
          clear r0 r1 hfm hm' hsqm hom hofm h0 hqm
          have hc0 := Below.drew_ w6
          refine wp_region_tree (fun W => Below w6.heap.size w6 W) (row [.calms [0, 2], .read 1, .calms [3, 4, 5, 7], .read 6, .calms [8, 9, 10, 11, 13, 14, 15], .read 12, .calms [16, 17, 18, 19, 22, 23], .read 20, .calms [21, 24, 25, 26, 27, 28, 29, 30, 31], .read 32, .calms [33, 34, 35], .read 36, .calms [37, 38, 39], .read 40, .calms [41, 42, 43, 44, 45, 46], .read 47, .calms [48, 49, 50, 51]] .done) (by kernel_rfl) (by rfl) (by kernel_rfl) (by kernel_rfl) hc0 ?_
          have HC := Lib.hid hc0
          clear hc0
          generalize w6.drew = wd at *
          refine plan_calms (by simp [calmRow, need]; rfl) ?_
          go_wp2_with fail
          refine plan_read (by rfl) (.int .i64 (wy : Int)) (by rfl) (fun W hW => exec_load rfl rfl (by kernel_rfl) ((QY.out.after hW).cell 4)) ?_
          refine plan_calms (by simp [calmRow, need, chk]; rfl) ?_
          go_wp2_with fail
          refine plan_read (by rfl) (.int .i64 (en : Int)) (by rfl) (fun W hW => exec_load rfl rfl (by kernel_rfl) ((QY.out.after hW).cell 3)) ?_
          refine plan_calms (by simp [calmRow, need, chk]; rfl) ?_
          go_wp2_with fail
          refine plan_read (by rfl) (.int .u32 (om : Int)) (by rfl) (fun W hW => exec_load rfl rfl (by kernel_rfl) ((Q17.out.after hW).cell 1)) ?_
          refine plan_calms (by simp [calmRow, need, chk]; rfl) ?_
          go_wp2_with fail
          refine plan_read (by rfl) (.int .u32 (m : Int)) (by rfl) (fun W hW => exec_load rfl rfl (by kernel_rfl) ((Q17.out.after hW).cell 2)) ?_
          refine plan_calms (by simp [calmRow, need, chk]; rfl) ?_
          go_wp2_with fail
          refine plan_read (by rfl) (.int .u64 (fm : Int)) (by rfl) (fun W hW => exec_load rfl rfl (by kernel_rfl) ((Q17.out.after hW).cell 3)) ?_
          refine plan_calms (by simp [calmRow, need]; rfl) ?_
          go_wp2_with fail
          refine plan_read (by rfl) (.int .u64 (fm : Int)) (by rfl) (fun W hW => exec_load rfl rfl (by kernel_rfl) (R0.out W hW)) ?_
          refine plan_calms (by simp [calmRow, need, chk]; rfl) ?_
          go_wp2_with fail
          refine plan_read (by rfl) (.int .u64 (qm : Int)) (by rfl) (fun W hW => exec_load rfl rfl (by kernel_rfl) ((Q17.out.after hW).cell 4)) ?_
          refine plan_calms (by simp [calmRow, need, chk]; rfl) ?_
          go_wp2_with fail
          refine plan_read (by rfl) (.int .u64 (qm : Int)) (by rfl) (fun W hW => exec_load rfl rfl (by kernel_rfl) (R1.out W hW)) ?_
          refine plan_calms (by simp [calmRow, need, chk]; rfl) ?_
          go_wp2_with fail
          refine plan_end ?_
          go_wp2_with fail
          go_meet
          case rel => exact ⟨rfl, HC.out⟩
      case rest =>
      obtain ⟨rfl, hc⟩ := hcut
      have hT := HT.out.after hc
      have rb := RB.out.after hc
      have hb := belowGo HB.out hc
      have HT := Lib.hid hT
      have HB := Lib.hid hb
      clear hc hb hsqm hqm hom hofm eo HM1 HPC HNIL QY Q17
      by_cases hq : q = 7
      · have HX := HOS _ hT rb
        clear HOS HOO hT rb
        subst hq
        simp only [Int.cast_ofNat_Int]
        go_wp2_with fail
        refine HX.out.mono ?_
        rintro e w7 ⟨AF', cF', AP', cP', X', rfl, _, _, b7⟩
        have bA := b7.alloc b7.size (.cells #[.int .u32 7, .slice AF' m cF', .slice AP' 0 cP', .int .i64 (om : Int), .int .i64 0] 33)
        have HK := Lib.hid (knows_any _ (HT.out.after bA))
        have HB := Lib.hid (belowGo HB.out bA)
        clear bA b7
        go_wp2_with fail
        refine HK.out.mono ?_
        rintro e w8 ⟨rfl, b8⟩
        have HB := Lib.hid (belowGo HB.out b8)
        clear b8 HK
        go_wp2_with fail
        go_ret
        exact ⟨rfl, HB.out⟩
      · have HX := HOO hq _ hT rb
        have i7 : ((q : Int) == 7) = false := by simp; omega
        clear HOS HOO hT rb hq
        go_wp2_with fail
        refine HX.out.mono ?_
        rintro e w7 ⟨AF', cF', AP', cP', rfl, b7⟩
        have bA := b7.alloc b7.size (.cells #[.int .u32 (q : Int), .slice AF' 0 cF', .slice AP' 0 cP', .int .i64 0, .int .i64 23] 33)
        have HK := Lib.hid (knows_any _ (HT.out.after bA))
        have HB := Lib.hid (belowGo HB.out bA)
        clear bA b7
        go_wp2_with fail
        refine HK.out.mono ?_
        rintro e w8 ⟨rfl, b8⟩
        have HB := Lib.hid (belowGo HB.out b8)
        clear b8 HK
        go_wp2_with fail
        go_ret
        exact ⟨rfl, HB.out⟩
end Go.Proofs.YtfapipamohlniaaDoor
