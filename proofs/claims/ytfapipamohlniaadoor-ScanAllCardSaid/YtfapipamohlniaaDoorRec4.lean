/- Package record: told. For every bytes of a head; the tables as they are laid. -/
import Derived.Test.YtfapipamohlniaaDoorRec2
namespace Go.Proofs.YtfapipamohlniaaDoor
open Go.RowKit

/-- an operation that tells a value, by what it comes to -/
theorem wpList_exec {P : Program} {ops : Array Oper} {rest : List Oper} {o : Oper} {a : Act} {w : World} {Q : Exit → Act → World → Prop} {v : Value} (hgd : o.guard = none)
    (he : (execOp a.eval o).run P w = .ok (.value v) w) (h : wpList P ops Q rest (a.put o.dst v) w) : wpList P ops Q (o :: rest) a w :=
  wpList_plain hgd fun K hK => by
    unfold Oper.wp
    rw [he]
    exact hK _ _ h

/-- the number that stands at a place of a record's head -/
def numH (l : List UInt8) (j : Nat) : Nat := numLE ((l.drop (lenP j)).take (sizeC j))
theorem numH_lt {l : List UInt8} (h : 17 ≤ l.length) {j : Nat} (hj : j < 6) : numH l j < 2 ^ (8 * sizeC j) := by
  unfold numH
  refine numLE_8j _ ?_
  have all : ∀ j : Fin 6, lenP j.val + sizeC j.val ≤ 17 := by decide
  have := all ⟨j, hj⟩
  simp only at this
  rw [List.length_drop]
  omega
def numsA (V : Nat → Nat) (j : Nat) : Array Value := ((List.range 6).map fun i => Value.int .u64 ((if i < j then V i else 0 : Nat) : Int)).toArray
theorem numsA_set (V : Nat → Nat) {j : Nat} (h : j < 6) : (numsA V j).setIfInBounds j (.int .u64 (V j : Int)) = numsA V (j + 1) := by
  have hc : j = 0 ∨ j = 1 ∨ j = 2 ∨ j = 3 ∨ j = 4 ∨ j = 5 := by omega
  rcases hc with rfl | rfl | rfl | rfl | rfl | rfl <;> rfl
theorem numsA_get (V : Nat → Nat) {j : Nat} (h : j < 6) : ∃ x : Int, (numsA V j)[j]? = some (.int .u64 x) := by
  have hc : j = 0 ∨ j = 1 ∨ j = 2 ∨ j = 3 ∨ j = 4 ∨ j = 5 := by omega
  rcases hc with rfl | rfl | rfl | rfl | rfl | rfl <;> exact ⟨_, rfl⟩
theorem numsA_six (V : Nat → Nat) : numsA V 6 = #[.int .u64 (V 0 : Int), .int .u64 (V 1 : Int), .int .u64 (V 2 : Int), .int .u64 (V 3 : Int), .int .u64 (V 4 : Int), .int .u64 (V 5 : Int)] := rfl
set_option maxRecDepth 100000 in
theorem idxS {j : Nat} (h : j < 6) (w : World) : (Instr.index 119 (.agg #[.int .i64 1, .int .i64 1, .int .i64 2, .int .i64 6, .int .i64 3, .int .i64 4]) (.int .i64 (j : Int))).run Tryd.prog w = .ok (.int .i64 ((sizeC j : Nat) : Int)) w := by
  have hc : j = 0 ∨ j = 1 ∨ j = 2 ∨ j = 3 ∨ j = 4 ∨ j = 5 := by omega
  rcases hc with rfl | rfl | rfl | rfl | rfl | rfl <;> rfl
theorem Szs.rd {w : World} (h : Szs w) : Rd w w.heap.size 1 (some ⟨0, 0, none⟩) 6 [.int .i64 1, .int .i64 1, .int .i64 2, .int .i64 6, .int .i64 3, .int .i64 4] :=
  ⟨rfl, by unfold maxLen; omega, fun _ => ⟨_, 0, rfl, h.1, fun j u hu => by
    have hj : j < 6 := by
      have := (List.getElem?_eq_some_iff.1 hu).1
      simpa using this
    rw [Nat.zero_add, h.2 j hj, ← hu]
    have hc : j = 0 ∨ j = 1 ∨ j = 2 ∨ j = 3 ∨ j = 4 ∨ j = 5 := by omega
    rcases hc with rfl | rfl | rfl | rfl | rfl | rfl <;> rfl⟩⟩
/-- s[k:], the address at the end left open -/
theorem low_rd {w : World} {B b off n c k : Nat} {l : List UInt8} (h : Rd w B 1 (some ⟨b, off, none⟩) n (bcells l)) (hk : k ≤ n) (hc : n ≤ c) :
    ∃ A', (∀ W : World, (Instr.sliceAt 25 (.slice (some ⟨b, off, none⟩) n c) (some (.int .i64 (k : Int))) none none).run Tryd.prog W = .ok (.slice A' (n - k) (c - k)) W) ∧ Rd w B 1 A' (n - k) (bcells (l.drop k)) := by
  refine ⟨_, fun W => run_low W hk hc, ?_⟩
  by_cases e : c = k
  · rw [if_pos e]
    have hn : n = k := by omega
    have h2 := h.bdrop (k := k) hk
    have hl := h2.1
    rw [hn, Nat.sub_self] at h2 ⊢
    rw [hn, Nat.sub_self, Nat.zero_mul] at hl
    rw [List.eq_nil_of_length_eq_zero hl]
    exact Rd.nil_ _ _ _ _
  · rw [if_neg e]
    exact h.bdrop hk

set_option maxRecDepth 10000 in
set_option maxHeartbeats 1000000 in
theorem told_any (l : List UInt8) (A : Option Addr) (n c : Nat) (w : World) (hT : TabR w) (hn : 17 ≤ n) (hnc : n ≤ c) (h : Rd w w.heap.size 1 A n (bcells l)) :
    Calls Tryd.prog 49 #[.slice A n c] w fun e w' => e = .returned (.tuple #[recV (numH l 3) (numH l 0 : Int) (.slice none 0 0) (.slice none 0 0) (numH l 4) (numH l 5), .int .i64 (numH l 1 : Int), .int .i64 (numH l 2 : Int)]) ∧ Below w.heap.size w w' := by
  have hln := h.1
  have hmx := h.2.1
  unfold maxLen at hmx
  rw [bcells_len, Nat.mul_one] at hln
  have hV := fun j hj => numH_lt (l := l) (by omega) (j := j) hj
  have v0 := hV 0 (by omega)
  have v1 := hV 1 (by omega)
  have v2 := hV 2 (by omega)
  have v3 := hV 3 (by omega)
  have v4 := hV 4 (by omega)
  have v5 := hV 5 (by omega)
  simp only [sizeC, sizesC, List.getD_cons_zero, List.getD_cons_succ, Nat.reduceMul, Nat.reducePow] at v0 v1 v2 v3 v4 v5
  have hR : ∀ j : Nat, j < 6 → readN (l.drop (lenP j)) ((sizeC j : Nat) : Int) = numH l j := fun j hj => by
    have all : ∀ j : Fin 6, lenP j.val + sizeC j.val ≤ 17 ∧ 1 ≤ sizeC j.val ∧ sizeC j.val ≤ 8 := by decide
    have := all ⟨j, hj⟩
    simp only at this
    unfold readN
    rw [if_neg (by rw [List.length_drop]; omega)]
    rfl
  obtain ⟨V, hVe⟩ : ∃ V : Nat → Nat, V = numH l := ⟨_, rfl⟩
  rw [← hVe] at hR v0 v1 v2 v3 v4 v5 ⊢
  clear hVe hV
  unfold recV
  have s0 : w.cell? ⟨0, 0, none⟩ = some (.int .i64 1) := hT.2.2 0 (by omega)
  have s1 : w.cell? ⟨0, 1, none⟩ = some (.int .i64 1) := hT.2.2 1 (by omega)
  have s2 : w.cell? ⟨0, 2, none⟩ = some (.int .i64 2) := hT.2.2 2 (by omega)
  have s3 : w.cell? ⟨0, 3, none⟩ = some (.int .i64 6) := hT.2.2 3 (by omega)
  have s4 : w.cell? ⟨0, 4, none⟩ = some (.int .i64 3) := hT.2.2 4 (by omega)
  have s5 : w.cell? ⟨0, 5, none⟩ = some (.int .i64 4) := hT.2.2 5 (by omega)
  have z0 : 0 < w.heap.size := hT.2.1
  have h0 := h
  have hT := (hT.alloc (.cells #[.int .u64 0, .int .i64 0, .slice none 0 0, .slice none 0 0, .int .u32 0, .int .u32 0] 44)).alloc (.cells (numsA V 0) 118)
  have h := (h.allocs (.cells #[.int .u64 0, .int .i64 0, .slice none 0 0, .slice none 0 0, .int .u32 0, .int .u32 0] 44)).allocs (.cells (numsA V 0) 118)
  have q2 := (Blk.new w 44 #[.int .u64 0, .int .i64 0, .slice none 0 0, .slice none 0 0, .int .u32 0, .int .u32 0]).alloc (.cells (numsA V 0) 118)
  have q5 := Blk.newAt (w.alloc (.cells #[.int .u64 0, .int .i64 0, .slice none 0 0, .slice none 0 0, .int .u32 0, .int .u32 0] 44)) 118 (numsA V 0) (g := w.heap.size + 1) (by simp)
  have b0 := belowAlloc ((Below.refl w.heap.size w).alloc (Nat.le_refl _) (.cells #[.int .u64 0, .int .i64 0, .slice none 0 0, .slice none 0 0, .int .u32 0, .int .u32 0] 44)) (.cells (numsA V 0) 118)
  have hz0 : numsA V 0 = #[.int .u64 0, .int .u64 0, .int .u64 0, .int .u64 0, .int .u64 0, .int .u64 0] := rfl
  have HZ0 := Lib.hid hz0
  rw [hz0] at hT h q2 q5 b0
  clear hz0
  go_enter Tryd.func49, Tryd.ntmps49
  go_wp2_with fail
  rw [← HZ0.out] at hT h q2 q5 b0 ⊢
  clear s0 s1 s2 s3 s4 s5 z0
  obtain ⟨g2, hg2⟩ : ∃ g, g = w.heap.size := ⟨_, rfl⟩
  have hgw : w.heap.size ≤ g2 := by omega
  have hg5 : w.heap.size + 1 = g2 + 1 := by omega
  rw [hg5] at q5 ⊢
  rw [← hg2] at q2 ⊢
  clear hg2 hg5
  generalize (w.alloc (.cells #[.int .u64 0, .int .i64 0, .slice none 0 0, .slice none 0 0, .int .u32 0, .int .u32 0] 44)).alloc (.cells (numsA V 0) 118) = w1 at *
  have ZR : Hid (#[Value.int .u64 0, .int .i64 0, .slice none 0 0, .slice none 0 0, .int .u32 0, .int .u32 0] = #[Value.int .u64 0, .int .i64 0, .slice none 0 0, .slice none 0 0, .int .u32 0, .int .u32 0]) := Lib.hid rfl
  go_loopw [0, 9] (fun hd i wr => ∃ (j : Nat) (A' : Option Addr) (c' : Nat), j ≤ 6 ∧ i = .int .i64 (j : Int) ∧ hd = .slice A' (n - lenP j) c' ∧ n - lenP j ≤ c' ∧ Rd wr w.heap.size 1 A' (n - lenP j) (bcells (l.drop (lenP j))) ∧
      Blk wr (g2 + 1) 118 (numsA V j) ∧ Blk wr g2 44 #[.int .u64 0, .int .i64 0, .slice none 0 0, .slice none 0 0, .int .u32 0, .int .u32 0] ∧ Below w.heap.size w wr) (fun _ i _ => 6 - (intOf i).toNat)
  case atStart => exact ⟨0, A, c, by omega, rfl, rfl, by omega, h0.below b0 (Nat.le_refl _), q5, q2, b0⟩
  case round =>
    clear q5 q2 b0
    obtain ⟨j, A', c', hj, rfl, rfl, hc', hr, q5, q2, hbr⟩ := hrel
    by_cases hlt : j < 6
    · have hls := lenP_succ hlt
      have hl17 := lenP_le (j := j + 1) (by omega)
      have hsz := sizeC_in hlt
      obtain ⟨b', off', rfl, _, _⟩ := hr.2.2 (by omega)
      obtain ⟨A2, hsl, hr2⟩ := low_rd (k := sizeC j) hr (by omega) hc'
      rw [List.drop_drop, ← hls, show n - lenP j - sizeC j = n - lenP (j + 1) by omega] at hr2
      rw [show n - lenP j - sizeC j = n - lenP (j + 1) by omega] at hsl
      have hidx := idxS hlt
      have HR := Lib.hid (read_any (l.drop (lenP j)) (some ⟨b', off', none⟩) (n - lenP j) c' ((sizeC j : Nat) : Int) wr (hr.more hbr.size))
      rw [hR j hlt] at HR
      have HA := Lib.hid (numsA_set V hlt)
      obtain ⟨x0, hx0⟩ := numsA_get V hlt
      have c5 := q5.cell j
      rw [hx0] at c5
      have f5 := q5.frozen j
      have hn2 : n - lenP (j + 1) ≤ c' - sizeC j := by omega
      have q5' := q5.set_ j (.int .u64 (V j : Int))
      rw [HA.out] at q5'
      have q2' := q2.far (p := ⟨g2 + 1, j, none⟩) (by simp) (.int .u64 (V j : Int))
      have hr2' := hr2.setCell (p := ⟨g2 + 1, j, none⟩) (by simp; omega) (.int .u64 (V j : Int))
      have hb2 := hbr.setCell (p := ⟨g2 + 1, j, none⟩) (by simp; omega) (.int .u64 (V j : Int))
      generalize readE (l.drop (lenP j)) ((sizeC j : Nat) : Int) = re at *
      generalize hsj : sizeC j = sj at *
      generalize V j = x at *
      obtain ⟨n2, hN⟩ : ∃ n2, n - lenP (j + 1) = n2 := ⟨_, rfl⟩
      rw [hN] at hsl hn2 hr2'
      have HN := Lib.hid hN
      generalize n - lenP j = n1 at *
      clear hN hsj hx0 HA hls hl17 hR hr2 hr q5 q2
      go_wp2_with fail
      refine HR.out.mono ?_
      rintro e w2 ⟨rfl, rfl⟩
      clear HR
      go_wp2_with fail
      go_roundw
      case rel =>
        obtain rfl := HN.out
        exact ⟨j + 1, A2, c' - sj, by omega, by go_num, rfl, hn2, hr2', q5', q2', hb2⟩
      case measure => simp [intOf]; omega
    · obtain rfl : j = 6 := by omega
      rw [numsA_six] at q5
      have c0 := q5.cell 0
      have c1 := q5.cell 1
      have c2 := q5.cell 2
      have c3 := q5.cell 3
      have c4 := q5.cell 4
      have c5 := q5.cell 5
      have d0 := q2.cell 0
      have d1 := q2.cell 1
      have d2 := q2.cell 2
      have d3 := q2.cell 3
      have d4 := q2.cell 4
      have d5 := q2.cell 5
      have f0 := q2.frozen 0
      have f1 := q2.frozen 1
      have f2 := q2.frozen 2
      have f3 := q2.frozen 3
      have f4 := q2.frozen 4
      have f5 := q2.frozen 5
      go_wp2_with fail
      have q2 : Blk (World.setCell (World.setCell (World.setCell (World.setCell (World.setCell (World.setCell wr ⟨g2, 0, none⟩ (.int .u64 (V 3 : Int))) ⟨g2, 1, none⟩ (.int .i64 (V 0 : Int))) ⟨g2, 2, none⟩ (.slice none 0 0)) ⟨g2, 3, none⟩ (.slice none 0 0)) ⟨g2, 4, none⟩ (.int .u32 (V 4 : Int))) ⟨g2, 5, none⟩ (.int .u32 (V 5 : Int))) g2 44 #[.int .u64 (V 3 : Int), .int .i64 (V 0 : Int), .slice none 0 0, .slice none 0 0, .int .u32 (V 4 : Int), .int .u32 (V 5 : Int)] := ((((((q2.set_ 0 (.int .u64 (V 3 : Int))).set_ 1 (.int .i64 (V 0 : Int))).set_ 2 (.slice none 0 0)).set_ 3 (.slice none 0 0)).set_ 4 (.int .u32 (V 4 : Int))).set_ 5 (.int .u32 (V 5 : Int)))
      have q5 : Blk (World.setCell (World.setCell (World.setCell (World.setCell (World.setCell (World.setCell wr ⟨g2, 0, none⟩ (.int .u64 (V 3 : Int))) ⟨g2, 1, none⟩ (.int .i64 (V 0 : Int))) ⟨g2, 2, none⟩ (.slice none 0 0)) ⟨g2, 3, none⟩ (.slice none 0 0)) ⟨g2, 4, none⟩ (.int .u32 (V 4 : Int))) ⟨g2, 5, none⟩ (.int .u32 (V 5 : Int))) (g2 + 1) 118 _ := ((((((q5.far (p := ⟨g2, 0, none⟩) (by simp) (.int .u64 (V 3 : Int))).far (p := ⟨g2, 1, none⟩) (by simp) (.int .i64 (V 0 : Int))).far (p := ⟨g2, 2, none⟩) (by simp) (.slice none 0 0)).far (p := ⟨g2, 3, none⟩) (by simp) (.slice none 0 0)).far (p := ⟨g2, 4, none⟩) (by simp) (.int .u32 (V 4 : Int))).far (p := ⟨g2, 5, none⟩) (by simp) (.int .u32 (V 5 : Int)))
      have hbr : Below w.heap.size w (World.setCell (World.setCell (World.setCell (World.setCell (World.setCell (World.setCell wr ⟨g2, 0, none⟩ (.int .u64 (V 3 : Int))) ⟨g2, 1, none⟩ (.int .i64 (V 0 : Int))) ⟨g2, 2, none⟩ (.slice none 0 0)) ⟨g2, 3, none⟩ (.slice none 0 0)) ⟨g2, 4, none⟩ (.int .u32 (V 4 : Int))) ⟨g2, 5, none⟩ (.int .u32 (V 5 : Int))) := ((((((hbr.setCell (p := ⟨g2, 0, none⟩) hgw (.int .u64 (V 3 : Int))).setCell (p := ⟨g2, 1, none⟩) hgw (.int .i64 (V 0 : Int))).setCell (p := ⟨g2, 2, none⟩) hgw (.slice none 0 0)).setCell (p := ⟨g2, 3, none⟩) hgw (.slice none 0 0)).setCell (p := ⟨g2, 4, none⟩) hgw (.int .u32 (V 4 : Int))).setCell (p := ⟨g2, 5, none⟩) hgw (.int .u32 (V 5 : Int)))
      clear c0 c1 c2 c3 c4 c5 d0 d1 d2 d3 d4 d5 f0 f1 f2 f3 f4 f5 hT h hr
      generalize (World.setCell (World.setCell (World.setCell (World.setCell (World.setCell (World.setCell wr ⟨g2, 0, none⟩ (.int .u64 (V 3 : Int))) ⟨g2, 1, none⟩ (.int .i64 (V 0 : Int))) ⟨g2, 2, none⟩ (.slice none 0 0)) ⟨g2, 3, none⟩ (.slice none 0 0)) ⟨g2, 4, none⟩ (.int .u32 (V 4 : Int))) ⟨g2, 5, none⟩ (.int .u32 (V 5 : Int))) = w6 at *
      refine wp_region_plan (fun W => Blk W g2 44 #[.int .u64 (V 3 : Int), .int .i64 (V 0 : Int), .slice none 0 0, .slice none 0 0, .int .u32 (V 4 : Int), .int .u32 (V 5 : Int)] ∧ Blk W (g2 + 1) 118 #[Value.int .u64 (V 0 : Int), .int .u64 (V 1 : Int), .int .u64 (V 2 : Int), .int .u64 (V 3 : Int), .int .u64 (V 4 : Int), .int .u64 (V 5 : Int)] ∧ Below w.heap.size w W) [.calms [1, 4], .read 0, .read 2, .calms [3], .read 5, .calms [6], .act 7, .calms [8, 9]] (by kernel_rfl) (by rfl) (by kernel_rfl) (by kernel_rfl) ⟨q2, q5, hbr.drew⟩ ?_
      have q2' : Blk w6.drew g2 44 #[.int .u64 (V 3 : Int), .int .i64 (V 0 : Int), .slice none 0 0, .slice none 0 0, .int .u32 (V 4 : Int), .int .u32 (V 5 : Int)] := q2
      have q5' : Blk w6.drew (g2 + 1) 118 #[Value.int .u64 (V 0 : Int), .int .u64 (V 1 : Int), .int .u64 (V 2 : Int), .int .u64 (V 3 : Int), .int .u64 (V 4 : Int), .int .u64 (V 5 : Int)] := q5
      have hb : Below w.heap.size w w6.drew := hbr.drew
      generalize w6.drew = w7 at *
      clear q2 q5 hbr
      refine plan_calms (by simp [calmRow, need]; rfl) ?_
      go_wp2_with fail
      refine plan_read (by rfl) (.agg #[.int .u64 (V 3 : Int), .int .i64 (V 0 : Int), .slice none 0 0, .slice none 0 0, .int .u32 (V 4 : Int), .int .u32 (V 5 : Int)]) (by rfl) (fun W hW => exec_load_blk rfl rfl hW.1 Tryd.underlying44 rfl (by kernel_rfl)) ?_
      refine plan_read (by rfl) (.int .u64 (V 1 : Int)) (by rfl) (fun W hW => exec_load rfl rfl (by kernel_rfl) (hW.2.1.cell 1)) ?_
      refine plan_calms (by simp [calmRow, need, chk]; rfl) ?_
      go_wp2_with fail
      refine plan_read (by rfl) (.int .u64 (V 2 : Int)) (by rfl) (fun W hW => exec_load rfl rfl (by kernel_rfl) (hW.2.1.cell 2)) ?_
      refine plan_calms (by simp [calmRow, need, chk]; rfl) ?_
      go_wp2_with fail
      refine plan_act (by rfl) ?_
      have d0 := q2'.cell 0
      have d1 := q2'.cell 1
      have d2 := q2'.cell 2
      have d3 := q2'.cell 3
      have d4 := q2'.cell 4
      have d5 := q2'.cell 5
      have f0 := q2'.frozen 0
      have f1 := q2'.frozen 1
      have f2 := q2'.frozen 2
      have f3 := q2'.frozen 3
      have f4 := q2'.frozen 4
      have f5 := q2'.frozen 5
      have q2 : Blk (World.setCell (World.setCell (World.setCell (World.setCell (World.setCell (World.setCell w7 ⟨g2, 0, none⟩ (.int .u64 (V 3 : Int))) ⟨g2, 1, none⟩ (.int .i64 (V 0 : Int))) ⟨g2, 2, none⟩ (.slice none 0 0)) ⟨g2, 3, none⟩ (.slice none 0 0)) ⟨g2, 4, none⟩ (.int .u32 (V 4 : Int))) ⟨g2, 5, none⟩ (.int .u32 (V 5 : Int))) g2 44 #[.int .u64 (V 3 : Int), .int .i64 (V 0 : Int), .slice none 0 0, .slice none 0 0, .int .u32 (V 4 : Int), .int .u32 (V 5 : Int)] := ((((((q2'.set_ 0 (.int .u64 (V 3 : Int))).set_ 1 (.int .i64 (V 0 : Int))).set_ 2 (.slice none 0 0)).set_ 3 (.slice none 0 0)).set_ 4 (.int .u32 (V 4 : Int))).set_ 5 (.int .u32 (V 5 : Int)))
      have q5 : Blk (World.setCell (World.setCell (World.setCell (World.setCell (World.setCell (World.setCell w7 ⟨g2, 0, none⟩ (.int .u64 (V 3 : Int))) ⟨g2, 1, none⟩ (.int .i64 (V 0 : Int))) ⟨g2, 2, none⟩ (.slice none 0 0)) ⟨g2, 3, none⟩ (.slice none 0 0)) ⟨g2, 4, none⟩ (.int .u32 (V 4 : Int))) ⟨g2, 5, none⟩ (.int .u32 (V 5 : Int))) (g2 + 1) 118 #[Value.int .u64 (V 0 : Int), .int .u64 (V 1 : Int), .int .u64 (V 2 : Int), .int .u64 (V 3 : Int), .int .u64 (V 4 : Int), .int .u64 (V 5 : Int)] := ((((((q5'.far (p := ⟨g2, 0, none⟩) (by simp) (.int .u64 (V 3 : Int))).far (p := ⟨g2, 1, none⟩) (by simp) (.int .i64 (V 0 : Int))).far (p := ⟨g2, 2, none⟩) (by simp) (.slice none 0 0)).far (p := ⟨g2, 3, none⟩) (by simp) (.slice none 0 0)).far (p := ⟨g2, 4, none⟩) (by simp) (.int .u32 (V 4 : Int))).far (p := ⟨g2, 5, none⟩) (by simp) (.int .u32 (V 5 : Int)))
      have hbr : Below w.heap.size w (World.setCell (World.setCell (World.setCell (World.setCell (World.setCell (World.setCell w7 ⟨g2, 0, none⟩ (.int .u64 (V 3 : Int))) ⟨g2, 1, none⟩ (.int .i64 (V 0 : Int))) ⟨g2, 2, none⟩ (.slice none 0 0)) ⟨g2, 3, none⟩ (.slice none 0 0)) ⟨g2, 4, none⟩ (.int .u32 (V 4 : Int))) ⟨g2, 5, none⟩ (.int .u32 (V 5 : Int))) := ((((((hb.setCell (p := ⟨g2, 0, none⟩) hgw (.int .u64 (V 3 : Int))).setCell (p := ⟨g2, 1, none⟩) hgw (.int .i64 (V 0 : Int))).setCell (p := ⟨g2, 2, none⟩) hgw (.slice none 0 0)).setCell (p := ⟨g2, 3, none⟩) hgw (.slice none 0 0)).setCell (p := ⟨g2, 4, none⟩) hgw (.int .u32 (V 4 : Int))).setCell (p := ⟨g2, 5, none⟩) hgw (.int .u32 (V 5 : Int)))
      go_wp2_with fail
      refine ⟨⟨q2, q5, hbr⟩, plan_calms (by simp [calmRow, need]; rfl) ?_⟩
      go_wp2_with fail
      refine plan_end ?_
      go_wp2_with fail
      exact bodyPost_ret (results_cell3 rfl rfl (res_load (cs := #[.int .u64 (V 3 : Int), .int .i64 (V 0 : Int), .slice none 0 0, .slice none 0 0, .int .u32 (V 4 : Int), .int .u32 (V 5 : Int)]) q2 Tryd.underlying44 rfl (by kernel_rfl))) rfl ⟨rfl, hbr⟩
end Go.Proofs.YtfapipamohlniaaDoor
