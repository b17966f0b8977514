/- What the law KeyHashes comes to: true. -/
import Derived.Test.YticjecfbjmibaaaHashLaw
import Derived.Test.YticjecfbjmibaaaKey3
import Derived.Test.YticjecfbjmibaaaPlan
import Derived.Test.YticjecfbjmibaaaEq
import Derived.Test.YticjecfbjmibaaaAppF
import Derived.StillTailTactics
namespace Go.Proofs.Yticjecfbjmibaaa
open Go.RowKit

set_option maxRecDepth 100000 in
set_option maxHeartbeats 4000000 in
theorem hashes_walk (a b d : List UInt8) (m s0 s1 : Nat) (w : World) (ha : a.length = 8) (hb : b.length = 8) (hd : d.length = 8) (hm : m < 256) (h0 : s0 < 18446744073709551616) (h1 : s1 < 18446744073709551616) :
    Calls Try.prog 5 #[.agg (bcells a).toArray, .agg (bcells b).toArray, .int .u8 (m : Int), .agg #[.int .u64 (s0 : Int), .int .u64 (s1 : Int)], .agg (bcells d).toArray] w fun e w' => e = .returned (.bool true) ∧ Below w.heap.size w w' := by
  obtain ⟨k, hk⟩ : ∃ k, k = m % 8 := ⟨_, rfl⟩
  have hkm : (m : Int) % 8 = (k : Int) := by omega
  have hk8 : k < 8 := by omega
  have hla : (bcells a).length = 8 := by rw [bcells_len, ha]
  have hlb : (bcells b).length = 8 := by rw [bcells_len, hb]
  have hld : (bcells d).length = 8 := by rw [bcells_len, hd]
  clear hk
  obtain ⟨A, hA⟩ : ∃ A, A = (bcells a).toArray := ⟨_, rfl⟩
  obtain ⟨B, hB⟩ : ∃ B, B = (bcells b).toArray := ⟨_, rfl⟩
  obtain ⟨D, hD⟩ : ∃ D, D = (bcells d).toArray := ⟨_, rfl⟩
  rw [← hA, ← hB, ← hD]
  have hsA : A.size = 8 := by rw [hA]; simpa using hla
  have hsB : B.size = 8 := by rw [hB]; simpa using hlb
  have hsD : D.size = 8 := by rw [hD]; simpa using hld
  have HA := Lib.hid hA
  have HB := Lib.hid hB
  have HD := Lib.hid hD
  clear hA hB hD hla hlb hld
  go_enter Try.func5, Try.ntmps5
  go_wp2
  have q0 := Blk.new w 31 A
  have b0 := (Below.refl w.heap.size w).alloc (Nat.le_refl _) (.cells A 31)
  have z0 : (w.alloc (.cells A 31)).heap.size = w.heap.size + 1 := by simp
  generalize w.alloc (.cells A 31) = w0 at *
  have q1 := Blk.newAt w0 31 B z0.symm
  have q0 := q0.alloc (.cells B 31)
  have b1 := b0.alloc (by omega) (.cells B 31)
  have z1 : (w0.alloc (.cells B 31)).heap.size = w.heap.size + 1 + 1 := by simp [z0]
  generalize w0.alloc (.cells B 31) = w1 at *
  have q2 := Blk.newAt w1 33 #[.int .u64 (s0 : Int), .int .u64 (s1 : Int)] z1.symm
  have q0 := q0.alloc (.cells #[.int .u64 (s0 : Int), .int .u64 (s1 : Int)] 33)
  have q1 := q1.alloc (.cells #[.int .u64 (s0 : Int), .int .u64 (s1 : Int)] 33)
  have b2 := b1.alloc (by omega) (.cells #[.int .u64 (s0 : Int), .int .u64 (s1 : Int)] 33)
  have z2 : (w1.alloc (.cells #[.int .u64 (s0 : Int), .int .u64 (s1 : Int)] 33)).heap.size = w.heap.size + 1 + 1 + 1 := by simp [z1]
  generalize w1.alloc (.cells #[.int .u64 (s0 : Int), .int .u64 (s1 : Int)] 33) = w2 at *
  have q3 := Blk.newAt w2 31 D z2.symm
  have q0 := q0.alloc (.cells D 31)
  have q1 := q1.alloc (.cells D 31)
  have q2 := q2.alloc (.cells D 31)
  have hbw := b2.alloc (by omega) (.cells D 31)
  have z3 : (w2.alloc (.cells D 31)).heap.size = w.heap.size + 1 + 1 + 1 + 1 := by simp [z2]
  generalize w2.alloc (.cells D 31) = w3 at *
  clear z0 z1 z2 b0 b1 b2
  obtain ⟨g0, e0⟩ : ∃ g, g = w.heap.size := ⟨_, rfl⟩
  obtain ⟨g1, e1⟩ : ∃ g, g = w.heap.size + 1 := ⟨_, rfl⟩
  obtain ⟨g2, e2⟩ : ∃ g, g = w.heap.size + 1 + 1 := ⟨_, rfl⟩
  obtain ⟨g3, e3⟩ : ∃ g, g = w.heap.size + 1 + 1 + 1 := ⟨_, rfl⟩
  rw [← e3, ← e2, ← e1, ← e0]
  rw [← e0] at q0
  rw [← e1] at q1
  rw [← e2] at q2
  rw [← e3] at q3
  have H0 := Lib.hid e0
  clear e0 e1 e2 e3 z3
  have he8 : (1 : Int) + (k : Int) = ((k + 1 : Nat) : Int) := by omega
  have hk9 : k + 1 ≤ 8 := by omega
  have hSl : ∀ (W : World) (g : Nat), (Instr.sliceAt 31 (.pointer (some ⟨g, 0, none⟩)) none (some (.int .i64 ((k : Int) + 1))) none).run Try.prog W = .ok (.slice (some ⟨g, 0, none⟩) (k + 1) 8) W := fun W g => by
    have e : Try.prog.arrayLen 31 = 8 := by kernel_rfl
    have e2 : (sizeOf (Try.prog.elem 31)).run Try.prog W = .ok 1 W := run_sizeOf W (i := (Try.prog.info? 5).get!) (by kernel_rfl)
    rw [run_sliceAt_array_h W 31 ⟨g, 0, none⟩ (by kernel_rfl) .i64 _ (by omega) (by rw [e]; omega), e, e2]
    simp [slicedAt, Addr.add]
  go_quiet (fail)
  have hbw : Below w.heap.size w (w3.drewN nq) := ⟨hbw.os, hbw.tape, hbw.output, hbw.size, hbw.block⟩
  have q0 : Blk (w3.drewN nq) g0 31 A := q0
  have q1 : Blk (w3.drewN nq) g1 31 B := q1
  have q2 : Blk (w3.drewN nq) g2 33 #[.int .u64 (s0 : Int), .int .u64 (s1 : Int)] := q2
  have q3 : Blk (w3.drewN nq) g3 31 D := q3
  generalize w3.drewN nq = w4 at *
  have rA : Rd w4 w4.heap.size 1 (some ⟨g0, 0, none⟩) (k + 1) (bcells (a.take (k + 1))) := by
    refine ⟨by rw [bcells_len, List.length_take, ha]; omega, by unfold maxLen; omega, fun _ => ⟨g0, 0, rfl, q0.lt, fun j u hu => ?_⟩⟩
    rw [Nat.zero_add, q0.cell j, HA.out, List.getElem?_toArray]
    rw [bcells, List.map_take, List.getElem?_take] at hu
    split at hu
    · exact hu
    · cases hu
  have rB : Rd w4 w4.heap.size 1 (some ⟨g1, 0, none⟩) (k + 1) (bcells (b.take (k + 1))) := by
    refine ⟨by rw [bcells_len, List.length_take, hb]; omega, by unfold maxLen; omega, fun _ => ⟨g1, 0, rfl, q1.lt, fun j u hu => ?_⟩⟩
    rw [Nat.zero_add, q1.cell j, HB.out, List.getElem?_toArray]
    rw [bcells, List.map_take, List.getElem?_take] at hu
    split at hu
    · exact hu
    · cases hu
  have LR := Lib.hid (hash_rows s0 (a.take (k + 1)) (b.take (k + 1)) h0 (by rw [List.length_take]; omega) (by rw [List.length_take]; omega) (by rw [List.length_take, List.length_take]; omega))
  have HX := fun W (h : Below w4.heap.size w4 W) => Lib.hid (hash_any s0 (a.take (k + 1)) (some ⟨g0, 0, none⟩) (k + 1) 8 W (by omega) (by omega) ((rA.below h (Nat.le_refl _)).more h.size))
  have HY := fun W (h : Below w4.heap.size w4 W) => Lib.hid (hash_any s0 (b.take (k + 1)) (some ⟨g1, 0, none⟩) (k + 1) 8 W (by omega) (by omega) ((rB.below h (Nat.le_refl _)).more h.size))
  have HE := fun W (h : Below w4.heap.size w4 W) => Lib.hid (equal_any (a.take (k + 1)) (b.take (k + 1)) (some ⟨g0, 0, none⟩) (k + 1) 8 (some ⟨g1, 0, none⟩) (k + 1) 8 W (rA.below h (Nat.le_refl _)) (rB.below h (Nat.le_refl _)))
  have C0 := Lib.hid (q2.cell 0)
  have hcur : Below w4.heap.size w4 w4.drew := ⟨rfl, rfl, rfl, Nat.le_refl _, fun _ _ => rfl⟩
  generalize hashI s0 (a.take (k + 1)) = x1 at *
  generalize hashI s0 (b.take (k + 1)) = y1 at *
  go_wp2_with fail
  refine wp_region_plan (fun W => Below w4.heap.size w4 W) [.calms [0, 2, 4, 6, 9, 10], .read 1, .read 5, .act 3, .act 7, .calms [8], .act 11, .act 12] (by kernel_rfl) (by rfl) (by kernel_rfl) (by kernel_rfl) hcur ?_
  refine plan_calms (by simp only [calmRow, need, List.map_nil, List.nil_append, List.getElem?_toArray, List.getElem?_cons_zero, List.getElem?_cons_succ]; rfl) ?_
  generalize w4.drew = w5 at *
  go_wp2_with fail
  have L0 : ∀ W, Below w4.heap.size w4 W → W.cell? ⟨g2, 0, none⟩ = some (.int .u64 (s0 : Int)) := fun W hW => (hW.cell (p := ⟨g2, 0, none⟩) q2.lt).trans C0.out
  have L0 := Lib.hid L0
  refine plan_read (by rfl) (.int .u64 (s0 : Int)) (by rfl) (fun W hW => exec_load rfl rfl (by kernel_rfl) (L0.out W hW)) ?_
  refine plan_read (by rfl) (.int .u64 (s0 : Int)) (by rfl) (fun W hW => exec_load rfl rfl (by kernel_rfl) (L0.out W hW)) ?_
  refine plan_act (by rfl) ?_
  go_wp2_with fail
  refine (HX _ hcur).out.mono ?_
  rintro e w6 ⟨rfl, b6⟩
  have hcur := belowGo hcur b6
  go_wp2_with fail
  refine ⟨hcur, ?_⟩
  refine plan_act (by rfl) ?_
  go_wp2_with fail
  refine (HY _ hcur).out.mono ?_
  rintro e w7 ⟨rfl, b7⟩
  have hcur := belowGo hcur b7
  go_wp2_with fail
  refine ⟨hcur, ?_⟩
  refine plan_calms (by simp [calmRow, need, chk]; rfl) ?_
  go_wp2_with fail
  refine plan_act (by rfl) ?_
  go_wp2_with fail
  refine (HE _ hcur).out.mono ?_
  rintro e w8 ⟨rfl, rfl⟩
  go_wp2_with fail
  refine ⟨hcur, ?_⟩
  refine plan_act (by rfl) ?_
  have i1 : (!((x1 == y1) == (a.take (k + 1) == b.take (k + 1)))) = false := by rw [← LR.out]; by_cases h : x1 = y1 <;> simp [h]
  go_wp2_with fail
  refine ⟨hcur, plan_end ?_⟩
  go_wp2_with fail
  have hbw := belowGo hbw hcur
  have hbw : Below w.heap.size w w7.drew := ⟨hbw.os, hbw.tape, hbw.output, hbw.size, hbw.block⟩
  have hcur : Below w4.heap.size w4 w7.drew := ⟨hcur.os, hcur.tape, hcur.output, hcur.size, hcur.block⟩
  have q0 : Blk w7.drew g0 31 A := q0.after hcur
  have q1 : Blk w7.drew g1 31 B := q1.after hcur
  have q2 : Blk w7.drew g2 33 #[.int .u64 (s0 : Int), .int .u64 (s1 : Int)] := q2.after hcur
  have q3 : Blk w7.drew g3 31 D := q3.after hcur
  have rX : Rd w7.drew w7.drew.heap.size 1 (some ⟨g0, 0, none⟩) (k + 1) (bcells (a.take (k + 1))) := ((rA.below hcur (Nat.le_refl _)).more hcur.size)
  refine wp_region_plan (fun _ => True) [.calms [0, 2, 4, 6], .act 1, .act 3, .act 5, .act 7, .calms [8, 9]] (by kernel_rfl) (by rfl) (by kernel_rfl) (by kernel_rfl) trivial ?_
  clear hcur HX HY HE C0 L0 rA rB hSl i1 LR b6 b7
  generalize w7.drew = u0 at *
  have hSa : ∀ (W : World) (g : Nat), (Instr.sliceAt 31 (.pointer (some ⟨g, 0, none⟩)) none none none).run Try.prog W = .ok (.slice (some ⟨g, 0, none⟩) 8 8) W := fun W g => by
    have e : Try.prog.arrayLen 31 = 8 := by kernel_rfl
    have e2 : (sizeOf (Try.prog.elem 31)).run Try.prog W = .ok 1 W := run_sizeOf W (i := (Try.prog.info? 5).get!) (by kernel_rfl)
    rw [run_sliceAt_array_all W 31 ⟨g, 0, none⟩ (by kernel_rfl), e, e2]
    simp [slicedAt, Addr.add]
  refine plan_calms (by simp [calmRow, need]; rfl) ?_
  go_wp2_with fail
  clear hSa
  have rA : Rd u0 u0.heap.size 1 (some ⟨g0, 0, none⟩) 8 (bcells a) := by have := q0.rd (n := 8) (size := 1) (by omega) (by unfold maxLen; omega); rwa [HA.out, List.toList_toArray] at this
  have rB : Rd u0 u0.heap.size 1 (some ⟨g1, 0, none⟩) 8 (bcells b) := by have := q1.rd (n := 8) (size := 1) (by omega) (by unfold maxLen; omega); rwa [HB.out, List.toList_toArray] at this
  have rD : Rd u0 u0.heap.size 1 (some ⟨g3, 0, none⟩) 8 (bcells d) := by have := q3.rd (n := 8) (size := 1) (by omega) (by unfold maxLen; omega); rwa [HD.out, List.toList_toArray] at this
  have o0 : u0.ownsRow u0.heap.size 5 1 (.slice none 0 0) 0 [] := World.ownsRow_nil _ _ _ _
  refine plan_act (by rfl) ?_
  refine wpList_app eltU8 rfl (.const (.slice none 0 0)) (.tmp 37) rfl rfl o0 rfl rA (bcells_one a) (by omega) (by unfold maxLen; omega) (Below.refl _ _) (Nat.le_refl _) ?_
  intro v1 u1 o1 c1 _ _
  have o1 : u1.ownsRow u0.heap.size 5 1 v1 8 (bcells a) := by simpa using o1
  refine plan_next trivial (plan_act (by rfl) ?_)
  refine wpList_app eltU8 rfl (.tmp 38) (.tmp 39) rfl rfl o1 rfl (rD.below c1 (Nat.le_refl _)) (bcells_one d) (by omega) (by unfold maxLen; omega) c1 c1.size ?_
  intro v2 u2 o2 c2 _ _
  refine plan_next trivial (plan_act (by rfl) ?_)
  have o2 : u2.ownsRow u0.heap.size 5 1 v2 16 (bcells (a ++ d)) := by rw [bcells_append]; exact o2
  obtain ⟨gp, cp, rfl, hcp, hgp⟩ := own_ptr o2 (by omega)
  have rP := own_rd o2
  have o3 : u2.ownsRow u2.heap.size 5 1 (.slice none 0 0) 0 [] := World.ownsRow_nil _ _ _ _
  refine wpList_app eltU8 rfl (.const (.slice none 0 0)) (.tmp 41) rfl rfl o3 rfl (rB.below c2 (Nat.le_refl _)) (bcells_one b) (by omega) (by unfold maxLen; omega) (Below.refl _ _) (Nat.le_refl _) ?_
  intro v3 u3 o3 c3 _ _
  have o3 : u3.ownsRow u2.heap.size 5 1 v3 8 (bcells b) := by simpa using o3
  refine plan_next trivial (plan_act (by rfl) ?_)
  refine wpList_app eltU8 rfl (.tmp 42) (.tmp 43) rfl rfl o3 rfl ((rD.below c2 (Nat.le_refl _)).below c3 c2.size) (bcells_one d) (by omega) (by unfold maxLen; omega) c3 c3.size ?_
  intro v4 u4 o4 c4 _ _
  refine plan_next trivial (plan_calms (by simp [calmRow, need]; rfl) ?_)
  have o4 : u4.ownsRow u2.heap.size 5 1 v4 16 (bcells (b ++ d)) := by rw [bcells_append]; exact o4
  obtain ⟨gq, cq, rfl, hcq, hgq⟩ := own_ptr o4 (by omega)
  have rQ := own_rd o4
  have rP := rP.after c4
  have hbw := belowGo (belowGo hbw c2) c4
  have q0 := (q0.after c2).after c4
  have q1 := (q1.after c2).after c4
  have q2 := (q2.after c2).after c4
  have rX := (rX.after c2).after c4
  clear q3 rA rB rD o0 o1 o2 o3 o4 c1 c2 c3 c4
  go_wp2_with fail
  refine plan_end ?_
  have LR := Lib.hid (hash_behind s0 a b d h0 ha hb hd)
  have HX := fun W (h : Below u4.heap.size u4 W) => Lib.hid (hash_any s0 (a ++ d) (some ⟨gp, 0, none⟩) 16 cp W (by omega) (by omega) ((rP.below h (Nat.le_refl _)).more h.size))
  have HY := fun W (h : Below u4.heap.size u4 W) => Lib.hid (hash_any s0 (b ++ d) (some ⟨gq, 0, none⟩) 16 cq W (by omega) (by omega) ((rQ.below h (Nat.le_refl _)).more h.size))
  have hcur : Below u4.heap.size u4 u4.drew := ⟨rfl, rfl, rfl, Nat.le_refl _, fun _ _ => rfl⟩
  obtain ⟨x2, hx2⟩ : ∃ x, x = hashI s0 (a ++ d) := ⟨_, rfl⟩
  obtain ⟨y2, hy2⟩ : ∃ x, x = hashI s0 (b ++ d) := ⟨_, rfl⟩
  rw [← hx2] at HX LR
  rw [← hy2] at HY LR
  clear hx2 hy2
  have i1 : (!((x2 == y2) == (a == b))) = false := by rw [← LR.out]; by_cases h : x2 = y2 <;> simp [h]
  have L0 : ∀ W, Below u4.heap.size u4 W → W.cell? ⟨g2, 0, none⟩ = some (.int .u64 (s0 : Int)) := fun W hW => (hW.cell (p := ⟨g2, 0, none⟩) q2.lt).trans (q2.cell 0)
  have L0 := Lib.hid L0
  go_wp2_with fail
  refine wp_region_plan (fun W => Below u4.heap.size u4 W) [.calms [0, 2, 4, 6], .read 1, .read 5, .read 9, .read 10, .read 11, .act 3, .act 7, .calms [8], .act 12] (by kernel_rfl) (by rfl) (by kernel_rfl) (by kernel_rfl) hcur ?_
  refine plan_calms (by simp [calmRow, need]; rfl) ?_
  generalize u4.drew = u5 at *
  go_wp2_with fail
  refine plan_read (by rfl) (.int .u64 (s0 : Int)) (by rfl) (fun W hW => exec_load rfl rfl (by kernel_rfl) (L0.out W hW)) ?_
  refine plan_read (by rfl) (.int .u64 (s0 : Int)) (by rfl) (fun W hW => exec_load rfl rfl (by kernel_rfl) (L0.out W hW)) ?_
  refine plan_read (by rfl) (.agg A) (by rfl) (fun W hW => exec_load_blk rfl rfl (q0.after hW) Try.underlying31 rfl (by rw [hsA]; kernel_rfl)) ?_
  refine plan_read (by rfl) (.agg B) (by rfl) (fun W hW => exec_load_blk rfl rfl (q1.after hW) Try.underlying31 rfl (by rw [hsB]; kernel_rfl)) ?_
  refine plan_read (by rfl) (.bool (a == b)) (by rfl) (fun W hW => exec_bin rfl (by
    refine run_eql_agg (xs := A) (ys := B) (by kernel_rfl) ?_
    rw [HA.out, HB.out, bcells_row, bcells_row, ← bytes_beq a b]
    exact run_equal_ints Try.underlying31 Try.underlying5 (i := (Try.prog.info? 5).get!) (by kernel_rfl) (by kernel_rfl) _ _ (by simpa using ha) (by simpa using hb))) ?_
  refine plan_act (by rfl) ?_
  go_wp2_with fail
  refine (HX _ hcur).out.mono ?_
  rintro e u6 ⟨rfl, b6⟩
  have hcur := belowGo hcur b6
  go_wp2_with fail
  refine ⟨hcur, ?_⟩
  refine plan_act (by rfl) ?_
  go_wp2_with fail
  refine (HY _ hcur).out.mono ?_
  rintro e u7 ⟨rfl, b7⟩
  have hcur := belowGo hcur b7
  go_wp2_with fail
  refine ⟨hcur, ?_⟩
  refine plan_calms (by simp [calmRow, need, chk]; rfl) ?_
  go_wp2_with fail
  refine plan_act (by rfl) ?_
  go_wp2_with fail
  refine ⟨hcur, plan_end ?_⟩
  go_wp2_with fail
  have hbw := belowGo hbw hcur
  have hbw : Below w.heap.size w u7.drew := ⟨hbw.os, hbw.tape, hbw.output, hbw.size, hbw.block⟩
  have hcur : Below u4.heap.size u4 u7.drew := ⟨hcur.os, hcur.tape, hcur.output, hcur.size, hcur.block⟩
  have q2 : Blk u7.drew g2 33 #[.int .u64 (s0 : Int), .int .u64 (s1 : Int)] := q2.after hcur
  have rX : Rd u7.drew u7.drew.heap.size 1 (some ⟨g0, 0, none⟩) (k + 1) (bcells (a.take (k + 1))) := rX.after hcur
  clear hcur HX HY LR i1 L0 b6 b7 q0 q1 rP rQ
  have hcur : Below u7.drew.heap.size u7.drew u7.drew := Below.refl _ _
  have LR := Lib.hid (hash_seeds s0 s1 (a.take (k + 1)) h0 h1 (by rw [List.length_take]; omega) (by rw [List.length_take]; omega))
  refine wp_region_plan (fun W => Below u7.drew.heap.size u7.drew W) [.calms [0, 2, 4, 6, 9, 11], .read 1, .read 5, .read 10, .read 12, .calms [13], .act 3, .act 7, .calms [8], .act 14, .calms [15], .act 16, .calms [17, 18]] (by kernel_rfl) (by rfl) (by kernel_rfl) (by kernel_rfl) hcur ?_
  generalize u7.drew = v0 at *
  have HX := fun W (h : Below v0.heap.size v0 W) => Lib.hid (hash_any s0 (a.take (k + 1)) (some ⟨g0, 0, none⟩) (k + 1) 8 W (by omega) (by omega) ((rX.below h (Nat.le_refl _)).more h.size))
  have HY := fun W (h : Below v0.heap.size v0 W) => Lib.hid (hash_any s1 (a.take (k + 1)) (some ⟨g0, 0, none⟩) (k + 1) 8 W (by omega) (by omega) ((rX.below h (Nat.le_refl _)).more h.size))
  obtain ⟨x3, hx3⟩ : ∃ x, x = hashI s0 (a.take (k + 1)) := ⟨_, rfl⟩
  obtain ⟨y3, hy3⟩ : ∃ x, x = hashI s1 (a.take (k + 1)) := ⟨_, rfl⟩
  rw [← hx3] at HX LR
  rw [← hy3] at HY LR
  clear hx3 hy3
  have i1 : ((x3 == y3) == ((s0 : Int) == (s1 : Int))) = true := by
    have e1 : ((s0 : Int) == (s1 : Int)) = decide (s0 = s1) := by rw [Bool.eq_iff_iff, beq_iff_eq, decide_eq_true_eq]; omega
    rw [e1, ← LR.out]; by_cases h : x3 = y3 <;> simp [h]
  have L0 : ∀ W, Below v0.heap.size v0 W → W.cell? ⟨g2, 0, none⟩ = some (.int .u64 (s0 : Int)) := fun W hW => (hW.cell (p := ⟨g2, 0, none⟩) q2.lt).trans (q2.cell 0)
  have L0 := Lib.hid L0
  have L1 : ∀ W, Below v0.heap.size v0 W → W.cell? ⟨g2, 1, none⟩ = some (.int .u64 (s1 : Int)) := fun W hW => (hW.cell (p := ⟨g2, 1, none⟩) q2.lt).trans (q2.cell 1)
  have L1 := Lib.hid L1
  refine plan_calms (by simp [calmRow, need]; rfl) ?_
  go_wp2_with fail
  refine plan_read (by rfl) (.int .u64 (s0 : Int)) (by rfl) (fun W hW => exec_load rfl rfl (by kernel_rfl) (L0.out W hW)) ?_
  refine plan_read (by rfl) (.int .u64 (s1 : Int)) (by rfl) (fun W hW => exec_load rfl rfl (by kernel_rfl) (L1.out W hW)) ?_
  refine plan_read (by rfl) (.int .u64 (s0 : Int)) (by rfl) (fun W hW => exec_load rfl rfl (by kernel_rfl) (L0.out W hW)) ?_
  refine plan_read (by rfl) (.int .u64 (s1 : Int)) (by rfl) (fun W hW => exec_load rfl rfl (by kernel_rfl) (L1.out W hW)) ?_
  refine plan_calms (by simp [calmRow, need, chk]; rfl) ?_
  go_wp2_with fail
  refine plan_act (by rfl) ?_
  go_wp2_with fail
  refine (HX _ hcur).out.mono ?_
  rintro e v1 ⟨rfl, b6⟩
  have hcur := belowGo hcur b6
  go_wp2_with fail
  refine ⟨hcur, ?_⟩
  refine plan_act (by rfl) ?_
  go_wp2_with fail
  refine (HY _ hcur).out.mono ?_
  rintro e v2 ⟨rfl, b7⟩
  have hcur := belowGo hcur b7
  go_wp2_with fail
  refine ⟨hcur, ?_⟩
  refine plan_calms (by simp [calmRow, need, chk]; rfl) ?_
  go_wp2_with fail
  refine plan_act (by rfl) ?_
  go_wp2_with fail
  refine ⟨hcur, ?_⟩
  refine plan_calms (by simp [calmRow, need]; rfl) ?_
  go_wp2_with fail
  refine plan_act (by rfl) ?_
  go_wp2_with fail
  refine (knows_any v2).mono ?_
  rintro e v3 ⟨rfl, b8⟩
  have hcur := belowGo hcur b8
  go_wp2_with fail
  refine ⟨hcur, ?_⟩
  refine plan_calms (by simp [calmRow, need]; rfl) ?_
  go_wp2_with fail
  refine plan_end ?_
  go_wp2_with fail
  go_ret
  exact ⟨rfl, belowGo hbw hcur⟩
end Go.Proofs.Yticjecfbjmibaaa
