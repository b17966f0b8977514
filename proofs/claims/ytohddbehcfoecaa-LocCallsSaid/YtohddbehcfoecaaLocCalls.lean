/- What the law LocCalls comes to: true. -/
import Derived.Test.YtohddbehcfoecaaLoc3
import Derived.Test.YtohddbehcfoecaaRloc
import Derived.Test.YtohddbehcfoecaaLocEq
namespace Go.Proofs.Ytohddbehcfoecaa
open Go.RowKit

set_option maxRecDepth 100000 in
set_option maxHeartbeats 8000000 in
theorem calls_walk (s o s2 o2 N : Nat) (A : Option Addr) (n c : Nat) (l : List UInt8) (w : World) (hs : s < 4294967296) (ho : o < 4294967296) (hN : N < 18446744073709551616) (hl : l.length = n) (hr : Rd w w.heap.size 1 A n (bcells l)) (hnc : n ≤ c) :
    Calls Try.prog 5 #[locV s o, locV s2 o2, .agg #[.int .u64 (N : Int), .slice A n c]] w fun e w' => e = .returned (.bool true) ∧ Below w.heap.size w w' := by
  obtain ⟨m, hm⟩ : ∃ m, m = min n 40 := ⟨_, rfl⟩
  have hmin : min (n : Int) 40 = (m : Int) := by omega
  have hmn : m ≤ n := by omega
  have hm40 : m ≤ 40 := by omega
  have HMI := Lib.hid hm
  clear hm
  obtain ⟨Y, hY⟩ : ∃ Y, Y = l.take m := ⟨_, rfl⟩
  have hYl : Y.length = m := by rw [hY, List.length_take]; omega
  have hrY : Rd w w.heap.size 1 A m (bcells Y) := by rw [hY]; exact hr.btake hmn
  have HO := fun W h => Lib.hid (rown_any Y A m c W h (by omega))
  have HP := fun W => Lib.hid (pack_any s o W)
  have HRP := fun W => Lib.hid (rpack_any s o hs ho W)
  have HU := fun W => Lib.hid (unpack_any N hN W)
  have HRU := fun W => Lib.hid (runpack_any N hN W)
  obtain ⟨ua, ub, hV⟩ : ∃ a b : Nat, (if mayL (N / 4294967296) (N % 4294967296) then locV (N / 4294967296) (N % 4294967296) else locV 0 0) = .agg #[.int .u32 (a : Int), .int .u32 (b : Int)] := by unfold locV; split <;> exact ⟨_, _, rfl⟩
  rw [hV] at HU HRU
  clear hV
  generalize (if mayL (N / 4294967296) (N % 4294967296) then (0 : Int) else 1) = ue at *
  have HX := fun A' n' c' W h hn => Lib.hid (putL_any Y A' n' c' s o W h hn)
  have HRX := fun A' n' c' W h hn => Lib.hid (rputL_any Y A' n' c' s o hs ho W h hn)
  have HG := fun A' n' c' W h1 h => Lib.hid (getL_any Y A' n' c' W h1 h)
  have HRG := fun A' n' c' W h1 h => Lib.hid (rgetL_any Y A' n' c' W h1 h)
  have HC := fun W => Lib.hid (compareL_any s o s2 o2 W)
  have HRC := fun W => Lib.hid (rcompare_any s o s2 o2 W)
  have HMY := fun W => Lib.hid (may_any s o W)
  have HNO := fun W => Lib.hid (none_any s o W)
  have HEQ := fun W => Lib.hid (equal_loc s o 0 0 W)
  unfold packE at HP HRP
  generalize packN s o = pn at *
  generalize locB Y s o = X at *
  generalize hXl : X.length = xl at *
  generalize locGetP Y = G at *
  obtain ⟨gs, go, gn, ge⟩ := G
  simp only at HG HRG
  unfold RetGet at HG HRG
  unfold RetLoc at HX HRX
  generalize cmpL s o s2 o2 = cc at *
  rw [show decide (s = 0 ∧ o = 0) = noneB s o from rfl] at HEQ
  generalize noneB s o = nb at *
  obtain ⟨b, hb⟩ : ∃ b, b = mayL s o := ⟨_, rfl⟩
  rw [← hb] at HP HRP HX HRX HMY
  clear hb hXl
  have HYL := Lib.hid hYl
  have HLL := Lib.hid hl
  clear hY hYl hl
  obtain ⟨pe, hpe⟩ : ∃ pe : Nat, pe = if b = true then 0 else 1 := ⟨_, rfl⟩
  rw [← hpe] at HP HRP HX HRX
  have E1 := Lib.hid (show (b == ((pe : Int) == 0)) = true by rw [hpe]; cases b <;> rfl)
  clear hpe
  unfold locV at *
  have q0 := ((Blk.new w 24 #[.int .u32 (s : Int), .int .u32 (o : Int)]).alloc (.cells #[.int .u32 (s2 : Int), .int .u32 (o2 : Int)] 24)).alloc (.cells #[.int .u64 (N : Int), .slice A n c] 38)
  have q1 := (Blk.newAt (w.alloc (.cells #[.int .u32 (s : Int), .int .u32 (o : Int)] 24)) 24 #[.int .u32 (s2 : Int), .int .u32 (o2 : Int)] (g := w.heap.size + 1) (by simp)).alloc (.cells #[.int .u64 (N : Int), .slice A n c] 38)
  have q2 := Blk.newAt ((w.alloc (.cells #[.int .u32 (s : Int), .int .u32 (o : Int)] 24)).alloc (.cells #[.int .u32 (s2 : Int), .int .u32 (o2 : Int)] 24)) 38 #[.int .u64 (N : Int), .slice A n c] (g := w.heap.size + 1 + 1) (by simp)
  have hbw := (((Below.refl w.heap.size w).alloc (Nat.le_refl _) (.cells #[.int .u32 (s : Int), .int .u32 (o : Int)] 24)).alloc (by simp) (.cells #[.int .u32 (s2 : Int), .int .u32 (o2 : Int)] 24)).alloc (by simp; omega) (.cells #[.int .u64 (N : Int), .slice A n c] 38)
  have i1 : m ≤ c := by omega
  have i2 : (m : Int) ≤ (c : Int) := by omega
  go_enter Try.func5, Try.ntmps5
  go_wp2_with fail
  generalize ((w.alloc (.cells #[.int .u32 (s : Int), .int .u32 (o : Int)] 24)).alloc (.cells #[.int .u32 (s2 : Int), .int .u32 (o2 : Int)] 24)).alloc (.cells #[.int .u64 (N : Int), .slice A n c] 38) = w0 at *
  have rY := (hrY.below hbw (Nat.le_refl _)).more hbw.size
  refine (HO _ rY).out.mono ?_
  rintro e w1 ⟨v1, rfl, o1, b⟩
  obtain ⟨A1, c1, rfl, hc1⟩ := own_cap o1
  have r1 := own_rd o1
  clear o1 HO rY
  have hbw := hbw.trans (b.mono hbw.size)
  have q0 := q0.after b
  have q1 := q1.after b
  have q2 := q2.after b
  clear b
  have cq00 := q0.cell 0
  have cq01 := q0.cell 1
  have zq0 := q0.lt
  go_wp2_with fail
  refine (HP _).out.mono ?_
  rintro e w2 ⟨rfl, b⟩
  clear cq00 cq01 zq0
  have hbw := hbw.trans (b.mono hbw.size)
  have q0 := q0.after b
  have q1 := q1.after b
  have q2 := q2.after b
  have r1 := r1.after b
  clear b
  have cq00 := q0.cell 0
  have cq01 := q0.cell 1
  have zq0 := q0.lt
  go_wp2_with fail
  refine (HRP _).out.mono ?_
  rintro e w3 ⟨rfl, b⟩
  clear cq00 cq01 zq0
  have hbw := hbw.trans (b.mono hbw.size)
  have q0 := q0.after b
  have q1 := q1.after b
  have q2 := q2.after b
  have r1 := r1.after b
  clear b
  have cq20 := q2.cell 0
  have zq2 := q2.lt
  go_wp2_with fail
  refine (HU _).out.mono ?_
  rintro e w4 ⟨rfl, b⟩
  clear cq20 zq2
  have hbw := hbw.trans (b.mono hbw.size)
  have q0 := q0.after b
  have q1 := q1.after b
  have q2 := q2.after b
  have r1 := r1.after b
  clear b
  have cq20 := q2.cell 0
  have zq2 := q2.lt
  go_wp2_with fail
  obtain ⟨g13, hg13⟩ : ∃ g, g = w4.heap.size := ⟨_, rfl⟩
  have q13 := Blk.newAt w4 24 #[.int .u32 (ua : Int), .int .u32 (ub : Int)] hg13
  have q0 := q0.alloc (.cells #[.int .u32 (ua : Int), .int .u32 (ub : Int)] 24)
  have q1 := q1.alloc (.cells #[.int .u32 (ua : Int), .int .u32 (ub : Int)] 24)
  have q2 := q2.alloc (.cells #[.int .u32 (ua : Int), .int .u32 (ub : Int)] 24)
  have r1 := r1.allocs (.cells #[.int .u32 (ua : Int), .int .u32 (ub : Int)] 24)
  have hbw := hbw.alloc hbw.size (.cells #[.int .u32 (ua : Int), .int .u32 (ub : Int)] 24)
  rw [← hg13]
  clear hg13
  generalize w4.alloc (.cells #[.int .u32 (ua : Int), .int .u32 (ub : Int)] 24) = w45 at *
  clear HP HRP HU
  refine (HRU _).out.mono ?_
  rintro e w5 ⟨rfl, b⟩
  clear cq20 zq2
  have hbw := hbw.trans (b.mono hbw.size)
  have q0 := q0.after b
  have q1 := q1.after b
  have q2 := q2.after b
  have q13 := q13.after b
  have r1 := r1.after b
  clear b
  have cq00 := q0.cell 0
  have cq01 := q0.cell 1
  have zq0 := q0.lt
  go_wp2_with fail
  obtain ⟨g15, hg15⟩ : ∃ g, g = w5.heap.size := ⟨_, rfl⟩
  have q15 := Blk.newAt w5 24 #[.int .u32 (ua : Int), .int .u32 (ub : Int)] hg15
  have q0 := q0.alloc (.cells #[.int .u32 (ua : Int), .int .u32 (ub : Int)] 24)
  have q1 := q1.alloc (.cells #[.int .u32 (ua : Int), .int .u32 (ub : Int)] 24)
  have q2 := q2.alloc (.cells #[.int .u32 (ua : Int), .int .u32 (ub : Int)] 24)
  have q13 := q13.alloc (.cells #[.int .u32 (ua : Int), .int .u32 (ub : Int)] 24)
  have r1 := r1.allocs (.cells #[.int .u32 (ua : Int), .int .u32 (ub : Int)] 24)
  have hbw := hbw.alloc hbw.size (.cells #[.int .u32 (ua : Int), .int .u32 (ub : Int)] 24)
  rw [← hg15]
  clear hg15
  generalize w5.alloc (.cells #[.int .u32 (ua : Int), .int .u32 (ub : Int)] 24) = w55 at *
  refine (HX _ _ _ _ r1 (by omega)).out.mono ?_
  rintro e w6 ⟨v6, rfl, o6, b⟩
  obtain ⟨A6, c6, rfl, _⟩ := own_cap o6
  have r6 := own_rd o6
  clear cq00 cq01 zq0
  clear o6 HX HRU
  have hbw := hbw.trans (b.mono hbw.size)
  have q0 := q0.after b
  have q1 := q1.after b
  have q2 := q2.after b
  have q13 := q13.after b
  have q15 := q15.after b
  have r1 := r1.after b
  clear b
  have cq00 := q0.cell 0
  have cq01 := q0.cell 1
  have zq0 := q0.lt
  go_wp2_with fail
  have rY := (hrY.below hbw (Nat.le_refl _)).more hbw.size
  refine (HRX _ _ _ _ rY (by omega)).out.mono ?_
  rintro e w7 ⟨v7, rfl, o7, b⟩
  obtain ⟨A7, c7, rfl, _⟩ := own_cap o7
  have r7 := own_rd o7
  clear cq00 cq01 zq0
  clear o7 HRX rY
  have hbw := hbw.trans (b.mono hbw.size)
  have q0 := q0.after b
  have q1 := q1.after b
  have q2 := q2.after b
  have q13 := q13.after b
  have q15 := q15.after b
  have r1 := r1.after b
  have r6 := r6.after b
  clear b
  go_wp2_with fail
  refine (HG _ _ _ _ hc1 r1).out.mono ?_
  rintro e w8 ⟨rfl, b⟩
  have hbw := hbw.trans (b.mono hbw.size)
  have q0 := q0.after b
  have q1 := q1.after b
  have q2 := q2.after b
  have q13 := q13.after b
  have q15 := q15.after b
  have r1 := r1.after b
  have r6 := r6.after b
  have r7 := r7.after b
  clear b
  go_wp2_with fail
  obtain ⟨g21, hg21⟩ : ∃ g, g = w8.heap.size := ⟨_, rfl⟩
  have q21 := Blk.newAt w8 24 #[.int .u32 (gs : Int), .int .u32 (go : Int)] hg21
  have q0 := q0.alloc (.cells #[.int .u32 (gs : Int), .int .u32 (go : Int)] 24)
  have q1 := q1.alloc (.cells #[.int .u32 (gs : Int), .int .u32 (go : Int)] 24)
  have q2 := q2.alloc (.cells #[.int .u32 (gs : Int), .int .u32 (go : Int)] 24)
  have q13 := q13.alloc (.cells #[.int .u32 (gs : Int), .int .u32 (go : Int)] 24)
  have q15 := q15.alloc (.cells #[.int .u32 (gs : Int), .int .u32 (go : Int)] 24)
  have r1 := r1.allocs (.cells #[.int .u32 (gs : Int), .int .u32 (go : Int)] 24)
  have r6 := r6.allocs (.cells #[.int .u32 (gs : Int), .int .u32 (go : Int)] 24)
  have r7 := r7.allocs (.cells #[.int .u32 (gs : Int), .int .u32 (go : Int)] 24)
  have hbw := hbw.alloc hbw.size (.cells #[.int .u32 (gs : Int), .int .u32 (go : Int)] 24)
  rw [← hg21]
  clear hg21
  generalize w8.alloc (.cells #[.int .u32 (gs : Int), .int .u32 (go : Int)] 24) = w85 at *
  have rY := (hrY.below hbw (Nat.le_refl _)).more hbw.size
  refine (HRG _ _ _ _ i1 rY).out.mono ?_
  rintro e w9 ⟨rfl, b⟩
  clear rY HG
  have hbw := hbw.trans (b.mono hbw.size)
  have q0 := q0.after b
  have q1 := q1.after b
  have q2 := q2.after b
  have q13 := q13.after b
  have q15 := q15.after b
  have q21 := q21.after b
  have r1 := r1.after b
  have r6 := r6.after b
  have r7 := r7.after b
  clear b
  have cq130 := q13.cell 0
  have cq131 := q13.cell 1
  have cq150 := q15.cell 0
  have cq151 := q15.cell 1
  have zq13 := q13.lt
  have zq15 := q15.lt
  go_wp2_with fail
  obtain ⟨g24, hg24⟩ : ∃ g, g = w9.heap.size := ⟨_, rfl⟩
  have q24 := Blk.newAt w9 24 #[.int .u32 (gs : Int), .int .u32 (go : Int)] hg24
  have q0 := q0.alloc (.cells #[.int .u32 (gs : Int), .int .u32 (go : Int)] 24)
  have q1 := q1.alloc (.cells #[.int .u32 (gs : Int), .int .u32 (go : Int)] 24)
  have q2 := q2.alloc (.cells #[.int .u32 (gs : Int), .int .u32 (go : Int)] 24)
  have q13 := q13.alloc (.cells #[.int .u32 (gs : Int), .int .u32 (go : Int)] 24)
  have q15 := q15.alloc (.cells #[.int .u32 (gs : Int), .int .u32 (go : Int)] 24)
  have q21 := q21.alloc (.cells #[.int .u32 (gs : Int), .int .u32 (go : Int)] 24)
  have r1 := r1.allocs (.cells #[.int .u32 (gs : Int), .int .u32 (go : Int)] 24)
  have r6 := r6.allocs (.cells #[.int .u32 (gs : Int), .int .u32 (go : Int)] 24)
  have r7 := r7.allocs (.cells #[.int .u32 (gs : Int), .int .u32 (go : Int)] 24)
  have hbw := hbw.alloc hbw.size (.cells #[.int .u32 (gs : Int), .int .u32 (go : Int)] 24)
  rw [← hg24]
  clear hg24
  generalize w9.alloc (.cells #[.int .u32 (gs : Int), .int .u32 (go : Int)] 24) = w95 at *
  refine (equal_same X _ _ _ _ _ _ _ r6 r7).mono ?_
  rintro e w10 ⟨rfl, rfl⟩
  clear cq130 cq131 cq150 cq151 zq13 zq15
  clear HRG r6 r7
  have cq210 := q21.cell 0
  have cq211 := q21.cell 1
  have cq240 := q24.cell 0
  have cq241 := q24.cell 1
  have zq21 := q21.lt
  have zq24 := q24.lt
  go_wp2_with fail
  clear cq210 cq211 cq240 cq241 zq21 zq24
  have hcur : Below w95.heap.size w95 w95.drew := ⟨rfl, rfl, rfl, Nat.le_refl _, fun _ _ => rfl⟩
  refine wp_region_plan (fun W => Below w95.heap.size w95 W) [.calms [0, 1], .read 2, .read 3, .read 5, .read 6, .act 4, .act 7, .calms [8, 9, 10, 13, 14], .read 11, .act 12, .act 15, .calms [16, 17], .read 18, .read 20, .read 21, .read 22, .act 19, .act 23, .calms [24, 25, 26, 27], .act 28, .calms [29, 30], .act 31, .calms [32, 33]] (by kernel_rfl) (by rfl) (by kernel_rfl) (by kernel_rfl) hcur ?_
  generalize w95.drew = x0 at *
  refine plan_calms (by simp [calmRow, need]; rfl) ?_
  go_wp2_with fail
  refine plan_read (by rfl) (.agg #[.int .u32 (s : Int), .int .u32 (o : Int)]) (by rfl) (fun W hW => exec_load_blk rfl rfl (q0.after hW) Try.underlying24 rfl (by kernel_rfl)) ?_
  refine plan_read (by rfl) (.agg #[.int .u32 (s2 : Int), .int .u32 (o2 : Int)]) (by rfl) (fun W hW => exec_load_blk rfl rfl (q1.after hW) Try.underlying24 rfl (by kernel_rfl)) ?_
  refine plan_read (by rfl) (.agg #[.int .u32 (s : Int), .int .u32 (o : Int)]) (by rfl) (fun W hW => exec_load_blk rfl rfl (q0.after hW) Try.underlying24 rfl (by kernel_rfl)) ?_
  refine plan_read (by rfl) (.agg #[.int .u32 (s2 : Int), .int .u32 (o2 : Int)]) (by rfl) (fun W hW => exec_load_blk rfl rfl (q1.after hW) Try.underlying24 rfl (by kernel_rfl)) ?_
  refine plan_act (by rfl) ?_
  go_wp2_with fail
  refine (HC _).out.mono ?_
  rintro e x1 ⟨rfl, b⟩
  have hcur := belowGo hcur b
  go_wp2_with fail
  refine ⟨hcur, ?_⟩
  refine plan_act (by rfl) ?_
  go_wp2_with fail
  refine (HRC _).out.mono ?_
  rintro e x2 ⟨rfl, b⟩
  have hcur := belowGo hcur b
  go_wp2_with fail
  refine ⟨hcur, ?_⟩
  refine plan_calms (by simp [calmRow, need, chk]; rfl) ?_
  go_wp2_with fail
  refine plan_read (by rfl) (.agg #[.int .u32 (s : Int), .int .u32 (o : Int)]) (by rfl) (fun W hW => exec_load_blk rfl rfl (q0.after hW) Try.underlying24 rfl (by kernel_rfl)) ?_
  refine plan_act (by rfl) ?_
  go_wp2_with fail
  refine (HMY _).out.mono ?_
  rintro e x3 ⟨rfl, b⟩
  have hcur := belowGo hcur b
  go_wp2_with fail
  refine ⟨hcur, ?_⟩
  have e1 := E1.out
  refine plan_act (by rfl) ?_
  go_wp2_with fail
  refine ⟨hcur, ?_⟩
  refine plan_calms (by simp [calmRow, need]; rfl) ?_
  go_wp2_with fail
  refine plan_read (by rfl) (.agg #[.int .u32 (s : Int), .int .u32 (o : Int)]) (by rfl) (fun W hW => exec_load_blk rfl rfl (q0.after hW) Try.underlying24 rfl (by kernel_rfl)) ?_
  refine plan_read (by rfl) (.agg #[.int .u32 (s : Int), .int .u32 (o : Int)]) (by rfl) (fun W hW => exec_load_blk rfl rfl (q0.after hW) Try.underlying24 rfl (by kernel_rfl)) ?_
  refine plan_read (by rfl) (.agg #[.int .u32 0, .int .u32 0]) (by rfl) (fun W hW => exec_build rfl (by kernel_rfl)) ?_
  refine plan_read (by rfl) (.bool nb) (by rfl) (fun W hW => exec_bin rfl (run_eql_agg (by kernel_rfl) (HEQ W).out)) ?_
  refine plan_act (by rfl) ?_
  go_wp2_with fail
  refine (HNO _).out.mono ?_
  rintro e x4 ⟨rfl, b⟩
  have hcur := belowGo hcur b
  go_wp2_with fail
  refine ⟨hcur, ?_⟩
  refine plan_act (by rfl) ?_
  go_wp2_with fail
  refine ⟨hcur, ?_⟩
  refine plan_calms (by simp [calmRow, need]; rfl) ?_
  go_wp2_with fail
  have rY := (hrY.below (hbw.trans (hcur.mono hbw.size)) (Nat.le_refl _)).more (hbw.trans (hcur.mono hbw.size)).size
  have r1 := r1.after hcur
  refine plan_act (by rfl) ?_
  go_wp2_with fail
  refine (equal_same Y _ _ _ _ _ _ _ r1 rY).mono ?_
  rintro e x5 ⟨rfl, rfl⟩
  go_wp2_with fail
  refine ⟨hcur, ?_⟩
  refine plan_calms (by simp [calmRow, need]; rfl) ?_
  go_wp2_with fail
  refine plan_act (by rfl) ?_
  go_wp2_with fail
  refine (wakes_any _).mono ?_
  rintro e x6 ⟨rfl, b⟩
  have hcur := belowGo hcur b
  go_wp2_with fail
  refine ⟨hcur, ?_⟩
  refine plan_calms (by simp [calmRow, need]; rfl) ?_
  go_wp2_with fail
  refine plan_end ?_
  go_wp2_with fail
  go_ret
  exact ⟨rfl, hbw.trans (hcur.mono hbw.size)⟩
end Go.Proofs.Ytohddbehcfoecaa
