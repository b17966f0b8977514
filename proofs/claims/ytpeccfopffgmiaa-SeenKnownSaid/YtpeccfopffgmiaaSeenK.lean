/- What the law SeenKnown comes to: true. Closed. -/
import Derived.Test.YtpeccfopffgmiaaSeen7
namespace Go.Proofs.Ytpeccfopffgmiaa
open Go.RowKit

set_option maxHeartbeats 4000000 in
theorem known_walk (w : World) : Calls Try.prog 6 #[] w fun e w' => e = .returned (.bool true) ∧ Below w.heap.size w w' := by
  go_enter Try.func6, Try.ntmps6
  have hO := (((Blk.newAt w 28 #[.int .u64 5, .int .i64 1] (g := w.heap.size) (by simp)).alloc (.cells #[.int .u64 5, .int .i64 1, .int .u64 5, .int .i64 1] 28)).alloc (.cells #[.int .u64 5, .int .i64 3] 28))
  have hT := ((Blk.newAt (w.alloc (.cells #[.int .u64 5, .int .i64 1] 28)) 28 #[.int .u64 5, .int .i64 1, .int .u64 5, .int .i64 1] (g := w.heap.size + 1) (by simp)).alloc (.cells #[.int .u64 5, .int .i64 3] 28))
  have hX := (Blk.newAt ((w.alloc (.cells #[.int .u64 5, .int .i64 1] 28)).alloc (.cells #[.int .u64 5, .int .i64 1, .int .u64 5, .int .i64 1] 28)) 28 #[.int .u64 5, .int .i64 3] (g := w.heap.size + 1 + 1) (by simp))
  have hb := (belowAlloc (belowAlloc (belowAlloc (Below.refl w.heap.size w) (.cells #[.int .u64 5, .int .i64 1] 28)) (.cells #[.int .u64 5, .int .i64 1, .int .u64 5, .int .i64 1] 28)) (.cells #[.int .u64 5, .int .i64 3] 28))
  have k1 := newest_any [(5, 1)] _ 1 1 4 _ rfl (by omega) (hO.rd (n := 1) (size := 2) rfl (by unfold maxLen; omega))
  rw [show newK [(5, 1)] 4 = 0 by decide] at k1
  rw [show newIs [(5, 1)] 4 = false by decide] at k1
  have K1 := Lib.hid k1
  clear k1
  go_wp2_with fail
  refine K1.out.mono ?_
  rintro e w1 ⟨rfl, b1⟩
  clear K1
  have hO := hO.after b1
  have hT := hT.after b1
  have hX := hX.after b1
  have hb := belowGo hb b1
  have hO := hO
  have hT := hT
  have hX := hX
  have hb := hb
  have k2 := newest_any [(5, 1)] _ 1 1 18446744073709551615 _ rfl (by omega) (hO.rd (n := 1) (size := 2) rfl (by unfold maxLen; omega))
  rw [show newK [(5, 1)] 18446744073709551615 = 0 by decide] at k2
  rw [show newIs [(5, 1)] 18446744073709551615 = true by decide] at k2
  have K2 := Lib.hid k2
  clear k2
  go_wp2_with fail
  refine K2.out.mono ?_
  rintro e w2 ⟨rfl, b2⟩
  clear K2
  have hO := hO.after b2
  have hT := hT.after b2
  have hX := hX.after b2
  have hb := belowGo hb b2
  have hT := hT
  have hX := hX
  have hb := hb
  have k3 := newest_any [(5, 1), (5, 1)] _ 2 2 9 _ rfl (by omega) (hT.rd (n := 2) (size := 2) rfl (by unfold maxLen; omega))
  rw [show newK [(5, 1), (5, 1)] 9 = 0 by decide] at k3
  rw [show newIs [(5, 1), (5, 1)] 9 = false by decide] at k3
  have K3 := Lib.hid k3
  clear k3
  go_wp2_with fail
  refine K3.out.mono ?_
  rintro e w3 ⟨rfl, b3⟩
  clear K3
  have hT := hT.after b3
  have hX := hX.after b3
  have hb := belowGo hb b3
  have hT := (hT.alloc (.cells #[.int .u64 1, .int .i64 1, .int .u64 2, .int .i64 2, .int .u64 3, .int .i64 2] 28))
  have hX := (hX.alloc (.cells #[.int .u64 1, .int .i64 1, .int .u64 2, .int .i64 2, .int .u64 3, .int .i64 2] 28))
  have hD := (Blk.newAt w3 28 #[.int .u64 1, .int .i64 1, .int .u64 2, .int .i64 2, .int .u64 3, .int .i64 2] (g := w3.heap.size) (by simp))
  have hb := (belowAlloc hb (.cells #[.int .u64 1, .int .i64 1, .int .u64 2, .int .i64 2, .int .u64 3, .int .i64 2] 28))
  have k4 := there_any [(5, 3)] _ 1 1 9 _ rfl (by omega) (hX.rd (n := 1) (size := 2) rfl (by unfold maxLen; omega))
  rw [show thereB [(5, 3)] 9 = false by decide] at k4
  have K4 := Lib.hid k4
  clear k4
  go_wp2_with fail
  refine K4.out.mono ?_
  rintro e w4 ⟨rfl, b4⟩
  clear K4
  have hT := hT.after b4
  have hX := hX.after b4
  have hD := hD.after b4
  have hb := belowGo hb b4
  have hT := (hT.alloc (.cells #[.int .u64 9] 25))
  have hX := (hX.alloc (.cells #[.int .u64 9] 25))
  have hD := (hD.alloc (.cells #[.int .u64 9] 25))
  have hN := (Blk.newAt w4 25 #[.int .u64 9] (g := w4.heap.size) (by simp))
  have hb := (belowAlloc hb (.cells #[.int .u64 9] 25))
  have k5 := seen_any [(5, 1), (5, 1)] _ 2 2 [9] _ 1 1 _ rfl (by omega) rfl (hT.rd (n := 2) (size := 2) rfl (by unfold maxLen; omega)) (hN.rd (n := 1) (size := 1) rfl (by unfold maxLen; omega))
  rw [show seenL [(5, 1), (5, 1)] [9] = [] by decide] at k5
  have K5 := Lib.hid k5
  clear k5
  go_wp2_with fail
  refine K5.out.mono ?_
  rintro e w5 ⟨v5, rfl, o5, b5⟩
  obtain ⟨A5, c5, rfl⟩ := own_slice o5
  clear K5
  have hT := hT.after b5
  have hX := hX.after b5
  have hD := hD.after b5
  have hN := hN.after b5
  have hb := belowGo hb b5
  have hX := (hX.alloc (.cells #[.int .u64 9] 25))
  have hD := (hD.alloc (.cells #[.int .u64 9] 25))
  have hN := (Blk.newAt w5 25 #[.int .u64 9] (g := w5.heap.size) (by simp))
  have hb := (belowAlloc hb (.cells #[.int .u64 9] 25))
  have k6 := kept_any [(5, 3)] _ 1 1 [9] _ 1 1 _ rfl (by omega) rfl (hX.rd (n := 1) (size := 2) rfl (by unfold maxLen; omega)) (hN.rd (n := 1) (size := 1) rfl (by unfold maxLen; omega))
  rw [show keptL [(5, 3)] [9] = [] by decide] at k6
  have K6 := Lib.hid k6
  clear k6
  go_wp2_with fail
  refine K6.out.mono ?_
  rintro e w6 ⟨v6, rfl, o6, b6⟩
  obtain ⟨A6, c6, rfl⟩ := own_slice o6
  clear K6
  have hX := hX.after b6
  have hD := hD.after b6
  have hN := hN.after b6
  have hb := belowGo hb b6
  have hD := hD
  have hb := hb
  have k7 := may_any [] none 0 0 w6 rfl (Rd.nil_ _ _ _ none)
  rw [show mayB [] = true by decide] at k7
  have K7 := Lib.hid k7
  clear k7
  go_wp2_with fail
  refine K7.out.mono ?_
  rintro e w7 ⟨rfl, b7⟩
  clear K7
  have hD := hD.after b7
  have hb := belowGo hb b7
  have hD := (hD.alloc (.cells #[.int .u64 1099511627777, .int .i64 1] 28))
  have hM := (Blk.newAt w7 28 #[.int .u64 1099511627777, .int .i64 1] (g := w7.heap.size) (by simp))
  have hb := (belowAlloc hb (.cells #[.int .u64 1099511627777, .int .i64 1] 28))
  have k8 := may_any [(1099511627777, 1)] _ 1 1 _ rfl (hM.rd (n := 1) (size := 2) rfl (by unfold maxLen; omega))
  rw [show mayB [(1099511627777, 1)] = false by decide] at k8
  have K8 := Lib.hid k8
  clear k8
  go_wp2_with fail
  refine K8.out.mono ?_
  rintro e w8 ⟨rfl, b8⟩
  clear K8
  have hD := hD.after b8
  have hM := hM.after b8
  have hb := belowGo hb b8
  have hD := (hD.alloc (.cells #[.int .u64 0, .int .i64 1] 28))
  have hM := (Blk.newAt w8 28 #[.int .u64 0, .int .i64 1] (g := w8.heap.size) (by simp))
  have hb := (belowAlloc hb (.cells #[.int .u64 0, .int .i64 1] 28))
  have k9 := may_any [(0, 1)] _ 1 1 _ rfl (hM.rd (n := 1) (size := 2) rfl (by unfold maxLen; omega))
  rw [show mayB [(0, 1)] = false by decide] at k9
  have K9 := Lib.hid k9
  clear k9
  go_wp2_with fail
  refine K9.out.mono ?_
  rintro e w9 ⟨rfl, b9⟩
  clear K9
  have hD := hD.after b9
  have hM := hM.after b9
  have hb := belowGo hb b9
  have hD := (hD.alloc (.cells #[.int .u64 1] 25))
  have hN := (Blk.newAt w9 25 #[.int .u64 1] (g := w9.heap.size) (by simp))
  have hb := (belowAlloc hb (.cells #[.int .u64 1] 25))
  have k10 := kept_any [] none 0 0 [1] _ 1 1 _ rfl (by omega) rfl (Rd.nil_ _ _ _ none) (hN.rd (n := 1) (size := 1) rfl (by unfold maxLen; omega))
  rw [show keptL [] [1] = [] by decide] at k10
  have K10 := Lib.hid k10
  clear k10
  go_wp2_with fail
  refine K10.out.mono ?_
  rintro e w10 ⟨v10, rfl, o10, b10⟩
  obtain ⟨A10, c10, rfl⟩ := own_slice o10
  clear K10
  have hD := hD.after b10
  have hN := hN.after b10
  have hb := belowGo hb b10
  have hD := (hD.alloc (.cells #[.int .u64 1, .int .u64 2, .int .u64 3] 25))
  have hN := (Blk.newAt w10 25 #[.int .u64 1, .int .u64 2, .int .u64 3] (g := w10.heap.size) (by simp))
  have hb := (belowAlloc hb (.cells #[.int .u64 1, .int .u64 2, .int .u64 3] 25))
  have k11 := kept_any [(1, 1), (2, 2), (3, 2)] _ 3 3 [1, 2, 3] _ 3 3 _ rfl (by omega) rfl (hD.rd (n := 3) (size := 2) rfl (by unfold maxLen; omega)) (hN.rd (n := 3) (size := 1) rfl (by unfold maxLen; omega))
  rw [show keptL [(1, 1), (2, 2), (3, 2)] [1, 2, 3] = [true, true, true] by decide] at k11
  have K11 := Lib.hid k11
  clear k11
  go_wp2_with fail
  refine K11.out.mono ?_
  rintro e w11 ⟨v11, rfl, o11, b11⟩
  obtain ⟨A11, c11, rfl⟩ := own_slice o11
  clear K11
  have hD := hD.after b11
  have hN := hN.after b11
  have hb := belowGo hb b11
  have hR := own_rd o11
  simp only [List.length_cons, List.length_nil, Nat.reduceAdd] at hR ⊢
  have hD := (hD.alloc (.cells #[.int .i64 0, .int .i64 1, .int .i64 2] 3))
  have hR := (hR.allocs (.cells #[.int .i64 0, .int .i64 1, .int .i64 2] 3))
  have hN := (Blk.newAt w11 3 #[.int .i64 0, .int .i64 1, .int .i64 2] (g := w11.heap.size) (by simp))
  have hb := (belowAlloc hb (.cells #[.int .i64 0, .int .i64 1, .int .i64 2] 3))
  have k12 := are_any [true, true, true] _ 3 c11 [0, 1, 2] _ 3 3 (w11.alloc (.cells #[.int .i64 0, .int .i64 1, .int .i64 2] 3)) rfl (by omega) rfl hR (hN.rd (n := 3) (size := 1) rfl (by unfold maxLen; omega))
  rw [show areB [true, true, true] [0, 1, 2] = true by decide] at k12
  have K12 := Lib.hid k12
  clear k12
  go_wp2_with fail
  refine K12.out.mono ?_
  rintro e w12 ⟨rfl, b12⟩
  clear K12
  have hD := hD.after b12
  have hR := hR.after b12
  have hN := hN.after b12
  have hb := belowGo hb b12
  have hD := (hD.alloc (.cells #[.int .u64 2, .int .u64 3] 25))
  have hN := (Blk.newAt w12 25 #[.int .u64 2, .int .u64 3] (g := w12.heap.size) (by simp))
  have hb := (belowAlloc hb (.cells #[.int .u64 2, .int .u64 3] 25))
  have k13 := kept_any [(1, 1), (2, 2), (3, 2)] _ 3 3 [2, 3] _ 2 2 _ rfl (by omega) rfl (hD.rd (n := 3) (size := 2) rfl (by unfold maxLen; omega)) (hN.rd (n := 2) (size := 1) rfl (by unfold maxLen; omega))
  rw [show keptL [(1, 1), (2, 2), (3, 2)] [2, 3] = [false, false, false] by decide] at k13
  have K13 := Lib.hid k13
  clear k13
  go_wp2_with fail
  refine K13.out.mono ?_
  rintro e w13 ⟨v13, rfl, o13, b13⟩
  obtain ⟨A13, c13, rfl⟩ := own_slice o13
  clear K13
  have hD := hD.after b13
  have hN := hN.after b13
  have hb := belowGo hb b13
  have hR := own_rd o13
  simp only [List.length_cons, List.length_nil, Nat.reduceAdd] at hR ⊢
  have hD := hD
  have hR := hR
  have hb := hb
  have k14 := are_any [false, false, false] _ 3 c13 [] none 0 0 w13 rfl (by omega) rfl hR (Rd.nil_ _ _ _ none)
  rw [show areB [false, false, false] [] = true by decide] at k14
  have K14 := Lib.hid k14
  clear k14
  go_wp2_with fail
  refine K14.out.mono ?_
  rintro e w14 ⟨rfl, b14⟩
  clear K14
  have hD := hD.after b14
  have hR := hR.after b14
  have hb := belowGo hb b14
  have hD := (hD.alloc (.cells #[.int .u64 2, .int .u64 3] 25))
  have hN := (Blk.newAt w14 25 #[.int .u64 2, .int .u64 3] (g := w14.heap.size) (by simp))
  have hb := (belowAlloc hb (.cells #[.int .u64 2, .int .u64 3] 25))
  have k15 := seen_any [(1, 1), (2, 2), (3, 2)] _ 3 3 [2, 3] _ 2 2 _ rfl (by omega) rfl (hD.rd (n := 3) (size := 2) rfl (by unfold maxLen; omega)) (hN.rd (n := 2) (size := 1) rfl (by unfold maxLen; omega))
  rw [show seenL [(1, 1), (2, 2), (3, 2)] [2, 3] = [false, true, true] by decide] at k15
  have K15 := Lib.hid k15
  clear k15
  go_wp2_with fail
  refine K15.out.mono ?_
  rintro e w15 ⟨v15, rfl, o15, b15⟩
  obtain ⟨A15, c15, rfl⟩ := own_slice o15
  clear K15
  have hD := hD.after b15
  have hN := hN.after b15
  have hb := belowGo hb b15
  have hR := own_rd o15
  simp only [List.length_cons, List.length_nil, Nat.reduceAdd] at hR ⊢
  have hD := (hD.alloc (.cells #[.int .i64 1, .int .i64 2] 3))
  have hR := (hR.allocs (.cells #[.int .i64 1, .int .i64 2] 3))
  have hN := (Blk.newAt w15 3 #[.int .i64 1, .int .i64 2] (g := w15.heap.size) (by simp))
  have hb := (belowAlloc hb (.cells #[.int .i64 1, .int .i64 2] 3))
  have k16 := are_any [false, true, true] _ 3 c15 [1, 2] _ 2 2 (w15.alloc (.cells #[.int .i64 1, .int .i64 2] 3)) rfl (by omega) rfl hR (hN.rd (n := 2) (size := 1) rfl (by unfold maxLen; omega))
  rw [show areB [false, true, true] [1, 2] = true by decide] at k16
  have K16 := Lib.hid k16
  clear k16
  go_wp2_with fail
  refine K16.out.mono ?_
  rintro e w16 ⟨rfl, b16⟩
  clear K16
  have hD := hD.after b16
  have hR := hR.after b16
  have hN := hN.after b16
  have hb := belowGo hb b16
  have hD := hD
  have hb := hb
  have k17 := knows_any w16
  have K17 := Lib.hid k17
  clear k17
  go_wp2_with fail
  refine K17.out.mono ?_
  rintro e w17 ⟨rfl, b17⟩
  clear K17
  have hD := hD.after b17
  have hb := belowGo hb b17
  go_wp2
  go_ret
  exact ⟨rfl, hb⟩
end Go.Proofs.Ytpeccfopffgmiaa
