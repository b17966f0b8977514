/- What 'knows' comes to: the chapter's rows. Closed. -/
import Derived.Test.YtldeldjbpngbkaaSn6
import Derived.Test.YtldeldjbpngbkaaBlk
namespace Go.Proofs.Ytldeldjbpngbkaa.Sn
open Go.RowKit

set_option maxHeartbeats 2000000 in
theorem knows_any (w : World) : Calls Try.prog 9 #[] w fun e w' => e = .returned (.bool true) ∧ Below w.heap.size w w' := by
  go_enter Try.func9, Try.ntmps9
  have hA := ((((Blk.newAt w 39 #[.int .u64 1, .int .i64 1, .int .u64 2, .int .i64 1, .int .u64 3, .int .i64 2] (g := w.heap.size) (by simp)).alloc (.cells #[.int .u64 1, .int .i64 1, .int .u64 3, .int .i64 2] 39)).alloc (.cells #[.int .u64 1, .int .i64 2, .int .u64 2, .int .i64 1] 39)).alloc (.cells #[.int .u64 1, .int .u64 9] 30))
  have hB := (((Blk.newAt (w.alloc (.cells #[.int .u64 1, .int .i64 1, .int .u64 2, .int .i64 1, .int .u64 3, .int .i64 2] 39)) 39 #[.int .u64 1, .int .i64 1, .int .u64 3, .int .i64 2] (g := w.heap.size + 1) (by simp)).alloc (.cells #[.int .u64 1, .int .i64 2, .int .u64 2, .int .i64 1] 39)).alloc (.cells #[.int .u64 1, .int .u64 9] 30))
  have hC := ((Blk.newAt ((w.alloc (.cells #[.int .u64 1, .int .i64 1, .int .u64 2, .int .i64 1, .int .u64 3, .int .i64 2] 39)).alloc (.cells #[.int .u64 1, .int .i64 1, .int .u64 3, .int .i64 2] 39)) 39 #[.int .u64 1, .int .i64 2, .int .u64 2, .int .i64 1] (g := w.heap.size + 1 + 1) (by simp)).alloc (.cells #[.int .u64 1, .int .u64 9] 30))
  have hN := (Blk.newAt (((w.alloc (.cells #[.int .u64 1, .int .i64 1, .int .u64 2, .int .i64 1, .int .u64 3, .int .i64 2] 39)).alloc (.cells #[.int .u64 1, .int .i64 1, .int .u64 3, .int .i64 2] 39)).alloc (.cells #[.int .u64 1, .int .i64 2, .int .u64 2, .int .i64 1] 39)) 30 #[.int .u64 1, .int .u64 9] (g := w.heap.size + 1 + 1 + 1) (by simp))
  have hb := (belowAlloc (belowAlloc (belowAlloc (belowAlloc (Below.refl w.heap.size w) (.cells #[.int .u64 1, .int .i64 1, .int .u64 2, .int .i64 1, .int .u64 3, .int .i64 2] 39)) (.cells #[.int .u64 1, .int .i64 1, .int .u64 3, .int .i64 2] 39)) (.cells #[.int .u64 1, .int .i64 2, .int .u64 2, .int .i64 1] 39)) (.cells #[.int .u64 1, .int .u64 9] 30))
  have k1 := kept_any [(1, 1), (2, 1), (3, 2)] _ 3 3 [1, 9] _ 2 2 _ rfl (by omega) rfl (hA.rd (n := 3) (size := 2) rfl (by unfold maxLen; omega)) (hN.rd (n := 2) (size := 1) rfl (by unfold maxLen; omega))
  rw [show keptL [(1, 1), (2, 1), (3, 2)] [1, 9] = [true, false, true] by decide] at k1
  have K1 := Lib.hid k1
  clear k1
  go_wp2_with fail
  refine K1.out.mono ?_
  rintro e w1 ⟨v1, rfl, o1, b1⟩
  obtain ⟨A1, c1, rfl⟩ := own_slice o1
  clear K1
  have hA := hA.after b1
  have hB := hB.after b1
  have hC := hC.after b1
  have hN := hN.after b1
  have hb := belowGo hb b1
  have hR := own_rd o1
  simp only [List.length_cons, List.length_nil, Nat.reduceAdd] at hR ⊢
  have hA := (hA.alloc (.cells #[.int .i64 0, .int .i64 2] 3))
  have hB := (hB.alloc (.cells #[.int .i64 0, .int .i64 2] 3))
  have hC := (hC.alloc (.cells #[.int .i64 0, .int .i64 2] 3))
  have hR := (hR.allocs (.cells #[.int .i64 0, .int .i64 2] 3))
  have hN := (Blk.newAt w1 3 #[.int .i64 0, .int .i64 2] (g := w1.heap.size) (by simp))
  have hb := (belowAlloc hb (.cells #[.int .i64 0, .int .i64 2] 3))
  have k2 := are_any [true, false, true] _ 3 c1 [0, 2] _ 2 2 (w1.alloc (.cells #[.int .i64 0, .int .i64 2] 3)) rfl (by omega) rfl hR (hN.rd (n := 2) (size := 1) rfl (by unfold maxLen; omega))
  rw [show areB [true, false, true] [0, 2] = true by decide] at k2
  have K2 := Lib.hid k2
  clear k2
  go_wp2_with fail
  refine K2.out.mono ?_
  rintro e w2 ⟨rfl, b2⟩
  clear K2
  have hA := hA.after b2
  have hB := hB.after b2
  have hC := hC.after b2
  have hR := hR.after b2
  have hN := hN.after b2
  have hb := belowGo hb b2
  have hA := (hA.alloc (.cells #[.int .u64 9] 30))
  have hB := (hB.alloc (.cells #[.int .u64 9] 30))
  have hC := (hC.alloc (.cells #[.int .u64 9] 30))
  have hN := (Blk.newAt w2 30 #[.int .u64 9] (g := w2.heap.size) (by simp))
  have hb := (belowAlloc hb (.cells #[.int .u64 9] 30))
  have k3 := kept_any [(1, 1), (3, 2)] _ 2 2 [9] _ 1 1 _ rfl (by omega) rfl (hB.rd (n := 2) (size := 2) rfl (by unfold maxLen; omega)) (hN.rd (n := 1) (size := 1) rfl (by unfold maxLen; omega))
  rw [show keptL [(1, 1), (3, 2)] [9] = [false, false] by decide] at k3
  have K3 := Lib.hid k3
  clear k3
  go_wp2_with fail
  refine K3.out.mono ?_
  rintro e w3 ⟨v3, rfl, o3, b3⟩
  obtain ⟨A3, c3, rfl⟩ := own_slice o3
  clear K3
  have hA := hA.after b3
  have hB := hB.after b3
  have hC := hC.after b3
  have hN := hN.after b3
  have hb := belowGo hb b3
  have hR := own_rd o3
  simp only [List.length_cons, List.length_nil, Nat.reduceAdd] at hR ⊢
  have hA := hA
  have hB := hB
  have hC := hC
  have hR := hR
  have hb := hb
  have k4 := are_any [false, false] _ 2 c3 [] none 0 0 w3 rfl (by omega) rfl hR (Rd.nil_ _ _ _ none)
  rw [show areB [false, false] [] = true by decide] at k4
  have K4 := Lib.hid k4
  clear k4
  go_wp2_with fail
  refine K4.out.mono ?_
  rintro e w4 ⟨rfl, b4⟩
  clear K4
  have hA := hA.after b4
  have hB := hB.after b4
  have hC := hC.after b4
  have hR := hR.after b4
  have hb := belowGo hb b4
  have hA := (hA.alloc (.cells #[.int .u64 1, .int .u64 2] 30))
  have hB := (hB.alloc (.cells #[.int .u64 1, .int .u64 2] 30))
  have hC := (hC.alloc (.cells #[.int .u64 1, .int .u64 2] 30))
  have hN := (Blk.newAt w4 30 #[.int .u64 1, .int .u64 2] (g := w4.heap.size) (by simp))
  have hb := (belowAlloc hb (.cells #[.int .u64 1, .int .u64 2] 30))
  have k5 := kept_any [(1, 2), (2, 1)] _ 2 2 [1, 2] _ 2 2 _ rfl (by omega) rfl (hC.rd (n := 2) (size := 2) rfl (by unfold maxLen; omega)) (hN.rd (n := 2) (size := 1) rfl (by unfold maxLen; omega))
  rw [show keptL [(1, 2), (2, 1)] [1, 2] = [false, true] by decide] at k5
  have K5 := Lib.hid k5
  clear k5
  go_wp2_with fail
  refine K5.out.mono ?_
  rintro e w5 ⟨v5, rfl, o5, b5⟩
  obtain ⟨A5, c5, rfl⟩ := own_slice o5
  clear K5
  have hA := hA.after b5
  have hB := hB.after b5
  have hC := hC.after b5
  have hN := hN.after b5
  have hb := belowGo hb b5
  have hR := own_rd o5
  simp only [List.length_cons, List.length_nil, Nat.reduceAdd] at hR ⊢
  have hA := (hA.alloc (.cells #[.int .i64 1] 3))
  have hB := (hB.alloc (.cells #[.int .i64 1] 3))
  have hC := (hC.alloc (.cells #[.int .i64 1] 3))
  have hR := (hR.allocs (.cells #[.int .i64 1] 3))
  have hN := (Blk.newAt w5 3 #[.int .i64 1] (g := w5.heap.size) (by simp))
  have hb := (belowAlloc hb (.cells #[.int .i64 1] 3))
  have k6 := are_any [false, true] _ 2 c5 [1] _ 1 1 (w5.alloc (.cells #[.int .i64 1] 3)) rfl (by omega) rfl hR (hN.rd (n := 1) (size := 1) rfl (by unfold maxLen; omega))
  rw [show areB [false, true] [1] = true by decide] at k6
  have K6 := Lib.hid k6
  clear k6
  go_wp2_with fail
  refine K6.out.mono ?_
  rintro e w6 ⟨rfl, b6⟩
  clear K6
  have hA := hA.after b6
  have hB := hB.after b6
  have hC := hC.after b6
  have hR := hR.after b6
  have hN := hN.after b6
  have hb := belowGo hb b6
  have hA := hA
  have hB := hB
  have hC := hC
  have hb := hb
  have k7 := there_any [(1, 1), (2, 1), (3, 2)] _ 3 3 2 _ rfl (by omega) (hA.rd (n := 3) (size := 2) rfl (by unfold maxLen; omega))
  rw [show thereB [(1, 1), (2, 1), (3, 2)] 2 = true by decide] at k7
  have K7 := Lib.hid k7
  clear k7
  go_wp2_with fail
  refine K7.out.mono ?_
  rintro e w7 ⟨rfl, b7⟩
  clear K7
  have hA := hA.after b7
  have hB := hB.after b7
  have hC := hC.after b7
  have hb := belowGo hb b7
  have hA := hA
  have hB := hB
  have hC := hC
  have hb := hb
  have k8 := there_any [(1, 1), (2, 1), (3, 2)] _ 3 3 3 _ rfl (by omega) (hA.rd (n := 3) (size := 2) rfl (by unfold maxLen; omega))
  rw [show thereB [(1, 1), (2, 1), (3, 2)] 3 = false by decide] at k8
  have K8 := Lib.hid k8
  clear k8
  go_wp2_with fail
  refine K8.out.mono ?_
  rintro e w8 ⟨rfl, b8⟩
  clear K8
  have hA := hA.after b8
  have hB := hB.after b8
  have hC := hC.after b8
  have hb := belowGo hb b8
  go_wp2
  go_ret
  exact ⟨rfl, hb⟩
end Go.Proofs.Ytldeldjbpngbkaa.Sn
