/- Chapter 08's statements: knows. No condition but the tables. -/
import Derived.Test.YtlnidmjnomoddaaDoorRecB
namespace Go.Proofs.YtlnidmjnomoddaaDoor
open Go.RowKit

set_option maxRecDepth 10000 in
set_option maxHeartbeats 1000000 in
theorem knows_any (w : World) (hT : TabR w) : Calls Tryd.prog 12 #[] w fun e w' => e = .returned (.bool true) ∧ Below w.heap.size w w' := by
  have HP := Lib.hid (plain_any w)
  have HQ := fun A B W hT' h h' => Lib.hid (putR_yes 1 1 [107] [118] A 1 1 B 1 1 0 0 W hT' (by decide) h h')
  obtain ⟨e17, e23⟩ := run_plain
  generalize runR 1 1 [107] [118] 0 0 = R at *
  unfold recV at HQ
  have HG := fun A W hT' h => Lib.hid (getR_none (List.replicate 21 0) A 21 21 W hT' (by omega) h 0 23 (getS_bad (by decide) (by decide +kernel)) (by decide))
  have E17 := Lib.hid e17
  have E23 := Lib.hid e23
  clear e17 e23
  go_enter Tryd.func12, Tryd.ntmps12
  go_wp2_with fail
  refine HP.out.mono ?_
  rintro e w1 ⟨gK, gV, rfl, rK, rV, b1⟩
  unfold recV
  have hT1 := hT.after b1
  clear HP
  go_wp2_with fail
  refine (HQ _ _ _ hT1 rK rV).out.mono ?_
  rintro e w2 ⟨v2, rfl, o2, b2⟩
  obtain ⟨g2, c2, rfl, hc2, _⟩ := own_ptr o2 (by omega)
  have r2 := own_rd o2
  have hT2 := hT1.after b2
  have hb := belowGo b1 b2
  clear HQ o2 b2 b1 rK rV hT1 hT
  have hMk : ∀ W : World, (Instr.makeSlice 22 (.int .i64 21) (.int .i64 21)).run Tryd.prog W = .ok (.slice (some ⟨W.heap.size, 0, none⟩) 21 21) (W.alloc (.cells (madeCells #[.int .u8 0] 21) 5)) := fun W =>
    run_make_rowN (P := Tryd.prog) 22 5 ((Tryd.prog.info? 5).get!) (.int .u8 0) Tryd.underlying22 (by kernel_rfl) (by kernel_rfl) .i64 .i64 21 21 (Nat.le_refl _) (by show 1 * 21 ≤ _; omega) (by omega) W
  go_wp2_with fail
  have o3 := own_made w2 w2.heap.size 5 (.int .u8 0) 21 (Nat.le_refl _) (by unfold maxLen; omega)
  have o3 : (w2.alloc (.cells (madeCells #[.int .u8 0] 21) 5)).ownsRow w2.heap.size 5 1 (.slice (some ⟨w2.heap.size, 0, none⟩) 21 21) 21 (bcells (List.replicate 21 0)) := o3
  have r3 := own_rd o3
  have r2 := r2.allocs (.cells (madeCells #[.int .u8 0] 21) 5)
  have hT3 := hT2.alloc (.cells (madeCells #[.int .u8 0] 21) 5)
  have hb := belowAlloc hb (.cells (madeCells #[.int .u8 0] 21) 5)
  clear hMk o3 hT2
  generalize w2.alloc (.cells (madeCells #[.int .u8 0] 21) 5) = w3 at *
  refine (HG _ _ hT3 r3).out.mono ?_
  rintro e w4 ⟨rfl, b4⟩
  unfold recV
  have r2 := r2.after b4
  have hb := belowGo hb b4
  clear HG b4 r3 hT3
  have ra := (r2.btake (k := 17) (by omega)).allocs (.cells #[.int .u64 0, .int .i64 0, .slice none 0 0, .slice none 0 0, .int .u32 0, .int .u32 0] 28)
  rw [E17.out] at ra
  have rb := ((r2.bdrop (k := 21) (by omega)).btake (k := 2) (by omega)).allocs (.cells #[.int .u64 0, .int .i64 0, .slice none 0 0, .slice none 0 0, .int .u32 0, .int .u32 0] 28)
  rw [E23.out] at rb
  have f1 : ∀ c, (convert 22 9 (.slice (some ⟨g2, 0, none⟩) 17 c)).run Tryd.prog (w4.alloc (.cells #[.int .u64 0, .int .i64 0, .slice none 0 0, .slice none 0 0, .int .u32 0, .int .u32 0] 28)) = .ok (.string ⟨#[1, 1, 1, 0, 1, 0, 0, 0, 0, 0, 0, 0, 0, 0, 0, 0, 0]⟩) (w4.alloc (.cells #[.int .u64 0, .int .i64 0, .slice none 0 0, .slice none 0 0, .int .u32 0, .int .u32 0] 28)) := fun c =>
    run_conv (P := Tryd.prog) Tryd.underlying22 Tryd.underlying5 Tryd.underlying9 c ra
  have f2 : ∀ c, (convert 22 9 (.slice (some ⟨g2, 0 + 21, none⟩) 2 c)).run Tryd.prog (w4.alloc (.cells #[.int .u64 0, .int .i64 0, .slice none 0 0, .slice none 0 0, .int .u32 0, .int .u32 0] 28)) = .ok (.string ⟨#[107, 118]⟩) (w4.alloc (.cells #[.int .u64 0, .int .i64 0, .slice none 0 0, .slice none 0 0, .int .u32 0, .int .u32 0] 28)) := fun c =>
    run_conv (P := Tryd.prog) Tryd.underlying22 Tryd.underlying5 Tryd.underlying9 c rb
  rw [Nat.zero_add] at f2
  have i1 : (17 : Int) ≤ (c2 : Int) := by omega
  have i2 : 17 ≤ c2 := by omega
  have i3 : (23 : Int) ≤ (c2 : Int) := by omega
  have i4 : 23 ≤ c2 := by omega
  have i5 : ¬ c2 = 21 := by omega
  have e1 : ((⟨#[1, 1, 1, 0, 1, 0, 0, 0, 0, 0, 0, 0, 0, 0, 0, 0, 0]⟩ : ByteArray) == ⟨#[1, 1, 1, 0, 1, 0, 0, 0, 0, 0, 0, 0, 0, 0, 0, 0, 0]⟩) = true := by decide +kernel
  have e2 : ((⟨#[107, 118]⟩ : ByteArray) == ⟨#[107, 118]⟩) = true := by decide +kernel
  have hb := belowAlloc hb (.cells #[.int .u64 0, .int .i64 0, .slice none 0 0, .slice none 0 0, .int .u32 0, .int .u32 0] 28)
  clear ra rb r2
  go_wp2_with fail
  go_ret
  exact ⟨rfl, hb⟩
end Go.Proofs.YtlnidmjnomoddaaDoor
