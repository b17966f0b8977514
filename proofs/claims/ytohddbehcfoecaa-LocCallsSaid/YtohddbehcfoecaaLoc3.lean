/- Chapter 3's statements: brought, wakes. -/
import Derived.Test.YtohddbehcfoecaaLocLaw
namespace Go.Proofs.Ytohddbehcfoecaa
open Go.RowKit

theorem brought_any (s o : Nat) (w : World) : Calls Try.prog 9 #[locV s o] w fun e w' => e = .returned (locV (brS s) (brO o)) ∧ Below w.heap.size w w' := by
  unfold locV
  have i1 : (1 : Int) + (s : Int) % 16777215 = (brS s : Int) := by unfold brS; omega
  have i2 : (16 : Int) + (o : Int) % 16777201 = (brO o : Int) := by unfold brO; omega
  have l1 := br_may s o
  generalize brS s = s' at *
  generalize brO o = o' at *
  obtain ⟨_, _, l1, l2, l3, l4⟩ := l1
  have q0 := Blk.newAt (w.alloc (.cells #[.int .u32 (s : Int), .int .u32 (o : Int)] 24)) 24 #[.int .u32 0, .int .u32 0] (g := w.heap.size + 1) (by simp)
  have b0 := ((Below.refl w.heap.size w).alloc (Nat.le_refl _) (.cells #[.int .u32 (s : Int), .int .u32 (o : Int)] 24)).alloc (by simp) (.cells #[.int .u32 (s' : Int), .int .u32 (o' : Int)] 24)
  have q1 := Blk.newAt (w.alloc (.cells #[.int .u32 (s : Int), .int .u32 (o : Int)] 24)) 24 #[.int .u32 (s' : Int), .int .u32 (o' : Int)] (g := w.heap.size + 1) (by simp)
  go_enter Try.func9, Try.ntmps9
  go_wp2
  exact bodyPost_ret (results_cell1 rfl rfl (res_load (cs := #[.int .u32 (s' : Int), .int .u32 (o' : Int)]) q1 Try.underlying24 rfl (by kernel_rfl))) rfl ⟨rfl, b0⟩

theorem pack_316 (w : World) : Calls Try.prog 10 #[.agg #[.int .u32 3, .int .u32 16]] w fun e w' => e = .returned (.tuple #[.int .u64 12884901904, .int .i64 0]) ∧ Below w.heap.size w w' := by
  have h := pack_any 3 16 w
  rw [show packN 3 16 = 12884901904 by decide, show packE 3 16 = 0 by decide] at h
  exact h
theorem unpack_half (w : World) : Calls Try.prog 15 #[.int .u64 4294967296] w fun e w' => e = .returned (.tuple #[.agg #[.int .u32 0, .int .u32 0], .int .i64 1]) ∧ Below w.heap.size w w' := by
  have h := unpack_any 4294967296 (by decide) w
  rw [show mayL (4294967296 / 4294967296) (4294967296 % 4294967296) = false by decide] at h
  exact h
theorem equal_same (l : List UInt8) (A : Option Addr) (n c : Nat) (A' : Option Addr) (n' c' : Nat) (w : World) {B B' : Nat} (h : Rd w B 1 A n (bcells l)) (h' : Rd w B' 1 A' n' (bcells l)) :
    Calls Try.prog 20 #[.slice A n c, .slice A' n' c'] w fun e w' => e = .returned (.bool true) ∧ w = w' := by
  have := equal_any l l A n c A' n' c' w h h'
  rwa [beq_self_eq_true] at this
def RetL (w : World) (n : Nat) (l : List UInt8) (e : Ending) (w' : World) : Prop := ∃ v, e = .returned (.tuple #[v, .int .i64 0]) ∧ w'.ownsRow w.heap.size 5 1 v n (bcells l) ∧ Below w.heap.size w w'
theorem putL_at (s o : Nat) (S O : Int) (l : List UInt8) (n : Nat) (w : World) (hS : S = s) (hO : O = o) (hm : mayL s o = true) (hl : locB [] s o = l) (hn : l.length = n) :
    Calls Try.prog 11 #[.slice none 0 0, .agg #[.int .u32 S, .int .u32 O]] w (RetL w n l) := by
  have h := putL_any [] none 0 0 s o w (Rd.nil_ _ _ _ _) (by omega)
  rw [hl, hn, hm] at h
  subst hS; subst hO
  exact h

set_option maxRecDepth 100000 in
set_option maxHeartbeats 1000000 in
theorem wakes_any (w : World) : Calls Try.prog 14 #[] w fun e w' => e = .returned (.bool true) ∧ Below w.heap.size w w' := by
  have H1 := fun W => Lib.hid (pack_316 W)
  have H2 := fun W => Lib.hid (unpack_half W)
  have H3 := fun W => Lib.hid (putL_at 0 0 0 0 [0] 1 W rfl rfl (by decide) (by decide +kernel) rfl)
  have H4 := fun W => Lib.hid (putL_at 3 16 3 16 [3, 0] 2 W rfl rfl (by decide) (by decide +kernel) rfl)
  have H5 := fun W => Lib.hid (putL_at 300 144 300 144 [129, 44, 128, 128] 4 W rfl rfl (by decide) (by decide +kernel) rfl)
  go_enter Try.func14, Try.ntmps14
  go_wp2_with fail
  refine (H1 _).out.mono ?_
  rintro e w1 ⟨rfl, b1⟩
  go_wp2_with fail
  refine (H2 _).out.mono ?_
  rintro e w2 ⟨rfl, b2⟩
  have hb := belowGo b1 b2
  have hb := belowAlloc hb (.cells #[.int .u32 0, .int .u32 0] 24)
  go_wp2_with fail
  generalize w2.alloc (.cells #[.int .u32 0, .int .u32 0] 24) = w3 at *
  refine (H3 _).out.mono ?_
  rintro e w4 ⟨v4, rfl, o4, b4⟩
  have hb := belowGo hb b4
  obtain ⟨g4, c4, rfl, _, _⟩ := own_ptr o4 (by omega)
  have r4 := own_rd o4
  clear o4
  go_wp2_with fail
  refine (H4 _).out.mono ?_
  rintro e w5 ⟨v5, rfl, o5, b5⟩
  have hb := belowGo hb b5
  obtain ⟨g5, c5, rfl, _, _⟩ := own_ptr o5 (by omega)
  have r5 := own_rd o5
  have r4 := r4.after b5
  clear o5
  go_wp2_with fail
  refine (H5 _).out.mono ?_
  rintro e w6 ⟨v6, rfl, o6, b6⟩
  have hb := belowGo hb b6
  obtain ⟨g6, c6, rfl, _, _⟩ := own_ptr o6 (by omega)
  have r6 := own_rd o6
  have r5 := r5.after b6
  have r4 := r4.after b6
  clear o6 b1 b2 b4 b5 b6 H1 H2 H3 H4 H5
  go_wp2_with fail
  refine (equal_same [0] _ _ _ _ _ _ _ (r4.allocs _) (bcell_rd (n := 1) (l := [0]) (Blk.new w6 5 #[.int .u8 0]) rfl rfl (by unfold maxLen; omega))).mono ?_
  rintro e w' ⟨rfl, rfl⟩
  have r5 := r5.allocs (.cells #[.int .u8 0] 5)
  have r6 := r6.allocs (.cells #[.int .u8 0] 5)
  have hb := belowAlloc hb (.cells #[.int .u8 0] 5)
  generalize w6.alloc (.cells #[.int .u8 0] 5) = w7 at *
  go_wp2_with fail
  refine (equal_same [3, 0] _ _ _ _ _ _ _ (r5.allocs _) (bcell_rd (n := 2) (l := [3, 0]) (Blk.new w7 5 #[.int .u8 3, .int .u8 0]) rfl rfl (by unfold maxLen; omega))).mono ?_
  rintro e w' ⟨rfl, rfl⟩
  have r6 := r6.allocs (.cells #[.int .u8 3, .int .u8 0] 5)
  have hb := belowAlloc hb (.cells #[.int .u8 3, .int .u8 0] 5)
  generalize w7.alloc (.cells #[.int .u8 3, .int .u8 0] 5) = w8 at *
  go_wp2_with fail
  refine (equal_same [129, 44, 128, 128] _ _ _ _ _ _ _ (r6.allocs _) (bcell_rd (n := 4) (l := [129, 44, 128, 128]) (Blk.new w8 5 #[.int .u8 129, .int .u8 44, .int .u8 128, .int .u8 128]) rfl rfl (by unfold maxLen; omega))).mono ?_
  rintro e w' ⟨rfl, rfl⟩
  have hb := belowAlloc hb (.cells #[.int .u8 129, .int .u8 44, .int .u8 128, .int .u8 128] 5)
  generalize w8.alloc (.cells #[.int .u8 129, .int .u8 44, .int .u8 128, .int .u8 128] 5) = w9 at *
  go_wp2_with fail
  go_ret
  exact ⟨rfl, hb⟩
end Go.Proofs.Ytohddbehcfoecaa
