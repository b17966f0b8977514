/- The five items; a loc of segment 9. -/
import Derived.Test.YtkkhojealihghaaPlOf
import Derived.Test.YtkkhojealihghaaPlEq
import Derived.Test.YtkkhojealihghaaOwn
import Derived.Lib.SlBytesConst
namespace Go.Proofs.Ytkkhojealihghaa
open Go.RowKit
attribute [local go_sem] Oper.semAt_some

def fiveL : List It := [⟨[97], 1, 1, 30⟩, ⟨[97], 2, 1, 30⟩, ⟨[98], 3, 1, 30⟩, ⟨[97], 4, 2, 30⟩, ⟨[98], 5, 1, 30⟩]
def RetFive (w : World) (e : Ending) (w' : World) : Prop := ∃ (A : Option Addr) (c : Nat) (X : List ItX), e = .returned (.slice A 5 c) ∧ X.map ItX.it = fiveL ∧ Ow w' w.heap.size 47 4 (.slice A 5 c) 5 (itCells X) ∧ (∀ x ∈ X, x.ok w') ∧ Below w.heap.size w w'
theorem lit_rd (w : World) (u : UInt8) (fr : Nat × Nat) : Rd (w.alloc (.cells #[.int .u8 (u.toNat : Int)] 5 fr)) (w.alloc (.cells #[.int .u8 (u.toNat : Int)] 5 fr)).heap.size 1 (some ⟨w.heap.size, 0, none⟩) 1 (bcells [u]) := by
  refine ⟨rfl, by decide, fun _ => ⟨w.heap.size, 0, rfl, by simp, fun j x hx => ?_⟩⟩
  have hj : j = 0 := by
    have := (List.getElem?_eq_some_iff.1 hx).1
    simp [bcells] at this
    omega
  subst hj
  simp [bcells] at hx
  subst hx
  unfold World.cell?
  simp only [heap_alloc_new, Nat.add_zero]
  rfl
/-- the same; the keys' rows lie below the items' row -/
def RetFive2 (w : World) (e : Ending) (w' : World) : Prop := ∃ (A : Option Addr) (c : Nat) (X : List ItX) (B : Nat), e = .returned (.slice A 5 c) ∧ X.map ItX.it = fiveL ∧ w.heap.size ≤ B ∧ B ≤ w'.heap.size ∧ Ow w' B 47 4 (.slice A 5 c) 5 (itCells X) ∧ (∀ x ∈ X, Rd w' B 1 x.A x.it.l.length (bcells x.it.l) ∧ x.it.l.length ≤ x.c) ∧ Below w.heap.size w w'
set_option maxRecDepth 100000 in
set_option maxHeartbeats 4000000 in
theorem five_any2 (w : World) : Calls Try.prog 13 #[] w (RetFive2 w) := by
  have e1 : (w.alloc (.cells #[.int .u8 97] 5 (1, 2))).heap.size = w.heap.size + 1 := by simp
  have k1 : (convert 23 23 (.slice (some ⟨w.heap.size, 0, none⟩) 1 1)).run Try.prog (w.alloc (.cells #[.int .u8 97] 5)) = .ok (.slice (some ⟨w.heap.size, 0, none⟩) 1 1) (w.alloc (.cells #[.int .u8 97] 5 (1, 2))) := Lib.run_convert_bytes_const (P := Try.prog) w 23 5 #[.int .u8 97] 1 1 Try.underlying23 Try.underlying5
  have k2 : (convert 23 23 (.slice (some ⟨w.heap.size + 1, 0, none⟩) 1 1)).run Try.prog ((w.alloc (.cells #[.int .u8 97] 5 (1, 2))).alloc (.cells #[.int .u8 98] 5)) = .ok (.slice (some ⟨w.heap.size + 1, 0, none⟩) 1 1) ((w.alloc (.cells #[.int .u8 97] 5 (1, 2))).alloc (.cells #[.int .u8 98] 5 (1, 2))) := by
    have := Lib.run_convert_bytes_const (P := Try.prog) (w.alloc (.cells #[.int .u8 97] 5 (1, 2))) 23 5 #[.int .u8 98] 1 1 Try.underlying23 Try.underlying5
    rw [e1] at this
    exact this
  have r1 := lit_rd w 97 (1, 2)
  have r2 := lit_rd (w.alloc (.cells #[.int .u8 97] 5 (1, 2))) 98 (1, 2)
  have b1 := belowAlloc (Below.refl w.heap.size w) (.cells #[.int .u8 97] 5 (1, 2))
  have b2 := belowAlloc (Below.refl (w.alloc (.cells #[.int .u8 97] 5 (1, 2))).heap.size (w.alloc (.cells #[.int .u8 97] 5 (1, 2)))) (.cells #[.int .u8 98] 5 (1, 2))
  rw [e1] at r2
  go_enter Try.func13, Try.ntmps13
  go_upto_region 2 with fail
  clear k1 k2 e1
  have r1' : Rd (w.alloc (.cells #[.int .u8 97] 5 (1, 2))) (w.alloc (.cells #[.int .u8 97] 5 (1, 2))).heap.size 1 (some ⟨w.heap.size, 0, none⟩) 1 (bcells [97]) := r1
  have r2' : Rd ((w.alloc (.cells #[.int .u8 97] 5 (1, 2))).alloc (.cells #[.int .u8 98] 5 (1, 2))) ((w.alloc (.cells #[.int .u8 97] 5 (1, 2))).alloc (.cells #[.int .u8 98] 5 (1, 2))).heap.size 1 (some ⟨w.heap.size + 1, 0, none⟩) 1 (bcells [98]) := r2
  clear r1 r2
  generalize w.alloc (.cells #[.int .u8 97] 5 (1, 2)) = w1 at *
  generalize w1.alloc (.cells #[.int .u8 98] 5 (1, 2)) = w2 at *
  obtain ⟨ga, hga⟩ : ∃ g, g = w.heap.size := ⟨_, rfl⟩
  obtain ⟨gb, hgb⟩ : ∃ g, g = w.heap.size + 1 := ⟨_, rfl⟩
  rw [← hgb] at r2' ⊢
  rw [← hga] at r1' ⊢
  have R1 := Lib.hid ((r1'.below b2 (Nat.le_refl _)).more b2.size)
  have R2 := Lib.hid r2'
  have B2 := Lib.hid (belowGo b1 b2)
  clear b1 b2 r1' r2' hga hgb
  go_wp2_with fail
  have o := own_lit w2 w2.heap.size 47 #[.slice (some ⟨ga, 0, none⟩) 1 1, .int .u64 1, .int .i64 1, .int .i64 30, .slice (some ⟨ga, 0, none⟩) 1 1, .int .u64 2, .int .i64 1, .int .i64 30, .slice (some ⟨gb, 0, none⟩) 1 1, .int .u64 3, .int .i64 1, .int .i64 30, .slice (some ⟨ga, 0, none⟩) 1 1, .int .u64 4, .int .i64 2, .int .i64 30, .slice (some ⟨gb, 0, none⟩) 1 1, .int .u64 5, .int .i64 1, .int .i64 30] 5 4 rfl (Nat.le_refl _) (by decide)
  have b3 := belowAlloc (Below.refl w2.heap.size w2) (.cells #[.slice (some ⟨ga, 0, none⟩) 1 1, .int .u64 1, .int .i64 1, .int .i64 30, .slice (some ⟨ga, 0, none⟩) 1 1, .int .u64 2, .int .i64 1, .int .i64 30, .slice (some ⟨gb, 0, none⟩) 1 1, .int .u64 3, .int .i64 1, .int .i64 30, .slice (some ⟨ga, 0, none⟩) 1 1, .int .u64 4, .int .i64 2, .int .i64 30, .slice (some ⟨gb, 0, none⟩) 1 1, .int .u64 5, .int .i64 1, .int .i64 30] 47)
  refine bodyPost_ret (results_tmp rfl _ _ _) rfl ⟨_, _, [⟨⟨[97], 1, 1, 30⟩, some ⟨ga, 0, none⟩, 1⟩, ⟨⟨[97], 2, 1, 30⟩, some ⟨ga, 0, none⟩, 1⟩, ⟨⟨[98], 3, 1, 30⟩, some ⟨gb, 0, none⟩, 1⟩, ⟨⟨[97], 4, 2, 30⟩, some ⟨ga, 0, none⟩, 1⟩, ⟨⟨[98], 5, 1, 30⟩, some ⟨gb, 0, none⟩, 1⟩], _, rfl, rfl, B2.out.size, b3.size, o, ?_, belowGo B2.out b3⟩
  have ka : ∀ q k z, (ItX.mk ⟨[97], q, k, z⟩ (some ⟨ga, 0, none⟩) 1).ok w2 := fun q k z => ⟨R1.out, Nat.le_refl 1⟩
  have kb : ∀ q k z, (ItX.mk ⟨[98], q, k, z⟩ (some ⟨gb, 0, none⟩) 1).ok w2 := fun q k z => ⟨R2.out, Nat.le_refl 1⟩
  intro x hx
  simp only [List.mem_cons, List.not_mem_nil, or_false] at hx
  rcases hx with rfl | rfl | rfl | rfl | rfl
  · exact ⟨(ka _ _ _).1.below b3 (Nat.le_refl _), Nat.le_refl 1⟩
  · exact ⟨(ka _ _ _).1.below b3 (Nat.le_refl _), Nat.le_refl 1⟩
  · exact ⟨(kb _ _ _).1.below b3 (Nat.le_refl _), Nat.le_refl 1⟩
  · exact ⟨(ka _ _ _).1.below b3 (Nat.le_refl _), Nat.le_refl 1⟩
  · exact ⟨(kb _ _ _).1.below b3 (Nat.le_refl _), Nat.le_refl 1⟩
theorem five_any (w : World) : Calls Try.prog 13 #[] w (RetFive w) := (five_any2 w).mono fun _ _ ⟨A, c, X, _, he, hX, h1, h2, o, hx, b⟩ => ⟨A, c, X, he, hX, own_low o h1, fun x hxm => ⟨(hx x hxm).1.more h2, (hx x hxm).2⟩, b⟩
set_option maxRecDepth 100000 in
theorem at9_any (o : Nat) (w : World) : Calls Try.prog 28 #[.int .u32 (o : Int)] w fun e w' => e = .returned (.agg #[.int .u32 9, .int .u32 (o : Int)]) ∧ Below w.heap.size w w' := by
  have q := Blk.new w 41 #[.int .u32 0, .int .u32 0]
  have b := belowAlloc (Below.refl w.heap.size w) (.cells #[.int .u32 0, .int .u32 0] 41)
  go_enter Try.func28, Try.ntmps28
  go_wp2_with (first
    | (refine wpList_storeB rfl 41 (.tmp 2) (.tmp 4) rfl rfl rfl q Try.szLoc rfl (by simp [Value.oneCell']) ?_)
    | fail)
  have hrl := res_load (P := Try.prog) (q.row #[.int .u32 9, .int .u32 (o : Int)]) Try.underlying41 rfl Try.szLoc
  exact bodyPost_ret (v := .agg #[.int .u32 9, .int .u32 (o : Int)]) (results_cell1 (a := 2) rfl rfl hrl) rfl ⟨rfl, row_below b (Nat.le_refl _) _⟩
theorem wk1 : (planOf fiveL [5] 4096 9).1 = 0 ∧ (planOf fiveL [5] 4096 9).2.steps = [⟨4, (9, 16), (0, 0)⟩] := by decide +kernel
theorem wk2 : (planOf fiveL [1, 5] 4096 9).1 = 0 ∧ (planOf fiveL [1, 5] 4096 9).2.steps = [⟨0, (9, 16), (0, 0)⟩, ⟨3, (9, 46), (9, 16)⟩, ⟨4, (9, 76), (0, 0)⟩] ∧ (planOf fiveL [1, 5] 4096 9).2.seals = [⟨9, 106, 3, 1, 5⟩] := by decide +kernel
theorem wk3 : (planOf fiveL [] 4096 9).1 = 0 ∧ (planOf fiveL [] 4096 9).2.steps = [] ∧ (planOf fiveL [] 4096 9).2.seals = [] := by decide +kernel
end Go.Proofs.Ytkkhojealihghaa
