/- The document's answer, chapter 10: Put. -/
import Derived.Test.YtmahadcohnhdkaaDoorGS
import Derived.Test.YtmahadcohnhdkaaDoorGC
import Derived.Test.YtmahadcohnhdkaaDoorHeadC
namespace Go.Proofs.YtmahadcohnhdkaaDoor
open Go.RowKit

def magic : List UInt8 := [104, 111, 117, 114, 98, 107, 49]
def headT (k id : Nat) : List UInt8 := [UInt8.ofNat k, UInt8.ofNat (id % 256), UInt8.ofNat (id / 256 % 256), UInt8.ofNat (id / 65536 % 256), UInt8.ofNat (id / 16777216)]
theorem headF_eq (k id : Nat) : headF (k : Int) id = magic ++ headT k id := by
  unfold headF magic headT
  simp [le, List.range_succ]
  refine ⟨?_, ?_, ?_⟩ <;> (apply UInt8.toNat_inj.1; simp only [UInt8.toNat_ofNat']; omega)

theorem headL_cells (k id : Nat) (hid : id < 4294967296) (hk : k < 256 := by omega) : bcells [104, 111, 117, 114, 98, 107, 49] ++ #[Value.int .u8 (k : Int), .int .u8 ((id : Int) % 256), .int .u8 ((id : Int) / 256 % 256), .int .u8 ((id : Int) / 65536 % 256), .int .u8 ((id : Int) / 16777216)].toList = bcells (headF (k : Int) id) := by
  rw [headF_eq, bcells_append]
  congr 1
  unfold bcells headT
  simp [UInt8.toNat_ofNat']
  omega

set_option maxRecDepth 10000 in
set_option maxHeartbeats 1000000 in
theorem rputH_any (k : Int) (id : Nat) (hid : id < 4294967296) (w : World) :
    Calls Tryd.prog 24 #[.int .i64 k, .int .u32 (id : Int)] w (RetFixed w 5 (headP k id).length (bcells (headP k id)) (if mayH k id then 0 else 1)) := by
  rw [headP_len]
  unfold headP
  by_cases hm : mayH k id = true
  · rw [hm]
    simp only [if_true]
    by_cases h1 : k = 1
    · subst h1
      have hi : 1 ≤ id ∧ id ≤ 16777215 := by unfold mayH at hm; simp only [decide_eq_true_eq] at hm; omega
      have h0 : ¬ id = 0 := by omega
      have i0 : ((id : Int) == 0) = false := by simp; omega
      have i2 : ¬ (16777215 : Int) < (id : Int) := by omega
      have i3 : ((id : Int) == 0) = false ∧ (id : Int) ≤ 16777215 := ⟨i0, by omega⟩
      clear hm
      go_enter Tryd.func24, Tryd.ntmps24
      go_wp2_with fail
      rw [Lib.run_convert_bytes_const (P := Tryd.prog) w 32 5 #[.int .u8 104, .int .u8 111, .int .u8 117, .int .u8 114, .int .u8 98, .int .u8 107, .int .u8 49] 7 7 Tryd.underlying32 Tryd.underlying5]
      simp only [Result.andThen]
      rw [Oper.upon_value]
      have ra := rd_newF w #[.int .u8 104, .int .u8 111, .int .u8 117, .int .u8 114, .int .u8 98, .int .u8 107, .int .u8 49] 5 (#[Value.int .u8 104, Value.int .u8 111, Value.int .u8 117, Value.int .u8 114, Value.int .u8 98, Value.int .u8 107, Value.int .u8 49].size, #[Value.int .u8 104, Value.int .u8 111, Value.int .u8 117, Value.int .u8 114, Value.int .u8 98, Value.int .u8 107, Value.int .u8 49].size + 1) [104, 111, 117, 114, 98, 107, 49] rfl (by unfold maxLen; simp)
      have b1 := (Below.refl w.heap.size w).alloc (Nat.le_refl _) (.cells #[.int .u8 104, .int .u8 111, .int .u8 117, .int .u8 114, .int .u8 98, .int .u8 107, .int .u8 49] 5 (#[Value.int .u8 104, Value.int .u8 111, Value.int .u8 117, Value.int .u8 114, Value.int .u8 98, Value.int .u8 107, Value.int .u8 49].size, #[Value.int .u8 104, Value.int .u8 111, Value.int .u8 117, Value.int .u8 114, Value.int .u8 98, Value.int .u8 107, Value.int .u8 49].size + 1))
      obtain ⟨gl, hgl⟩ : ∃ g, g = w.heap.size := ⟨_, rfl⟩
      rw [← hgl] at ra ⊢
      clear hgl
      generalize w.alloc (.cells #[.int .u8 104, .int .u8 111, .int .u8 117, .int .u8 114, .int .u8 98, .int .u8 107, .int .u8 49] 5 (#[Value.int .u8 104, Value.int .u8 111, Value.int .u8 117, Value.int .u8 114, Value.int .u8 98, Value.int .u8 107, Value.int .u8 49].size, #[Value.int .u8 104, Value.int .u8 111, Value.int .u8 117, Value.int .u8 114, Value.int .u8 98, Value.int .u8 107, Value.int .u8 49].size + 1)) = w2 at *
      have ra : Rd w2 w2.heap.size 1 (some ⟨gl, 0, none⟩) 7 (bcells [104, 111, 117, 114, 98, 107, 49]) := ra
      go_wp2_with (at_builtin; refine wpList_appFull eltU8 rfl (.tmp 35) (.tmp 52) rfl (W := w2) rfl ra (by omega) (by omega) (Nat.le_refl _) rfl rfl (by omega) (by unfold maxLen; omega) ?_; intro v3 w3 o3 b3)
      have o3 : w3.ownsRow w2.heap.size 5 1 v3 12 (bcells (headF (((1 : Nat)) : Int) id)) := by rw [← headL_cells 1 id hid]; exact o3
      have e0 : headB ((1 : Nat) : Int) id = coverC (headF ((1 : Nat) : Int) id) := rfl
      obtain ⟨g3, c3, rfl, hc3, _⟩ := own_ptr o3 (by omega)
      have r3 := own_rd o3
      have HC := Lib.hid (rcover_any _ _ _ c3 w3 (by omega) r3)
      have hb := b1.trans (b3.mono b1.size)
      refine HC.out.mono ?_
      rintro e w5 ⟨v5, rfl, o5, b5⟩
      clear HC
      go_wp2_with fail
      go_ret2
      exact ⟨_, rfl, own_low o5 hb.size, hb.trans (b5.mono hb.size)⟩
    · obtain ⟨rfl, rfl⟩ : k = 2 ∧ id = 0 := by unfold mayH at hm; simp only [decide_eq_true_eq] at hm; omega
      clear hm
      go_enter Tryd.func24, Tryd.ntmps24
      go_wp2_with fail
      rw [Lib.run_convert_bytes_const (P := Tryd.prog) w 32 5 #[.int .u8 104, .int .u8 111, .int .u8 117, .int .u8 114, .int .u8 98, .int .u8 107, .int .u8 49] 7 7 Tryd.underlying32 Tryd.underlying5]
      simp only [Result.andThen]
      rw [Oper.upon_value]
      have ra := rd_newF w #[.int .u8 104, .int .u8 111, .int .u8 117, .int .u8 114, .int .u8 98, .int .u8 107, .int .u8 49] 5 (#[Value.int .u8 104, Value.int .u8 111, Value.int .u8 117, Value.int .u8 114, Value.int .u8 98, Value.int .u8 107, Value.int .u8 49].size, #[Value.int .u8 104, Value.int .u8 111, Value.int .u8 117, Value.int .u8 114, Value.int .u8 98, Value.int .u8 107, Value.int .u8 49].size + 1) [104, 111, 117, 114, 98, 107, 49] rfl (by unfold maxLen; simp)
      have b1 := (Below.refl w.heap.size w).alloc (Nat.le_refl _) (.cells #[.int .u8 104, .int .u8 111, .int .u8 117, .int .u8 114, .int .u8 98, .int .u8 107, .int .u8 49] 5 (#[Value.int .u8 104, Value.int .u8 111, Value.int .u8 117, Value.int .u8 114, Value.int .u8 98, Value.int .u8 107, Value.int .u8 49].size, #[Value.int .u8 104, Value.int .u8 111, Value.int .u8 117, Value.int .u8 114, Value.int .u8 98, Value.int .u8 107, Value.int .u8 49].size + 1))
      obtain ⟨gl, hgl⟩ : ∃ g, g = w.heap.size := ⟨_, rfl⟩
      rw [← hgl] at ra ⊢
      clear hgl
      generalize w.alloc (.cells #[.int .u8 104, .int .u8 111, .int .u8 117, .int .u8 114, .int .u8 98, .int .u8 107, .int .u8 49] 5 (#[Value.int .u8 104, Value.int .u8 111, Value.int .u8 117, Value.int .u8 114, Value.int .u8 98, Value.int .u8 107, Value.int .u8 49].size, #[Value.int .u8 104, Value.int .u8 111, Value.int .u8 117, Value.int .u8 114, Value.int .u8 98, Value.int .u8 107, Value.int .u8 49].size + 1)) = w2 at *
      have ra : Rd w2 w2.heap.size 1 (some ⟨gl, 0, none⟩) 7 (bcells [104, 111, 117, 114, 98, 107, 49]) := ra
      go_wp2_with (at_builtin; refine wpList_appFull eltU8 rfl (.tmp 35) (.tmp 52) rfl (W := w2) rfl ra (by omega) (by omega) (Nat.le_refl _) rfl rfl (by omega) (by unfold maxLen; omega) ?_; intro v3 w3 o3 b3)
      have o3 : w3.ownsRow w2.heap.size 5 1 v3 12 (bcells (headF (((2 : Nat)) : Int) 0)) := by rw [← headL_cells 2 0 hid]; exact o3
      have e0 : headB ((2 : Nat) : Int) 0 = coverC (headF ((2 : Nat) : Int) 0) := rfl
      obtain ⟨g3, c3, rfl, hc3, _⟩ := own_ptr o3 (by omega)
      have r3 := own_rd o3
      have HC := Lib.hid (rcover_any _ _ _ c3 w3 (by omega) r3)
      have hb := b1.trans (b3.mono b1.size)
      refine HC.out.mono ?_
      rintro e w5 ⟨v5, rfl, o5, b5⟩
      clear HC
      go_wp2_with fail
      go_ret2
      exact ⟨_, rfl, own_low o5 hb.size, hb.trans (b5.mono hb.size)⟩
  · have hm : mayH k id = false := by simpa using hm
    rw [hm]
    unfold mayH at hm
    rw [decide_eq_false_iff_not] at hm
    simp only [Bool.false_eq_true, if_false]
    by_cases h1 : k = 1
    · subst h1
      by_cases h0 : id = 0
      · subst h0
        clear hm
        go_enter Tryd.func24, Tryd.ntmps24
        go_wp2_with fail
        go_ret2
        exact ⟨_, rfl, World.ownsRow_nil _ _ _ _, Below.refl _ _⟩
      · have hg : 16777215 < id := by omega
        have i0 : ((id : Int) == 0) = false := by simp; omega
        have i2 : ¬ (id : Int) ≤ 16777215 := by omega
        have i3 : (((id : Int) == 0) = true ∨ (16777215 : Int) < (id : Int)) := .inr (by omega)
        clear hm
        go_enter Tryd.func24, Tryd.ntmps24
        go_wp2_with fail
        go_ret2
        exact ⟨_, rfl, World.ownsRow_nil _ _ _ _, Below.refl _ _⟩
    · by_cases h2 : k = 2
      · subst h2
        have h0 : ¬ id = 0 := by omega
        have i0 : ((id : Int) == 0) = false := by simp; omega
        clear h1
        clear hm
        go_enter Tryd.func24, Tryd.ntmps24
        go_wp2_with fail
        go_ret2
        exact ⟨_, rfl, World.ownsRow_nil _ _ _ _, Below.refl _ _⟩
      · have i1 : (k == 1) = false := by simp [h1]
        have i2 : (k == 2) = false := by simp [h2]
        clear hm
        go_enter Tryd.func24, Tryd.ntmps24
        go_wp2_with fail
        go_ret2
        exact ⟨_, rfl, World.ownsRow_nil _ _ _ _, Below.refl _ _⟩
end Go.Proofs.YtmahadcohnhdkaaDoor
