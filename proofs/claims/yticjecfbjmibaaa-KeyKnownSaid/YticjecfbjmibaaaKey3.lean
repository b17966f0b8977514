/- Chapter 04: what the chapter's rows come to. For every world. -/
import Derived.Test.YticjecfbjmibaaaKey2
import Derived.Test.YticjecfbjmibaaaAppF
import Derived.Test.YticjecfbjmibaaaConv
import Derived.Lib.SlBytesConst
namespace Go.Proofs.Yticjecfbjmibaaa
open Go.RowKit

theorem cell_newF (w : World) (cs : Array Value) (t : TypeId) (fr : Nat × Nat) (i : Nat) : (w.alloc (.cells cs t fr)).cell? ⟨w.heap.size, i, none⟩ = cs[i]? := by
  unfold World.cell? World.alloc
  simp
theorem rd_newF (w : World) (cs : Array Value) (t : TypeId) (fr : Nat × Nat) (l : List UInt8) (h : cs.toList = bcells l) (hm : l.length ≤ maxLen) : Rd (w.alloc (.cells cs t fr)) (w.alloc (.cells cs t fr)).heap.size 1 (some ⟨w.heap.size, 0, none⟩) l.length (bcells l) :=
  ⟨by rw [bcells_len]; omega, hm, fun _ => ⟨w.heap.size, 0, rfl, by simp, fun j u hu => by rw [Nat.zero_add, cell_newF, ← Array.getElem?_toList, h]; exact hu⟩⟩
def longL : List UInt8 := List.replicate 63 97 ++ [255]
theorem long_k : ∀ j, 63 ≤ j → j < 64 → longL.getD j 0 = 255 := by
  intro j h1 h2
  obtain rfl : j = 63 := by omega
  rfl

set_option maxRecDepth 100000 in
set_option maxHeartbeats 4000000 in
theorem knows_any (w : World) : Calls Try.prog 10 #[] w fun e w' => e = .returned (.bool true) ∧ Below w.heap.size w w' := by
  have r0 : Rd (w.alloc (.cells #[.int .u8 97] 5)) (w.alloc (.cells #[.int .u8 97] 5)).heap.size 1 (some ⟨w.heap.size, 0, none⟩) 1 (bcells [97]) := bcell_rd (Blk.new w 5 #[.int .u8 97]) rfl rfl (by unfold maxLen; omega)
  have hb := (Below.refl w.heap.size w).alloc (Nat.le_refl _) (.cells #[.int .u8 97] 5)
  have HR := Lib.hid (repeat_any 97 _ 1 63 (by omega) (by omega) _ r0)
  clear r0
  go_enter Try.func10, Try.ntmps10
  go_wp2_with fail
  refine HR.out.mono ?_
  rintro e w1 ⟨g1, rfl, r1, b1⟩
  have hb := hb.trans (b1.mono (by simp))
  clear HR b1
  go_wp2_with (at_builtin; refine wpList_pushFull eltU8 rfl (.tmp 9) (.tmp 10) rfl (W := w1) rfl r1 (by omega) (Nat.le_refl _) rfl rfl (by omega) (by unfold maxLen; omega) ?_; intro v2 w2 o2 b2)
  obtain ⟨g2, c2, rfl, z2, -⟩ := own_ptr o2 (by omega)
  have rL : Rd w2 w2.heap.size 1 (some ⟨g2, 0, none⟩) 64 (bcells longL) := by
    have := own_rd o2
    have e : bcells (List.replicate 63 97) ++ #[Value.int .u8 255].toList = bcells longL := by unfold longL; rw [bcells_append]; rfl
    rwa [e] at this
  have hb := belowGo hb b2
  clear o2 r1 b2
  rw [Lib.run_convert_bytes_const (P := Try.prog) w2 23 5 #[.int .u8 97, .int .u8 98] 2 2 Try.underlying23 Try.underlying5]
  simp only [Result.andThen]
  rw [Oper.upon_value]
  have ra := rd_newF w2 #[.int .u8 97, .int .u8 98] 5 (#[Value.int .u8 97, Value.int .u8 98].size, #[Value.int .u8 97, Value.int .u8 98].size + 1) [97, 98] rfl (by unfold maxLen; simp)
  have rL := rL.allocs (.cells #[.int .u8 97, .int .u8 98] 5 (#[Value.int .u8 97, Value.int .u8 98].size, #[Value.int .u8 97, Value.int .u8 98].size + 1))
  have hb := belowAlloc hb (.cells #[.int .u8 97, .int .u8 98] 5 (#[Value.int .u8 97, Value.int .u8 98].size, #[Value.int .u8 97, Value.int .u8 98].size + 1))
  generalize hw3 : w2.alloc (.cells #[.int .u8 97, .int .u8 98] 5 (#[Value.int .u8 97, Value.int .u8 98].size, #[Value.int .u8 97, Value.int .u8 98].size + 1)) = w3 at *
  clear hw3
  have HA := Lib.hid (after_short [97, 98] _ 2 2 w3 (by omega) (by omega) ra)
  clear ra
  go_wp2_with fail
  refine HA.out.mono ?_
  rintro e w4 ⟨v4, rfl, o4, b4⟩
  obtain ⟨A4, c4, rfl⟩ := own_slice o4
  have r4 := own_rd o4
  have rL := rL.after b4
  have hb := belowGo hb b4
  have HB := Lib.hid (after_full longL _ c2 w4 63 (by omega) long_k (by decide) rL)
  clear HA o4 b4
  go_wp2_with fail
  refine HB.out.mono ?_
  rintro e w5 ⟨v5, rfl, o5, b5⟩
  obtain ⟨A5, c5, rfl⟩ := own_slice o5
  have r5 := own_rd o5
  have rL := rL.after b5
  have r4 := r4.after b5
  have hb := belowGo hb b5
  clear HB o5 b5
  have r6 : Rd (w5.alloc (.cells #[.int .u8 255] 5)) (w5.alloc (.cells #[.int .u8 255] 5)).heap.size 1 (some ⟨w5.heap.size, 0, none⟩) 1 (bcells [255]) := bcell_rd (Blk.new w5 5 #[.int .u8 255]) rfl rfl (by unfold maxLen; omega)
  have hb := belowAlloc hb (.cells #[.int .u8 255] 5)
  have rL := rL.allocs (.cells #[.int .u8 255] 5)
  have r4 := r4.allocs (.cells #[.int .u8 255] 5)
  have r5 := r5.allocs (.cells #[.int .u8 255] 5)
  have HC := Lib.hid (repeat_any 255 _ 1 64 (by omega) (by omega) _ r6)
  clear r6
  go_wp2_with fail
  refine HC.out.mono ?_
  rintro e w7 ⟨g7, rfl, r7, b7⟩
  have hb := belowGo hb b7
  have rL := rL.after b7
  have r4 := r4.after b7
  have r5 := r5.after b7
  have HD := Lib.hid (after_full (List.replicate 64 255) _ 64 w7 0 (by omega) (fun j _ hj => by rw [List.getD_eq_getElem?_getD, List.getElem?_replicate, if_pos hj]; rfl) (by omega) r7)
  clear HC b7 r7
  go_wp2_with fail
  refine HD.out.mono ?_
  rintro e w8 ⟨v8, rfl, o8, b8⟩
  obtain ⟨A8, c8, rfl⟩ := own_slice o8
  have hb := belowGo hb b8
  have rL := rL.after b8
  have r4 := r4.after b8
  have r5 := r5.after b8
  clear HD b8 o8
  have r62 := rL.btake (k := 62) (by omega)
  obtain ⟨S1, hS1⟩ : ∃ S : ByteArray, S = ⟨#[97, 98, 0]⟩ := ⟨_, rfl⟩
  obtain ⟨S62, hS62⟩ : ∃ S : ByteArray, S = ⟨(longL.take 62).toArray⟩ := ⟨_, rfl⟩
  obtain ⟨S63, hS63⟩ : ∃ S : ByteArray, S = ⟨((longL.take 63).set 62 98).toArray⟩ := ⟨_, rfl⟩
  have f1 : ∀ n c, (convert 23 9 (.slice A4 3 c)).run Try.prog (w8.drewN n) = .ok (.string ⟨#[97, 98, 0]⟩) (w8.drewN n) := fun n c =>
    run_conv (P := Try.prog) Try.underlying23 Try.underlying5 Try.underlying9 c (r4.drewN n)
  have f2 : ∀ n c, (convert 23 9 (.slice A5 63 c)).run Try.prog (w8.drewN n) = .ok (.string S63) (w8.drewN n) := fun n c => by
    rw [hS63]; exact run_conv (P := Try.prog) Try.underlying23 Try.underlying5 Try.underlying9 c (r5.drewN n)
  have f3 : ∀ n c, (convert 23 9 (.slice (some ⟨g2, 0, none⟩) 62 c)).run Try.prog (w8.drewN n) = .ok (.string S62) (w8.drewN n) := fun n c => by
    rw [hS62]; exact run_conv (P := Try.prog) Try.underlying23 Try.underlying5 Try.underlying9 c (r62.drewN n)
  have e1 : ((⟨#[97, 98, 0]⟩ : ByteArray) == ⟨#[97, 98, 0]⟩) = true := by decide +kernel
  have e2 : S62 ++ ⟨#[98]⟩ = S63 := by rw [hS62, hS63]; decide +kernel
  have e3 : (S63 == S63) = true := by rw [hS63]; decide +kernel
  have e4 : S62.size = 62 := by rw [hS62]; decide +kernel
  have M1 := fun n => Lib.hid (mayName_yes (w8.drewN n))
  have M2 := fun n => Lib.hid (mayName_no (w8.drewN n))
  have i1 : (62 : Int) ≤ (c2 : Int) := by omega
  have i2 : 62 ≤ c2 := by omega
  clear hS1 hS62 hS63 r62 rL r4 r5
  go_wp2_with fail
  go_quiet (first | (go_at_call_of 19 (Value.string { data := #[97, 32, 98] }); exact Calls.quiet_of_same ((M1 _).out.mono fun _ _ h => ⟨h.1, h.2.symm⟩)) | (go_at_call_of 19 (Value.string { data := #[] }); exact Calls.quiet_of_same ((M2 _).out.mono fun _ _ h => ⟨h.1, h.2.symm⟩)))
  have hb : Below w.heap.size w (w8.drewN nq) := ⟨hb.os, hb.tape, hb.output, hb.size, hb.block⟩
  go_wp2
  go_ret
  exact ⟨rfl, hb⟩
end Go.Proofs.Yticjecfbjmibaaa
