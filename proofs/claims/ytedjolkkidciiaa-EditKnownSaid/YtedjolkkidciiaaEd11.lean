/- Chapter 09: wakes. For every world. -/
import Derived.Test.YtedjolkkidciiaaEd6
import Derived.Test.YtedjolkkidciiaaEd10
import Derived.Deep.CutRange
namespace Go.Proofs.Ytedjolkkidciiaa
open Go.RowKit
attribute [local go_sem] Oper.semAt_some

def dW1 : Ed := ⟨1, [], 5, 0, []⟩
def dW2 : Ed := ⟨2, [97], 300, 0, []⟩
def dW3 : Ed := ⟨5, [], 0, 0, [⟨7, 100, 2, 3, 9⟩]⟩
theorem put_lit (d : Ed) (hd : d.fits) (hm : mayEd d = true) (l : List UInt8) (hl : edB d = l) (E : Array Value) (A : Option Addr) (n c : Nat) (hE : edC d ⟨d.name.toArray⟩ (.slice A n c) = E) (w : World) (hn : d.seals.length = n) (hr : Rd w w.heap.size 5 A n (slCells d.seals)) (hnc : n ≤ c) :
    Calls Try.prog 15 #[.agg E] w (RetPut w l) := by
  rw [← hE, ← hl]
  refine (putEd_any d hd A n c w hn hr hnc).mono fun e w' ⟨v, he, ho, hb⟩ => ⟨v, ?_, ?_, hb⟩
  · rw [he, hm]; rfl
  · unfold putB at ho
    rw [hm] at ho
    exact ho
set_option maxRecDepth 100000 in
set_option maxHeartbeats 4000000 in
theorem wakes_any (w : World) : Calls Try.prog 14 #[] w fun e w' => e = .returned (.bool true) ∧ Below w.heap.size w w' := by
  have H1 := Lib.hid (put_lit dW1 ⟨by decide, by decide, by decide, by intro s hs; cases hs⟩ (by decide +kernel) [1, 5] (by decide +kernel) #[.int .i64 1, .string ⟨#[]⟩, .int .u64 5, .int .u32 0, .slice none 0 0] none 0 0 rfl w rfl (Rd.nil_ _ _ _ _) (Nat.le_refl _))
  go_enter Try.func14, Try.ntmps14
  go_wp2_with fail
  refine H1.out.mono ?_
  rintro e w1 ⟨v1, rfl, o1, b1⟩
  obtain ⟨A1, c1, rfl, -⟩ := own_cap o1
  have r1 := Rd.of_own o1
  have hb := b1
  have H2 := Lib.hid (put_lit dW2 ⟨by decide, by decide, by decide, by intro s hs; cases hs⟩ (by decide +kernel) [2, 0x81, 0x2c, 1, 97] (by decide +kernel) #[.int .i64 2, .string ⟨#[97]⟩, .int .u64 300, .int .u32 0, .slice none 0 0] none 0 0 rfl w1 rfl (Rd.nil_ _ _ _ _) (Nat.le_refl _))
  clear H1 o1 b1
  go_wp2_with fail
  refine H2.out.mono ?_
  rintro e w2 ⟨v2, rfl, o2, b2⟩
  obtain ⟨A2, c2, rfl, -⟩ := own_cap o2
  have r2 := Rd.of_own o2
  have r1 := r1.after b2
  have hb := belowGo hb b2
  have q3 := Blk.new w2 40 #[.int .u32 7, .int .u32 100, .int .u32 2, .int .u64 3, .int .u64 9]
  have r3 : Rd (w2.alloc (.cells #[.int .u32 7, .int .u32 100, .int .u32 2, .int .u64 3, .int .u64 9] 40)) (w2.alloc (.cells #[.int .u32 7, .int .u32 100, .int .u32 2, .int .u64 3, .int .u64 9] 40)).heap.size 5 (some ⟨w2.heap.size, 0, none⟩) 1 (slCells dW3.seals) :=
    ⟨rfl, by unfold maxLen; omega, fun _ => ⟨w2.heap.size, 0, rfl, q3.lt, fun j u hu => by rw [Nat.zero_add, q3.cell j, List.getElem?_toArray]; exact hu⟩⟩
  have r1 := r1.allocs (.cells #[.int .u32 7, .int .u32 100, .int .u32 2, .int .u64 3, .int .u64 9] 40)
  have r2 := r2.allocs (.cells #[.int .u32 7, .int .u32 100, .int .u32 2, .int .u64 3, .int .u64 9] 40)
  have hb := belowAlloc hb (.cells #[.int .u32 7, .int .u32 100, .int .u32 2, .int .u64 3, .int .u64 9] 40)
  have H3 := Lib.hid (put_lit dW3 ⟨by decide, by decide, by decide, by intro s hs; rw [List.mem_singleton.1 hs]; exact ⟨by decide, by decide, by decide, by decide, by decide⟩⟩ (by decide +kernel) [5, 7, 100, 2, 3, 6] (by decide +kernel) #[.int .i64 5, .string ⟨#[]⟩, .int .u64 0, .int .u32 0, .slice (some ⟨w2.heap.size, 0, none⟩) 1 1] (some ⟨w2.heap.size, 0, none⟩) 1 1 rfl _ rfl r3 (Nat.le_refl _))
  clear H2 o2 b2 q3 r3
  go_wp2_with fail
  generalize w2.alloc (.cells #[.int .u32 7, .int .u32 100, .int .u32 2, .int .u64 3, .int .u64 9] 40) = w3 at *
  refine H3.out.mono ?_
  rintro e w4 ⟨v3, rfl, o3, b3⟩
  obtain ⟨A3, c3, rfl, -⟩ := own_cap o3
  have r3 := Rd.of_own o3
  have r1 := r1.after b3
  have r2 := r2.after b3
  have hb := belowGo hb b3
  have r4 : Rd (w4.alloc (.cells #[.int .u8 6, .int .u8 9, .int .u8 0] 5)) (w4.alloc (.cells #[.int .u8 6, .int .u8 9, .int .u8 0] 5)).heap.size 1 (some ⟨w4.heap.size, 0, none⟩) 3 (bcells [6, 9, 0]) := bcell_rd (Blk.new w4 5 #[.int .u8 6, .int .u8 9, .int .u8 0]) rfl rfl (by unfold maxLen; omega)
  have r1 := r1.allocs (.cells #[.int .u8 6, .int .u8 9, .int .u8 0] 5)
  have r2 := r2.allocs (.cells #[.int .u8 6, .int .u8 9, .int .u8 0] 5)
  have r3 := r3.allocs (.cells #[.int .u8 6, .int .u8 9, .int .u8 0] 5)
  have hb := belowAlloc hb (.cells #[.int .u8 6, .int .u8 9, .int .u8 0] 5)
  have H4 := Lib.hid (getEd_any [6, 9, 0] _ 3 3 _ (Nat.le_refl _) r4)
  clear H3 o3 b3 r4
  go_wp2_with fail
  generalize w4.alloc (.cells #[.int .u8 6, .int .u8 9, .int .u8 0] 5) = w5 at *
  refine H4.out.mono ?_
  have hge : getE [6, 9, 0] = (⟨6, [], 9, 0, []⟩, 0) := by decide +kernel
  rintro e w6 ⟨v4, rfl, o4, b4⟩
  rw [hge] at o4 ⊢
  obtain ⟨A4, c4, rfl, -⟩ := own_cap o4
  have r1 := r1.after b4
  have r2 := r2.after b4
  have r3 := r3.after b4
  have hb := belowGo hb b4
  rw [show edC (Ed.mk 6 [] 9 0 []) ⟨(Ed.mk 6 [] 9 0 []).name.toArray⟩ (.slice A4 (Ed.mk 6 [] 9 0 []).seals.length c4) = #[.int .i64 6, .string ⟨#[]⟩, .int .u64 9, .int .u32 0, .slice A4 0 c4] from rfl, show (((Ed.mk 6 [] 9 0 [], 0) : Ed × Nat).2 : Int) = 0 from rfl]
  clear H4 o4 b4 hge
  have q7 := Blk.new w6 28 #[.int .i64 6, .string ⟨#[]⟩, .int .u64 9, .int .u32 0, .slice A4 0 c4]
  have r1 := r1.allocs (.cells #[.int .i64 6, .string ⟨#[]⟩, .int .u64 9, .int .u32 0, .slice A4 0 c4] 28)
  have r2 := r2.allocs (.cells #[.int .i64 6, .string ⟨#[]⟩, .int .u64 9, .int .u32 0, .slice A4 0 c4] 28)
  have r3 := r3.allocs (.cells #[.int .i64 6, .string ⟨#[]⟩, .int .u64 9, .int .u32 0, .slice A4 0 c4] 28)
  have hb := belowAlloc hb (.cells #[.int .i64 6, .string ⟨#[]⟩, .int .u64 9, .int .u32 0, .slice A4 0 c4] 28)
  go_upto_region 5 with (fail)
  generalize w6.alloc (.cells #[.int .i64 6, .string ⟨#[]⟩, .int .u64 9, .int .u32 0, .slice A4 0 c4] 28) = w7 at *
  obtain ⟨g7, e7⟩ : ∃ g, g = w6.heap.size := ⟨_, rfl⟩
  rw [← e7] at q7 ⊢
  clear e7
  have x8 : Rd (w7.alloc (.cells #[.int .u8 1, .int .u8 5] 5)) (w7.alloc (.cells #[.int .u8 1, .int .u8 5] 5)).heap.size 1 (some ⟨w7.heap.size, 0, none⟩) 2 (bcells [1, 5]) := bcell_rd (Blk.new w7 5 #[.int .u8 1, .int .u8 5]) rfl rfl (by unfold maxLen; omega)
  have r1 := r1.allocs (.cells #[.int .u8 1, .int .u8 5] 5)
  have r2 := r2.allocs (.cells #[.int .u8 1, .int .u8 5] 5)
  have r3 := r3.allocs (.cells #[.int .u8 1, .int .u8 5] 5)
  have q7 := q7.alloc (.cells #[.int .u8 1, .int .u8 5] 5)
  have hb := belowAlloc hb (.cells #[.int .u8 1, .int .u8 5] 5)
  have HE := Lib.hid (equal_any [1, 5] [1, 5] A1 2 c1 _ 2 2 _ r1 x8)
  rw [show (([1, 5] : List UInt8) == [1, 5]) = true by decide] at HE
  clear x8
  go_wp2_with fail
  generalize w7.alloc (.cells #[.int .u8 1, .int .u8 5] 5) = w8 at *
  refine HE.out.mono ?_
  rintro e wx ⟨rfl, rfl⟩
  clear HE
  have x9 : Rd (w8.alloc (.cells #[.int .u8 2, .int .u8 129, .int .u8 44, .int .u8 1, .int .u8 97] 5)) (w8.alloc (.cells #[.int .u8 2, .int .u8 129, .int .u8 44, .int .u8 1, .int .u8 97] 5)).heap.size 1 (some ⟨w8.heap.size, 0, none⟩) 5 (bcells [2, 129, 44, 1, 97]) := bcell_rd (Blk.new w8 5 #[.int .u8 2, .int .u8 129, .int .u8 44, .int .u8 1, .int .u8 97]) rfl rfl (by unfold maxLen; omega)
  have r1 := r1.allocs (.cells #[.int .u8 2, .int .u8 129, .int .u8 44, .int .u8 1, .int .u8 97] 5)
  have r2 := r2.allocs (.cells #[.int .u8 2, .int .u8 129, .int .u8 44, .int .u8 1, .int .u8 97] 5)
  have r3 := r3.allocs (.cells #[.int .u8 2, .int .u8 129, .int .u8 44, .int .u8 1, .int .u8 97] 5)
  have q7 := q7.alloc (.cells #[.int .u8 2, .int .u8 129, .int .u8 44, .int .u8 1, .int .u8 97] 5)
  have hb := belowAlloc hb (.cells #[.int .u8 2, .int .u8 129, .int .u8 44, .int .u8 1, .int .u8 97] 5)
  have HE := Lib.hid (equal_any [2, 129, 44, 1, 97] [2, 129, 44, 1, 97] A2 5 c2 _ 5 5 _ r2 x9)
  rw [show (([2, 129, 44, 1, 97] : List UInt8) == [2, 129, 44, 1, 97]) = true by decide] at HE
  clear x9
  go_wp2_with fail
  generalize w8.alloc (.cells #[.int .u8 2, .int .u8 129, .int .u8 44, .int .u8 1, .int .u8 97] 5) = w9 at *
  refine HE.out.mono ?_
  rintro e wx ⟨rfl, rfl⟩
  clear HE
  have x10 : Rd (w9.alloc (.cells #[.int .u8 5, .int .u8 7, .int .u8 100, .int .u8 2, .int .u8 3, .int .u8 6] 5)) (w9.alloc (.cells #[.int .u8 5, .int .u8 7, .int .u8 100, .int .u8 2, .int .u8 3, .int .u8 6] 5)).heap.size 1 (some ⟨w9.heap.size, 0, none⟩) 6 (bcells [5, 7, 100, 2, 3, 6]) := bcell_rd (Blk.new w9 5 #[.int .u8 5, .int .u8 7, .int .u8 100, .int .u8 2, .int .u8 3, .int .u8 6]) rfl rfl (by unfold maxLen; omega)
  have r1 := r1.allocs (.cells #[.int .u8 5, .int .u8 7, .int .u8 100, .int .u8 2, .int .u8 3, .int .u8 6] 5)
  have r2 := r2.allocs (.cells #[.int .u8 5, .int .u8 7, .int .u8 100, .int .u8 2, .int .u8 3, .int .u8 6] 5)
  have r3 := r3.allocs (.cells #[.int .u8 5, .int .u8 7, .int .u8 100, .int .u8 2, .int .u8 3, .int .u8 6] 5)
  have q7 := q7.alloc (.cells #[.int .u8 5, .int .u8 7, .int .u8 100, .int .u8 2, .int .u8 3, .int .u8 6] 5)
  have hb := belowAlloc hb (.cells #[.int .u8 5, .int .u8 7, .int .u8 100, .int .u8 2, .int .u8 3, .int .u8 6] 5)
  have HE := Lib.hid (equal_any [5, 7, 100, 2, 3, 6] [5, 7, 100, 2, 3, 6] A3 6 c3 _ 6 6 _ r3 x10)
  rw [show (([5, 7, 100, 2, 3, 6] : List UInt8) == [5, 7, 100, 2, 3, 6]) = true by decide] at HE
  clear x10
  go_wp2_with fail
  generalize w9.alloc (.cells #[.int .u8 5, .int .u8 7, .int .u8 100, .int .u8 2, .int .u8 3, .int .u8 6] 5) = w10 at *
  refine HE.out.mono ?_
  rintro e wx ⟨rfl, rfl⟩
  clear HE
  have c0 : w10.cell? ⟨g7, 0, none⟩ = some (.int .i64 6) := q7.cell 0
  have c2 : w10.cell? ⟨g7, 2, none⟩ = some (.int .u64 9) := q7.cell 2
  have c4 : w10.cell? ⟨g7, 4, none⟩ = some (.slice A4 0 c4) := q7.cell 4
  go_wp2_with fail
  exact bodyPost_ret (results_tmp rfl _ _ _) rfl ⟨rfl, hb⟩
end Go.Proofs.Ytedjolkkidciiaa
