/- What the law KeyOrder comes to: true, for every three rows and bytes ahead. -/
import Derived.Test.YticjecfbjmibaaaKeyCmp
import Derived.StillTailTactics
namespace Go.Proofs.Yticjecfbjmibaaa
open Go.RowKit

theorem with_any (d a : List UInt8) (Ad : Option Addr) (nd cd : Nat) (A : Option Addr) (n c g : Nat) (w : World) (hg : Blk w g 23 #[.slice Ad nd cd]) (hd : Rd w w.heap.size 1 Ad nd (bcells d)) (h : Rd w w.heap.size 1 A n (bcells a)) (hn : nd ≤ 80) (hm : n ≤ 80) :
    Calls Try.prog 13 #[.slice A n c, .pointer (some ⟨g, 0, none⟩)] w (RetOwn w 5 1 (nd + n) (bcells (d ++ a))) := by
  have hc := hg.cell 0
  have hc : w.cell? ⟨g, 0, none⟩ = some (.slice Ad nd cd) := hc
  have hown := World.ownsRow_nil w w.heap.size 5 1
  go_enter Try.func13, Try.ntmps13
  go_wp2_with (first
    | (at_builtin; refine wpList_app eltU8 rfl (.const (.slice none 0 0)) (.tmp 4) rfl rfl hown rfl hd (bcells_one _) (by omega) (by unfold maxLen; omega) (Below.refl _ _) (Nat.le_refl _) ?_; intro v1 w1 o1 b1 g1 _; have r1 := h.after b1)
    | (at_builtin; refine wpList_app eltU8 rfl (.tmp 5) (.tmp 6) rfl rfl o1 rfl r1 (bcells_one _) (by omega) (by unfold maxLen; omega) b1 b1.size ?_; intro v2 w2 o2 b2 g2 _)
    | fail)
  go_ret
  rw [Nat.zero_add, List.nil_append, ← bcells_append] at o2
  exact ⟨_, rfl, o2, b2⟩

set_option maxRecDepth 100000 in
set_option maxHeartbeats 4000000 in
theorem order_walk (l0 : List UInt8) (A0 : Option Addr) (m0 c0 : Nat) (l1 : List UInt8) (A1 : Option Addr) (m1 c1 : Nat) (l2 : List UInt8) (A2 : Option Addr) (m2 c2 : Nat) (l3 : List UInt8) (A3 : Option Addr) (m3 c3 : Nat) (w : World)
    (h0 : m0 ≤ c0) (h1 : m1 ≤ c1) (h2 : m2 ≤ c2) (h3 : m3 ≤ c3) (r0 : Rd w w.heap.size 1 A0 m0 (bcells l0)) (r1 : Rd w w.heap.size 1 A1 m1 (bcells l1)) (r2 : Rd w w.heap.size 1 A2 m2 (bcells l2)) (r3 : Rd w w.heap.size 1 A3 m3 (bcells l3)) :
    Calls Try.prog 4 #[.slice A0 m0 c0, .slice A1 m1 c1, .slice A2 m2 c2, .slice A3 m3 c3] w fun e w' => e = .returned (.bool true) ∧ Below w.heap.size w w' := by
  have cutR : ∀ (l : List UInt8) (A : Option Addr) (m c : Nat), m ≤ c → Rd w w.heap.size 1 A m (bcells l) → ∃ (n : Nat) (l' : List UInt8), min (m : Int) 80 = (n : Int) ∧ n ≤ 80 ∧ n ≤ c ∧ (n : Int) ≤ (c : Int) ∧ (m : Int) ≤ 9223372036854775807 ∧ Rd w w.heap.size 1 A n (bcells l') := fun l A m c hmc r => by
    have hmx := r.2.1
    unfold maxLen at hmx
    obtain ⟨n, hn⟩ : ∃ n, n = min m 80 := ⟨_, rfl⟩
    exact ⟨n, l.take n, by omega, by omega, by omega, by omega, by omega, r.btake (by omega)⟩
  obtain ⟨n0, a0, e0, i0, j0, k0, q0, r0⟩ := cutR l0 A0 m0 c0 h0 r0
  obtain ⟨n1, a1, e1, i1, j1, k1, q1, r1⟩ := cutR l1 A1 m1 c1 h1 r1
  obtain ⟨n2, a2, e2, i2, j2, k2, q2, r2⟩ := cutR l2 A2 m2 c2 h2 r2
  obtain ⟨n3, a3, e3, i3, j3, k3, q3, r3⟩ := cutR l3 A3 m3 c3 h3 r3
  clear cutR
  have hb := (Below.refl w.heap.size w).alloc (Nat.le_refl _) (.cells #[.slice A3 m3 c3] 23)
  have hB := Blk.newAt w 23 #[.slice A3 m3 c3] (g := w.heap.size) (by simp)
  go_enter Try.func4, Try.ntmps4
  go_wp2
  have hc : (w.alloc (.cells #[.slice A3 m3 c3] 23)).cell? ⟨w.heap.size, 0, none⟩ = some (.slice A3 m3 c3) := hB.cell 0
  have hf := hB.frozen 0
  generalize w.alloc (.cells #[.slice A3 m3 c3] 23) = w1 at *
  go_still_tail 23, (by kernel_rfl)
  change wpList _ _ _ _ _ w1.drew
  have hb : Below w.heap.size w w1.drew := ⟨hb.os, hb.tape, hb.output, hb.size, hb.block⟩
  have hB : Blk w1.drew w.heap.size 23 #[.slice A3 m3 c3] := hB
  have hc : w1.drew.cell? ⟨w.heap.size, 0, none⟩ = some (.slice A3 m3 c3) := hc
  have hf : w1.drew.frozen? ⟨w.heap.size, 0, none⟩ = false := hf
  generalize w1.drew = w2 at *
  go_wp2_with fail
  have hb : Below w.heap.size w (w2.setCell ⟨w.heap.size, 0, none⟩ (.slice A3 n3 c3)) := hb.setCell (p := ⟨w.heap.size, 0, none⟩) (Nat.le_refl _) _
  have hB : Blk (w2.setCell ⟨w.heap.size, 0, none⟩ (.slice A3 n3 c3)) w.heap.size 23 #[.slice A3 n3 c3] := hB.set_ 0 _
  clear hc hf
  generalize w2.setCell ⟨w.heap.size, 0, none⟩ (.slice A3 n3 c3) = w3 at *
  have r0 := (r0.below hb (Nat.le_refl _)).more hb.size
  have r1 := (r1.below hb (Nat.le_refl _)).more hb.size
  have r2 := (r2.below hb (Nat.le_refl _)).more hb.size
  have r3 := (r3.below hb (Nat.le_refl _)).more hb.size
  obtain ⟨g, hg⟩ : ∃ g, g = w.heap.size := ⟨_, rfl⟩
  rw [← hg] at hB ⊢
  clear hg
  have X1 := cmp_neg a0 a1
  have X2 := cmp_zero a0 a1
  have X3 := cmp_trans a0 a1 a2
  have X4 := cmp_trans a2 a1 a0
  rw [cmp_neg a1 a2, cmp_neg a0 a1, cmp_neg a0 a2] at X4
  have X5 := cmp_ahead a3 a0 a1
  have X6 := cmp_vals a0 a1
  have X7 : (a0 == a1) = decide (Lib.compareBytes a0 a1 = 0) := by rw [Bool.eq_iff_iff, beq_iff_eq, decide_eq_true_eq]; exact X2.symm
  clear X2
  have C1 := Lib.hid (keyCmp_any a0 a1 A0 n0 c0 A1 n1 c1 w3 r0 r1)
  refine C1.out.mono ?_
  rintro e w4 ⟨rfl, bw4⟩
  have r0 := r0.after bw4
  have r1 := r1.after bw4
  have r2 := r2.after bw4
  have r3 := r3.after bw4
  have hB := hB.after bw4
  have hb := belowGo hb bw4
  clear C1 bw4
  have C2 := Lib.hid (keyCmp_any a1 a2 A1 n1 c1 A2 n2 c2 w4 r1 r2)
  go_wp2_with fail
  refine C2.out.mono ?_
  rintro e w5 ⟨rfl, bw5⟩
  have r0 := r0.after bw5
  have r1 := r1.after bw5
  have r2 := r2.after bw5
  have r3 := r3.after bw5
  have hB := hB.after bw5
  have hb := belowGo hb bw5
  clear C2 bw5
  have C3 := Lib.hid (keyCmp_any a0 a2 A0 n0 c0 A2 n2 c2 w5 r0 r2)
  go_wp2_with fail
  refine C3.out.mono ?_
  rintro e w6 ⟨rfl, bw6⟩
  have r0 := r0.after bw6
  have r1 := r1.after bw6
  have r2 := r2.after bw6
  have r3 := r3.after bw6
  have hB := hB.after bw6
  have hb := belowGo hb bw6
  clear C3 bw6
  have C4 := fun w r0 r1 => Lib.hid (keyCmp_any a1 a0 A1 n1 c1 A0 n0 c0 w (B := w.heap.size) (B' := w.heap.size) r1 r0)
  have CE := fun w r0 r1 => Lib.hid (equal_any a0 a1 A0 n0 c0 A1 n1 c1 w (B := w.heap.size) (B' := w.heap.size) r0 r1)
  have CC := fun w u v A c A' c' r0 r1 => Lib.hid (keyCmp_any (a3 ++ a0) (a3 ++ a1) A u c A' v c' w (B := w.heap.size) (B' := w.heap.size) r0 r1)
  rw [X5] at CC
  rw [X1] at C4
  rw [X7] at CE
  clear X1 X5 X7
  generalize Lib.compareBytes a0 a1 = x at *
  generalize Lib.compareBytes a1 a2 = y at *
  generalize Lib.compareBytes a0 a2 = z at *
  have hway : (x = -1 ∧ y ≤ 0 ∧ z ≤ 0) ∨ (x = -1 ∧ 0 < y) ∨ (x = 0 ∧ y < 0 ∧ z ≤ 0) ∨ (x = 0 ∧ y = 0 ∧ z = 0) ∨ (x = 0 ∧ 0 < y ∧ 0 ≤ z) ∨ (x = 1 ∧ 0 ≤ y ∧ 0 ≤ z) ∨ (x = 1 ∧ y < 0) := by omega
  clear X3 X4 X6
  rcases hway with ⟨rfl, h1, h2⟩ | ⟨rfl, h1⟩ | ⟨rfl, h1, h2⟩ | ⟨rfl, rfl, rfl⟩ | ⟨rfl, h1, h2⟩ | ⟨rfl, h1, h2⟩ | ⟨rfl, h1⟩
  all_goals
    simp only [Int.reduceNeg, Int.neg_neg, Int.neg_zero, Int.reduceEq, decide_true, decide_false] at C4 CE CC
    go_wp2_with fail
    refine (C4 w6 r0 r1).out.mono ?_
    rintro e w7 ⟨rfl, b7⟩
    have r0 := r0.after b7
    have r1 := r1.after b7
    have r3 := r3.after b7
    have hB := hB.after b7
    have hb := belowGo hb b7
    go_wp2_with fail
    refine (CE w7 r0 r1).out.mono ?_
    rintro e w7 ⟨rfl, rfl⟩
    clear C4 CE b7
    have W0 := Lib.hid (with_any a3 a0 A3 n3 c3 A0 n0 c0 g w7 hB r3 r0 i3 i0)
    go_wp2_with fail
    refine W0.out.mono ?_
    rintro e w8 ⟨v8, rfl, o8, b8⟩
    obtain ⟨A8, c8, rfl⟩ := own_slice o8
    have r8 := own_rd o8
    have r1 := r1.after b8
    have r3 := r3.after b8
    have hB := hB.after b8
    have hb := belowGo hb b8
    clear W0 o8 b8
    have W1 := Lib.hid (with_any a3 a1 A3 n3 c3 A1 n1 c1 g w8 hB r3 r1 i3 i1)
    go_wp2_with fail
    refine W1.out.mono ?_
    rintro e w9 ⟨v9, rfl, o9, b9⟩
    obtain ⟨A9, c9, rfl⟩ := own_slice o9
    have r9 := own_rd o9
    have r8 := r8.after b9
    have hb := belowGo hb b9
    clear W1 o9 b9
    have C9 := CC w9 _ _ A8 c8 A9 c9 r8 r9
    clear CC
    go_wp2_with fail
    refine C9.out.mono ?_
    rintro e wa ⟨rfl, ba⟩
    have hb := belowGo hb ba
    have HK := Lib.hid (knows_any wa)
    clear C9 ba
    go_wp2_with fail
    refine HK.out.mono ?_
    rintro e wb ⟨rfl, bb⟩
    go_wp2
    go_ret
    exact ⟨rfl, belowGo hb bb⟩
end Go.Proofs.Yticjecfbjmibaaa
