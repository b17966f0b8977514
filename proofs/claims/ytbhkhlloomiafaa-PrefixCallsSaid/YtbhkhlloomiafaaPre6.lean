/- The contracts of package prefix at written-out numbers; what the document's examples come to. For every world. -/
import Derived.Test.YtbhkhlloomiafaaPre5
import Derived.Test.YtbhkhlloomiafaaAppK
namespace Go.Proofs.Ytbhkhlloomiafaa
open Go.RowKit

theorem bcell_rd {w : World} {g n : Nat} {l : List UInt8} {cs : Array Value} (h : Blk w g 5 cs) (hl : cs.toList = bcells l) (hn : cs.size = n) (hm : n ≤ maxLen) : Rd w w.heap.size 1 (some ⟨g, 0, none⟩) n (bcells l) := by
  rw [← hl]
  exact h.rd (by omega) hm
theorem put_at (x : Nat) (X : Int) (l : List UInt8) (n : Nat) (w : World) (hX : X = x) (hx : x < 18446744073709551616) (hn : psize x = n) (hl : pform x = l) :
    Calls Try.prog 10 #[.slice none 0 0, .int .u64 X] w (RetOwn w 5 1 n (bcells l)) := by
  have := put_any [] none 0 0 x hx w (Rd.nil_ _ _ _ none) (by omega)
  rw [List.nil_append, hl, Nat.zero_add, hn, ← hX] at this
  exact this
theorem get_at (l : List UInt8) (A : Option Addr) (n c : Nat) (x y z : Nat) (X Y Z : Int) (w : World) (hg : getP l = (x, y, z)) (hX : X = x) (hY : Y = y) (hZ : Z = z) (hnc : n ≤ c) (h : Rd w w.heap.size 1 A n (bcells l)) :
    Calls Try.prog 13 #[.slice A n c] w fun e w' => e = .returned (.tuple #[.int .u64 X, .int .i64 Y, .int .i64 Z]) ∧ Below w.heap.size w w' := by
  have := get_any l A n c w hnc h
  rw [hg, ← hX, ← hY, ← hZ] at this
  exact this.mono fun e w' ⟨he, hw⟩ => ⟨he, by rw [← hw]; exact Below.refl _ _⟩
theorem size_at (x : Nat) (X Y : Int) (w : World) (hX : X = x) (hx : x < 18446744073709551616) (hY : Y = psize x) :
    Calls Try.prog 11 #[.int .u64 X] w fun e w' => e = .returned (.int .i64 Y) ∧ Below w.heap.size w w' := by
  have := size_any x hx w
  rw [← hX, ← hY] at this
  exact this.mono fun e w' ⟨he, hw⟩ => ⟨he, by rw [← hw]; exact Below.refl _ _⟩
theorem fold_at (X Y : Int) (w : World) (h0 : -9223372036854775808 ≤ X) (h1 : X < 9223372036854775808) (hY : Y = foldN X) :
    Calls Try.prog 14 #[.int .i64 X] w fun e w' => e = .returned (.int .u64 Y) ∧ Below w.heap.size w w' := by
  have := fold_any X h0 h1 w
  rw [← hY] at this
  exact this.mono fun e w' ⟨he, hw⟩ => ⟨he, by rw [← hw]; exact Below.refl _ _⟩
theorem unfold_at (x : Nat) (X Y : Int) (w : World) (hX : X = x) (hx : x < 18446744073709551616) (hY : Y = unfoldN x) :
    Calls Try.prog 16 #[.int .u64 X] w fun e w' => e = .returned (.int .i64 Y) ∧ Below w.heap.size w w' := by
  have := unfold_any x hx w
  rw [← hX, ← hY] at this
  exact this.mono fun e w' ⟨he, hw⟩ => ⟨he, by rw [← hw]; exact Below.refl _ _⟩
theorem narrow_at (x : Nat) (X s Y Z : Int) (w : World) (hX : X = x) (hx : x < 18446744073709551616) (hY : Y = narrowN x s) (hZ : Z = narrowE x s) :
    Calls Try.prog 22 #[.int .u64 X, .int .i64 s] w fun e w' => e = .returned (.tuple #[.int .u32 Y, .int .i64 Z]) ∧ Below w.heap.size w w' := by
  have := narrow_any x hx s w
  rw [← hX, ← hY, ← hZ] at this
  exact this.mono fun e w' ⟨he, hw⟩ => ⟨he, by rw [← hw]; exact Below.refl _ _⟩
def RetFix (w : World) (E n : Nat) (xs : List Value) (code : Int) (e : Ending) (w' : World) : Prop := ∃ v, e = .returned (.tuple #[v, .int .i64 code]) ∧ w'.ownsRow w.heap.size E 1 v n xs ∧ Below w.heap.size w w'
theorem fixed_at (x : Nat) (X s Z : Int) (l : List UInt8) (n : Nat) (w : World) (hX : X = x) (hx : x < 18446744073709551616) (hl : fixedB [] x s = l) (hn : l.length = n) (hZ : Z = fixedE x s) :
    Calls Try.prog 19 #[.slice none 0 0, .int .u64 X, .int .i64 s] w (RetFix w 5 n (bcells l) Z) := by
  have := fixed_any [] none 0 0 x hx s w (Rd.nil_ _ _ _ none) (by omega)
  rw [hl, hn, ← hX] at this
  exact this.mono fun e w' ⟨v, he, h⟩ => ⟨v, by rw [he, hZ], h⟩
theorem read_at (l : List UInt8) (A : Option Addr) (n c : Nat) (s X Z : Int) (w : World) (hX : X = readN l s) (hZ : Z = readE l s) (h : Rd w w.heap.size 1 A n (bcells l)) :
    Calls Try.prog 20 #[.slice A n c, .int .i64 s] w fun e w' => e = .returned (.tuple #[.int .u64 X, .int .i64 Z]) ∧ Below w.heap.size w w' := by
  have := read_any l A n c s w h
  rw [← hX, ← hZ] at this
  exact this.mono fun e w' ⟨he, hw⟩ => ⟨he, by rw [← hw]; exact Below.refl _ _⟩
theorem equal_at (a b : List UInt8) (A : Option Addr) (n c : Nat) (A' : Option Addr) (n' c' : Nat) (v : Bool) (w : World) {B B' : Nat} (hv : (a == b) = v) (h : Rd w B 1 A n (bcells a)) (h' : Rd w B' 1 A' n' (bcells b)) :
    Calls Try.prog 12 #[.slice A n c, .slice A' n' c'] w fun e w' => e = .returned (.bool v) ∧ Below w.heap.size w w' := by
  have := equal_any a b A n c A' n' c' w h h'
  rw [hv] at this
  exact this.mono fun e w' ⟨he, hw⟩ => ⟨he, by rw [← hw]; exact Below.refl _ _⟩

set_option maxHeartbeats 4000000 in
theorem wakes_any (w : World) : Calls Try.prog 9 #[] w fun e w' => e = .returned (.bool true) ∧ Below w.heap.size w w' := by
  go_enter Try.func9, Try.ntmps9
  have hA := (Blk.newAt w 5 #[.int .u8 128, .int .u8 127] (g := w.heap.size) (by simp))
  have hb := (belowAlloc (Below.refl w.heap.size w) (.cells #[.int .u8 128, .int .u8 127] 5))
  have k1 := get_at [128, 127] _ 2 2 0 0 5 0 0 5 (w.alloc (.cells #[.int .u8 128, .int .u8 127] 5)) (by decide +kernel) rfl rfl rfl (by omega) (bcell_rd (n := 2) (l := [128, 127]) hA rfl rfl (by unfold maxLen; omega))
  have K1 := Lib.hid k1
  clear k1
  go_wp2_with fail
  refine K1.out.mono ?_
  rintro e w1 ⟨rfl, b1⟩
  clear K1
  have hA := hA.after b1
  have hb := belowGo hb b1
  have hA := (Blk.newAt w1 5 #[.int .u8 192, .int .u8 64] (g := w1.heap.size) (by simp))
  have hb := (belowAlloc hb (.cells #[.int .u8 192, .int .u8 64] 5))
  have k2 := get_at [192, 64] _ 2 2 0 0 4 0 0 4 (w1.alloc (.cells #[.int .u8 192, .int .u8 64] 5)) (by decide +kernel) rfl rfl rfl (by omega) (bcell_rd (n := 2) (l := [192, 64]) hA rfl rfl (by unfold maxLen; omega))
  have K2 := Lib.hid k2
  clear k2
  go_wp2_with fail
  refine K2.out.mono ?_
  rintro e w2 ⟨rfl, b2⟩
  clear K2
  have hA := hA.after b2
  have hb := belowGo hb b2
  have hb := hb
  have k3 := fixed_at 4660 4660 2 0 [52, 18] 2 w2 rfl (by omega) (by decide +kernel) rfl (by decide +kernel)
  have K3 := Lib.hid k3
  clear k3
  go_wp2_with fail
  refine K3.out.mono ?_
  rintro e w3 ⟨v3, rfl, o3, b3⟩
  obtain ⟨A3, c3, rfl⟩ := own_slice o3
  clear K3
  have hb := belowGo hb b3
  have hF := own_rd o3
  have hF := hF
  have hb := hb
  have k4 := put_at 128 128 [128, 128] 2 w3 rfl (by omega) (by decide +kernel) (by decide +kernel)
  have K4 := Lib.hid k4
  clear k4
  go_wp2_with fail
  refine K4.out.mono ?_
  rintro e w4 ⟨v4, rfl, o4, b4⟩
  obtain ⟨A4, c4, rfl⟩ := own_slice o4
  clear K4
  have hF := hF.after b4
  have hb := belowGo hb b4
  have hP := own_rd o4
  have hF := (hF.allocs (.cells #[.int .u8 128, .int .u8 128] 5))
  have hP := (hP.allocs (.cells #[.int .u8 128, .int .u8 128] 5))
  have hB := (Blk.newAt w4 5 #[.int .u8 128, .int .u8 128] (g := w4.heap.size) (by simp))
  have hb := (belowAlloc hb (.cells #[.int .u8 128, .int .u8 128] 5))
  have k5 := equal_at [128, 128] [128, 128] _ 2 c4 _ 2 2 true (w4.alloc (.cells #[.int .u8 128, .int .u8 128] 5)) (by decide +kernel) hP (bcell_rd (n := 2) (l := [128, 128]) hB rfl rfl (by unfold maxLen; omega))
  have K5 := Lib.hid k5
  clear k5
  go_wp2_with fail
  refine K5.out.mono ?_
  rintro e w5 ⟨rfl, b5⟩
  clear K5
  have hF := hF.after b5
  have hP := hP.after b5
  have hB := hB.after b5
  have hb := belowGo hb b5
  have hF := hF
  have hb := hb
  have k6 := put_at 16384 16384 [192, 64, 0] 3 w5 rfl (by omega) (by decide +kernel) (by decide +kernel)
  have K6 := Lib.hid k6
  clear k6
  go_wp2_with fail
  refine K6.out.mono ?_
  rintro e w6 ⟨v6, rfl, o6, b6⟩
  obtain ⟨A6, c6, rfl⟩ := own_slice o6
  clear K6
  have hF := hF.after b6
  have hb := belowGo hb b6
  have hP := own_rd o6
  have hF := (hF.allocs (.cells #[.int .u8 192, .int .u8 64, .int .u8 0] 5))
  have hP := (hP.allocs (.cells #[.int .u8 192, .int .u8 64, .int .u8 0] 5))
  have hB := (Blk.newAt w6 5 #[.int .u8 192, .int .u8 64, .int .u8 0] (g := w6.heap.size) (by simp))
  have hb := (belowAlloc hb (.cells #[.int .u8 192, .int .u8 64, .int .u8 0] 5))
  have k7 := equal_at [192, 64, 0] [192, 64, 0] _ 3 c6 _ 3 3 true (w6.alloc (.cells #[.int .u8 192, .int .u8 64, .int .u8 0] 5)) (by decide +kernel) hP (bcell_rd (n := 3) (l := [192, 64, 0]) hB rfl rfl (by unfold maxLen; omega))
  have K7 := Lib.hid k7
  clear k7
  go_wp2_with fail
  refine K7.out.mono ?_
  rintro e w7 ⟨rfl, b7⟩
  clear K7
  have hF := hF.after b7
  have hP := hP.after b7
  have hB := hB.after b7
  have hb := belowGo hb b7
  have hF := hF
  have hb := hb
  have k8 := put_at 72057594037927936 72057594037927936 [255, 1, 0, 0, 0, 0, 0, 0, 0] 9 w7 rfl (by omega) (by decide +kernel) (by decide +kernel)
  have K8 := Lib.hid k8
  clear k8
  go_wp2_with fail
  refine K8.out.mono ?_
  rintro e w8 ⟨v8, rfl, o8, b8⟩
  obtain ⟨A8, c8, rfl⟩ := own_slice o8
  clear K8
  have hF := hF.after b8
  have hb := belowGo hb b8
  have hP := own_rd o8
  have hF := (hF.allocs (.cells #[.int .u8 255, .int .u8 1, .int .u8 0, .int .u8 0, .int .u8 0, .int .u8 0, .int .u8 0, .int .u8 0, .int .u8 0] 5))
  have hP := (hP.allocs (.cells #[.int .u8 255, .int .u8 1, .int .u8 0, .int .u8 0, .int .u8 0, .int .u8 0, .int .u8 0, .int .u8 0, .int .u8 0] 5))
  have hB := (Blk.newAt w8 5 #[.int .u8 255, .int .u8 1, .int .u8 0, .int .u8 0, .int .u8 0, .int .u8 0, .int .u8 0, .int .u8 0, .int .u8 0] (g := w8.heap.size) (by simp))
  have hb := (belowAlloc hb (.cells #[.int .u8 255, .int .u8 1, .int .u8 0, .int .u8 0, .int .u8 0, .int .u8 0, .int .u8 0, .int .u8 0, .int .u8 0] 5))
  have k9 := equal_at [255, 1, 0, 0, 0, 0, 0, 0, 0] [255, 1, 0, 0, 0, 0, 0, 0, 0] _ 9 c8 _ 9 9 true (w8.alloc (.cells #[.int .u8 255, .int .u8 1, .int .u8 0, .int .u8 0, .int .u8 0, .int .u8 0, .int .u8 0, .int .u8 0, .int .u8 0] 5)) (by decide +kernel) hP (bcell_rd (n := 9) (l := [255, 1, 0, 0, 0, 0, 0, 0, 0]) hB rfl rfl (by unfold maxLen; omega))
  have K9 := Lib.hid k9
  clear k9
  go_wp2_with fail
  refine K9.out.mono ?_
  rintro e w9 ⟨rfl, b9⟩
  clear K9
  have hF := hF.after b9
  have hP := hP.after b9
  have hB := hB.after b9
  have hb := belowGo hb b9
  have hF := hF
  have hb := hb
  have k10 := fold_at (-1) 1 w9 (by omega) (by omega) (by decide +kernel)
  have K10 := Lib.hid k10
  clear k10
  go_wp2_with fail
  refine K10.out.mono ?_
  rintro e w10 ⟨rfl, b10⟩
  clear K10
  have hF := hF.after b10
  have hb := belowGo hb b10
  have hF := hF
  have hb := hb
  have k11 := fold_at (1) 2 w10 (by omega) (by omega) (by decide +kernel)
  have K11 := Lib.hid k11
  clear k11
  go_wp2_with fail
  refine K11.out.mono ?_
  rintro e w11 ⟨rfl, b11⟩
  clear K11
  have hF := hF.after b11
  have hb := belowGo hb b11
  have hF := (hF.allocs (.cells #[.int .u8 52, .int .u8 18] 5))
  have hB := (Blk.newAt w11 5 #[.int .u8 52, .int .u8 18] (g := w11.heap.size) (by simp))
  have hb := (belowAlloc hb (.cells #[.int .u8 52, .int .u8 18] 5))
  have k12 := equal_at [52, 18] [52, 18] _ 2 c3 _ 2 2 true (w11.alloc (.cells #[.int .u8 52, .int .u8 18] 5)) (by decide +kernel) hF (bcell_rd (n := 2) (l := [52, 18]) hB rfl rfl (by unfold maxLen; omega))
  have K12 := Lib.hid k12
  clear k12
  go_wp2_with fail
  refine K12.out.mono ?_
  rintro e w12 ⟨rfl, b12⟩
  clear K12
  have hF := hF.after b12
  have hB := hB.after b12
  have hb := belowGo hb b12
  go_wp2
  go_ret
  exact ⟨rfl, hb⟩
end Go.Proofs.Ytbhkhlloomiafaa
