/- What the law PrefixKnown comes to: true. Closed. -/
import Derived.Test.YtbhkhlloomiafaaPre6
namespace Go.Proofs.Ytbhkhlloomiafaa
open Go.RowKit

theorem own_first {w : World} {base : Nat} {e : TypeId} {v : Value} {n : Nat} {xs : List Value} {x : Value} (h : w.ownsRow base e 1 v n xs) (hx : xs[0]? = some x) (h0 : 0 < n) : ∃ g c, v = .slice (some ⟨g, 0, none⟩) n c ∧ w.cell? ⟨g, 0, none⟩ = some x := by
  rcases own_form h with ⟨rfl, rfl, _⟩ | ⟨g, c, rfl, _⟩
  · omega
  · refine ⟨g, c, rfl, ?_⟩
    have := h.cells (g := g) rfl 0 x hx
    exact this
theorem read_arg (A : Option Addr) (n c : Nat) (s : Int) (w : World) (hs : s < 1 ∨ 8 < s) : Calls Try.prog 20 #[.slice A n c, .int .i64 s] w fun e w' => e = .returned (.tuple #[.int .u64 0, .int .i64 1]) ∧ Below w.heap.size w w' := by
  have HS := Lib.hid (sized_any s w)
  have e3 : (decide (1 ≤ s) && decide (s ≤ 8)) = false := by simp; omega
  rw [e3] at HS
  clear e3 hs
  go_enter Try.func20, Try.ntmps20
  go_wp2_with fail
  refine HS.out.mono ?_
  rintro e w1 ⟨rfl, rfl⟩
  go_wp2
  go_ret2
  exact ⟨rfl, Below.refl _ _⟩

set_option maxRecDepth 100000 in
set_option maxHeartbeats 4000000 in
theorem known_walk (w : World) : Calls Try.prog 8 #[] w fun e w' => e = .returned (.bool true) ∧ Below w.heap.size w w' := by
  go_enter Try.func8, Try.ntmps8
  go_wp2
  go_loopw [1] (fun i wr => ∃ k : Nat, 1 ≤ k ∧ k ≤ 9 ∧ i = .int .i64 k ∧ Below w.heap.size w wr) (fun i _ => 9 - (intOf i).toNat)
  case atStart => exact ⟨1, by omega, by omega, rfl, Below.refl _ _⟩
  case round =>
    obtain ⟨k, hk1, hk9, rfl, hb⟩ := hrel
    have hc : k = 1 ∨ k = 2 ∨ k = 3 ∨ k = 4 ∨ k = 5 ∨ k = 6 ∨ k = 7 ∨ k = 8 ∨ k = 9 := by omega
    clear hk1 hk9
    rcases hc with rfl | rfl | rfl | rfl | rfl | rfl | rfl | rfl | rfl
    · have h1 := Lib.hid (size_at 127 127 1 wr rfl (by omega) (by decide +kernel))
      go_wp2_with fail
      refine h1.out.mono ?_
      rintro e w1 ⟨rfl, b1⟩
      have hb := belowGo hb b1
      have h2 := Lib.hid (size_at 128 128 2 w1 rfl (by omega) (by decide +kernel))
      clear h1 b1
      go_wp2_with fail
      refine h2.out.mono ?_
      rintro e w2 ⟨rfl, b2⟩
      have hb := belowGo hb b2
      have h3 := Lib.hid (put_at 127 127 [127] 1 w2 rfl (by omega) (by decide +kernel) (by decide +kernel))
      clear h2 b2
      go_wp2_with fail
      refine h3.out.mono ?_
      rintro e w3 ⟨v3, rfl, o3, b3⟩
      have hb := belowGo hb b3
      obtain ⟨g, c3, rfl, hc⟩ := own_first o3 rfl (by omega)
      have ho : bits BinOp.or IntKind.u8 127 128 = 255 := by decide +kernel
      clear h3 b3 o3
      go_wp2
      go_quiet (fail)
      have hb : Below w.heap.size w (w3.drewN nq) := ⟨hb.os, hb.tape, hb.output, hb.size, hb.block⟩
      go_wp2
      go_roundw
      case rel => exact ⟨2, by omega, by omega, rfl, hb⟩
      case measure => simp [intOf]
    · have h1 := Lib.hid (size_at 16383 16383 2 wr rfl (by omega) (by decide +kernel))
      go_wp2_with fail
      refine h1.out.mono ?_
      rintro e w1 ⟨rfl, b1⟩
      have hb := belowGo hb b1
      have h2 := Lib.hid (size_at 16384 16384 3 w1 rfl (by omega) (by decide +kernel))
      clear h1 b1
      go_wp2_with fail
      refine h2.out.mono ?_
      rintro e w2 ⟨rfl, b2⟩
      have hb := belowGo hb b2
      have h3 := Lib.hid (put_at 16383 16383 [191, 255] 2 w2 rfl (by omega) (by decide +kernel) (by decide +kernel))
      clear h2 b2
      go_wp2_with fail
      refine h3.out.mono ?_
      rintro e w3 ⟨v3, rfl, o3, b3⟩
      have hb := belowGo hb b3
      obtain ⟨g, c3, rfl, hc⟩ := own_first o3 rfl (by omega)
      have ho : bits BinOp.or IntKind.u8 191 64 = 255 := by decide +kernel
      clear h3 b3 o3
      go_wp2
      go_quiet (fail)
      have hb : Below w.heap.size w (w3.drewN nq) := ⟨hb.os, hb.tape, hb.output, hb.size, hb.block⟩
      go_wp2
      go_roundw
      case rel => exact ⟨3, by omega, by omega, rfl, hb⟩
      case measure => simp [intOf]
    · have h1 := Lib.hid (size_at 2097151 2097151 3 wr rfl (by omega) (by decide +kernel))
      go_wp2_with fail
      refine h1.out.mono ?_
      rintro e w1 ⟨rfl, b1⟩
      have hb := belowGo hb b1
      have h2 := Lib.hid (size_at 2097152 2097152 4 w1 rfl (by omega) (by decide +kernel))
      clear h1 b1
      go_wp2_with fail
      refine h2.out.mono ?_
      rintro e w2 ⟨rfl, b2⟩
      have hb := belowGo hb b2
      have h3 := Lib.hid (put_at 2097151 2097151 [223, 255, 255] 3 w2 rfl (by omega) (by decide +kernel) (by decide +kernel))
      clear h2 b2
      go_wp2_with fail
      refine h3.out.mono ?_
      rintro e w3 ⟨v3, rfl, o3, b3⟩
      have hb := belowGo hb b3
      obtain ⟨g, c3, rfl, hc⟩ := own_first o3 rfl (by omega)
      have ho : bits BinOp.or IntKind.u8 223 32 = 255 := by decide +kernel
      clear h3 b3 o3
      go_wp2
      go_quiet (fail)
      have hb : Below w.heap.size w (w3.drewN nq) := ⟨hb.os, hb.tape, hb.output, hb.size, hb.block⟩
      go_wp2
      go_roundw
      case rel => exact ⟨4, by omega, by omega, rfl, hb⟩
      case measure => simp [intOf]
    · have h1 := Lib.hid (size_at 268435455 268435455 4 wr rfl (by omega) (by decide +kernel))
      go_wp2_with fail
      refine h1.out.mono ?_
      rintro e w1 ⟨rfl, b1⟩
      have hb := belowGo hb b1
      have h2 := Lib.hid (size_at 268435456 268435456 5 w1 rfl (by omega) (by decide +kernel))
      clear h1 b1
      go_wp2_with fail
      refine h2.out.mono ?_
      rintro e w2 ⟨rfl, b2⟩
      have hb := belowGo hb b2
      have h3 := Lib.hid (put_at 268435455 268435455 [239, 255, 255, 255] 4 w2 rfl (by omega) (by decide +kernel) (by decide +kernel))
      clear h2 b2
      go_wp2_with fail
      refine h3.out.mono ?_
      rintro e w3 ⟨v3, rfl, o3, b3⟩
      have hb := belowGo hb b3
      obtain ⟨g, c3, rfl, hc⟩ := own_first o3 rfl (by omega)
      have ho : bits BinOp.or IntKind.u8 239 16 = 255 := by decide +kernel
      clear h3 b3 o3
      go_wp2
      go_quiet (fail)
      have hb : Below w.heap.size w (w3.drewN nq) := ⟨hb.os, hb.tape, hb.output, hb.size, hb.block⟩
      go_wp2
      go_roundw
      case rel => exact ⟨5, by omega, by omega, rfl, hb⟩
      case measure => simp [intOf]
    · have h1 := Lib.hid (size_at 34359738367 34359738367 5 wr rfl (by omega) (by decide +kernel))
      go_wp2_with fail
      refine h1.out.mono ?_
      rintro e w1 ⟨rfl, b1⟩
      have hb := belowGo hb b1
      have h2 := Lib.hid (size_at 34359738368 34359738368 6 w1 rfl (by omega) (by decide +kernel))
      clear h1 b1
      go_wp2_with fail
      refine h2.out.mono ?_
      rintro e w2 ⟨rfl, b2⟩
      have hb := belowGo hb b2
      have h3 := Lib.hid (put_at 34359738367 34359738367 [247, 255, 255, 255, 255] 5 w2 rfl (by omega) (by decide +kernel) (by decide +kernel))
      clear h2 b2
      go_wp2_with fail
      refine h3.out.mono ?_
      rintro e w3 ⟨v3, rfl, o3, b3⟩
      have hb := belowGo hb b3
      obtain ⟨g, c3, rfl, hc⟩ := own_first o3 rfl (by omega)
      have ho : bits BinOp.or IntKind.u8 247 8 = 255 := by decide +kernel
      clear h3 b3 o3
      go_wp2
      go_quiet (fail)
      have hb : Below w.heap.size w (w3.drewN nq) := ⟨hb.os, hb.tape, hb.output, hb.size, hb.block⟩
      go_wp2
      go_roundw
      case rel => exact ⟨6, by omega, by omega, rfl, hb⟩
      case measure => simp [intOf]
    · have h1 := Lib.hid (size_at 4398046511103 4398046511103 6 wr rfl (by omega) (by decide +kernel))
      go_wp2_with fail
      refine h1.out.mono ?_
      rintro e w1 ⟨rfl, b1⟩
      have hb := belowGo hb b1
      have h2 := Lib.hid (size_at 4398046511104 4398046511104 7 w1 rfl (by omega) (by decide +kernel))
      clear h1 b1
      go_wp2_with fail
      refine h2.out.mono ?_
      rintro e w2 ⟨rfl, b2⟩
      have hb := belowGo hb b2
      have h3 := Lib.hid (put_at 4398046511103 4398046511103 [251, 255, 255, 255, 255, 255] 6 w2 rfl (by omega) (by decide +kernel) (by decide +kernel))
      clear h2 b2
      go_wp2_with fail
      refine h3.out.mono ?_
      rintro e w3 ⟨v3, rfl, o3, b3⟩
      have hb := belowGo hb b3
      obtain ⟨g, c3, rfl, hc⟩ := own_first o3 rfl (by omega)
      have ho : bits BinOp.or IntKind.u8 251 4 = 255 := by decide +kernel
      clear h3 b3 o3
      go_wp2
      go_quiet (fail)
      have hb : Below w.heap.size w (w3.drewN nq) := ⟨hb.os, hb.tape, hb.output, hb.size, hb.block⟩
      go_wp2
      go_roundw
      case rel => exact ⟨7, by omega, by omega, rfl, hb⟩
      case measure => simp [intOf]
    · have h1 := Lib.hid (size_at 562949953421311 562949953421311 7 wr rfl (by omega) (by decide +kernel))
      go_wp2_with fail
      refine h1.out.mono ?_
      rintro e w1 ⟨rfl, b1⟩
      have hb := belowGo hb b1
      have h2 := Lib.hid (size_at 562949953421312 562949953421312 8 w1 rfl (by omega) (by decide +kernel))
      clear h1 b1
      go_wp2_with fail
      refine h2.out.mono ?_
      rintro e w2 ⟨rfl, b2⟩
      have hb := belowGo hb b2
      have h3 := Lib.hid (put_at 562949953421311 562949953421311 [253, 255, 255, 255, 255, 255, 255] 7 w2 rfl (by omega) (by decide +kernel) (by decide +kernel))
      clear h2 b2
      go_wp2_with fail
      refine h3.out.mono ?_
      rintro e w3 ⟨v3, rfl, o3, b3⟩
      have hb := belowGo hb b3
      obtain ⟨g, c3, rfl, hc⟩ := own_first o3 rfl (by omega)
      have ho : bits BinOp.or IntKind.u8 253 2 = 255 := by decide +kernel
      clear h3 b3 o3
      go_wp2
      go_quiet (fail)
      have hb : Below w.heap.size w (w3.drewN nq) := ⟨hb.os, hb.tape, hb.output, hb.size, hb.block⟩
      go_wp2
      go_roundw
      case rel => exact ⟨8, by omega, by omega, rfl, hb⟩
      case measure => simp [intOf]
    · have h1 := Lib.hid (size_at 72057594037927935 72057594037927935 8 wr rfl (by omega) (by decide +kernel))
      go_wp2_with fail
      refine h1.out.mono ?_
      rintro e w1 ⟨rfl, b1⟩
      have hb := belowGo hb b1
      have h2 := Lib.hid (size_at 72057594037927936 72057594037927936 9 w1 rfl (by omega) (by decide +kernel))
      clear h1 b1
      go_wp2_with fail
      refine h2.out.mono ?_
      rintro e w2 ⟨rfl, b2⟩
      have hb := belowGo hb b2
      have h3 := Lib.hid (put_at 72057594037927935 72057594037927935 [254, 255, 255, 255, 255, 255, 255, 255] 8 w2 rfl (by omega) (by decide +kernel) (by decide +kernel))
      clear h2 b2
      go_wp2_with fail
      refine h3.out.mono ?_
      rintro e w3 ⟨v3, rfl, o3, b3⟩
      have hb := belowGo hb b3
      obtain ⟨g, c3, rfl, hc⟩ := own_first o3 rfl (by omega)
      have ho : bits BinOp.or IntKind.u8 254 1 = 255 := by decide +kernel
      clear h3 b3 o3
      go_wp2
      go_quiet (fail)
      have hb : Below w.heap.size w (w3.drewN nq) := ⟨hb.os, hb.tape, hb.output, hb.size, hb.block⟩
      go_wp2
      go_roundw
      case rel => exact ⟨9, by omega, by omega, rfl, hb⟩
      case measure => simp [intOf]
    · have hb := hb
      have k1 := get_at [] none 0 0 0 0 4 0 0 4 wr (by decide +kernel) rfl rfl rfl (by omega) (Rd.nil_ _ _ _ none)
      have K1 := Lib.hid k1
      clear k1
      go_wp2_with fail
      refine K1.out.mono ?_
      rintro e w1 ⟨rfl, b1⟩
      clear K1
      have hb := belowGo hb b1
      have hA := (Blk.newAt w1 5 #[.int .u8 255, .int .u8 0, .int .u8 255, .int .u8 255, .int .u8 255, .int .u8 255, .int .u8 255, .int .u8 255, .int .u8 255] (g := w1.heap.size) (by simp))
      have hb := (belowAlloc hb (.cells #[.int .u8 255, .int .u8 0, .int .u8 255, .int .u8 255, .int .u8 255, .int .u8 255, .int .u8 255, .int .u8 255, .int .u8 255] 5))
      have k2 := get_at [255, 0, 255, 255, 255, 255, 255, 255, 255] _ 9 9 0 0 5 0 0 5 (w1.alloc (.cells #[.int .u8 255, .int .u8 0, .int .u8 255, .int .u8 255, .int .u8 255, .int .u8 255, .int .u8 255, .int .u8 255, .int .u8 255] 5)) (by decide +kernel) rfl rfl rfl (by omega) (bcell_rd (n := 9) (l := [255, 0, 255, 255, 255, 255, 255, 255, 255]) hA rfl rfl (by unfold maxLen; omega))
      have K2 := Lib.hid k2
      clear k2
      go_wp2_with fail
      refine K2.out.mono ?_
      rintro e w2 ⟨rfl, b2⟩
      clear K2
      have hA := hA.after b2
      have hb := belowGo hb b2
      have hA := (Blk.newAt w2 5 #[.int .u8 255, .int .u8 255, .int .u8 255, .int .u8 255, .int .u8 255, .int .u8 255, .int .u8 255, .int .u8 255, .int .u8 255, .int .u8 7] (g := w2.heap.size) (by simp))
      have hb := (belowAlloc hb (.cells #[.int .u8 255, .int .u8 255, .int .u8 255, .int .u8 255, .int .u8 255, .int .u8 255, .int .u8 255, .int .u8 255, .int .u8 255, .int .u8 7] 5))
      have k3 := get_at [255, 255, 255, 255, 255, 255, 255, 255, 255, 7] _ 10 10 18446744073709551615 9 0 18446744073709551615 9 0 (w2.alloc (.cells #[.int .u8 255, .int .u8 255, .int .u8 255, .int .u8 255, .int .u8 255, .int .u8 255, .int .u8 255, .int .u8 255, .int .u8 255, .int .u8 7] 5)) (by decide +kernel) rfl rfl rfl (by omega) (bcell_rd (n := 10) (l := [255, 255, 255, 255, 255, 255, 255, 255, 255, 7]) hA rfl rfl (by unfold maxLen; omega))
      have K3 := Lib.hid k3
      clear k3
      go_wp2_with fail
      refine K3.out.mono ?_
      rintro e w3 ⟨rfl, b3⟩
      clear K3
      have hA := hA.after b3
      have hb := belowGo hb b3
      have hb := hb
      have k4 := fixed_at 0 0 0 1 [] 0 w3 rfl (by omega) (by decide +kernel) rfl (by decide +kernel)
      have K4 := Lib.hid k4
      clear k4
      go_wp2_with fail
      refine K4.out.mono ?_
      rintro e w4 ⟨v4, rfl, o4, b4⟩
      obtain ⟨A4, c4, rfl⟩ := own_slice o4
      clear K4
      have hb := belowGo hb b4
      have hb := hb
      have k5 := fixed_at 0 0 9 1 [] 0 w4 rfl (by omega) (by decide +kernel) rfl (by decide +kernel)
      have K5 := Lib.hid k5
      clear k5
      go_wp2_with fail
      refine K5.out.mono ?_
      rintro e w5 ⟨v5, rfl, o5, b5⟩
      obtain ⟨A5, c5, rfl⟩ := own_slice o5
      clear K5
      have hb := belowGo hb b5
      have hmk : (Instr.makeSlice 24 (.int .i64 20) (.int .i64 20)).run Try.prog w5 = .ok (.slice (some ⟨w5.heap.size, 0, none⟩) 20 20) (w5.alloc (.cells #[.int .u8 0, .int .u8 0, .int .u8 0, .int .u8 0, .int .u8 0, .int .u8 0, .int .u8 0, .int .u8 0, .int .u8 0, .int .u8 0, .int .u8 0, .int .u8 0, .int .u8 0, .int .u8 0, .int .u8 0, .int .u8 0, .int .u8 0, .int .u8 0, .int .u8 0, .int .u8 0] 5)) := by kernel_rfl
      have hb := (belowAlloc hb (.cells (#[.int .u8 0, .int .u8 0, .int .u8 0, .int .u8 0, .int .u8 0, .int .u8 0, .int .u8 0, .int .u8 0, .int .u8 0, .int .u8 0, .int .u8 0, .int .u8 0, .int .u8 0, .int .u8 0, .int .u8 0, .int .u8 0, .int .u8 0, .int .u8 0, .int .u8 0, .int .u8 0]) 5))
      have k6 := read_arg (some ⟨w5.heap.size, 0, none⟩) 20 20 9 (w5.alloc (.cells (#[.int .u8 0, .int .u8 0, .int .u8 0, .int .u8 0, .int .u8 0, .int .u8 0, .int .u8 0, .int .u8 0, .int .u8 0, .int .u8 0, .int .u8 0, .int .u8 0, .int .u8 0, .int .u8 0, .int .u8 0, .int .u8 0, .int .u8 0, .int .u8 0, .int .u8 0, .int .u8 0]) 5)) (by omega)
      have K6 := Lib.hid k6
      clear k6
      go_wp2_with fail
      refine K6.out.mono ?_
      rintro e w6 ⟨rfl, b6⟩
      clear K6
      have hb := belowGo hb b6
      clear hmk
      have hb := hb
      have k7 := narrow_at 0 0 0 0 1 w6 rfl (by omega) (by decide +kernel) (by decide +kernel)
      have K7 := Lib.hid k7
      clear k7
      go_wp2_with fail
      refine K7.out.mono ?_
      rintro e w7 ⟨rfl, b7⟩
      clear K7
      have hb := belowGo hb b7
      have hb := hb
      have k8 := narrow_at 0 0 33 0 1 w7 rfl (by omega) (by decide +kernel) (by decide +kernel)
      have K8 := Lib.hid k8
      clear k8
      go_wp2_with fail
      refine K8.out.mono ?_
      rintro e w8 ⟨rfl, b8⟩
      clear K8
      have hb := belowGo hb b8
      have hb := hb
      have k9 := narrow_at 4294967295 4294967295 32 4294967295 0 w8 rfl (by omega) (by decide +kernel) (by decide +kernel)
      have K9 := Lib.hid k9
      clear k9
      go_wp2_with fail
      refine K9.out.mono ?_
      rintro e w9 ⟨rfl, b9⟩
      clear K9
      have hb := belowGo hb b9
      have hb := hb
      have k10 := fold_at (-9223372036854775808) 18446744073709551615 w9 (by omega) (by omega) (by decide +kernel)
      have K10 := Lib.hid k10
      clear k10
      go_wp2_with fail
      refine K10.out.mono ?_
      rintro e w10 ⟨rfl, b10⟩
      clear K10
      have hb := belowGo hb b10
      have hb := hb
      have k11 := unfold_at 18446744073709551615 18446744073709551615 (-9223372036854775808) w10 rfl (by omega) (by decide +kernel)
      have K11 := Lib.hid k11
      clear k11
      go_wp2_with fail
      refine K11.out.mono ?_
      rintro e w11 ⟨rfl, b11⟩
      clear K11
      have hb := belowGo hb b11
      have hb := hb
      have k12 := size_at 0 0 1 w11 rfl (by omega) (by decide +kernel)
      have K12 := Lib.hid k12
      clear k12
      go_wp2_with fail
      refine K12.out.mono ?_
      rintro e w12 ⟨rfl, b12⟩
      clear K12
      have hb := belowGo hb b12
      have hb := hb
      have k13 := put_at 72057594037927935 72057594037927935 [254, 255, 255, 255, 255, 255, 255, 255] 8 w12 rfl (by omega) (by decide +kernel) (by decide +kernel)
      have K13 := Lib.hid k13
      clear k13
      go_wp2_with fail
      refine K13.out.mono ?_
      rintro e w13 ⟨v13, rfl, o13, b13⟩
      obtain ⟨A13, c13, rfl⟩ := own_slice o13
      clear K13
      have hb := belowGo hb b13
      have hP := own_rd o13
      have hP := (hP.allocs (.cells #[.int .u8 254, .int .u8 255, .int .u8 255, .int .u8 255, .int .u8 255, .int .u8 255, .int .u8 255, .int .u8 255] 5))
      have hB := (Blk.newAt w13 5 #[.int .u8 254, .int .u8 255, .int .u8 255, .int .u8 255, .int .u8 255, .int .u8 255, .int .u8 255, .int .u8 255] (g := w13.heap.size) (by simp))
      have hb := (belowAlloc hb (.cells #[.int .u8 254, .int .u8 255, .int .u8 255, .int .u8 255, .int .u8 255, .int .u8 255, .int .u8 255, .int .u8 255] 5))
      have k14 := equal_at [254, 255, 255, 255, 255, 255, 255, 255] [254, 255, 255, 255, 255, 255, 255, 255] _ 8 c13 _ 8 8 true (w13.alloc (.cells #[.int .u8 254, .int .u8 255, .int .u8 255, .int .u8 255, .int .u8 255, .int .u8 255, .int .u8 255, .int .u8 255] 5)) (by decide +kernel) hP (bcell_rd (n := 8) (l := [254, 255, 255, 255, 255, 255, 255, 255]) hB rfl rfl (by unfold maxLen; omega))
      have K14 := Lib.hid k14
      clear k14
      go_wp2_with fail
      refine K14.out.mono ?_
      rintro e w14 ⟨rfl, b14⟩
      clear K14
      have hP := hP.after b14
      have hB := hB.after b14
      have hb := belowGo hb b14
      have hb := hb
      have k15 := wakes_any w14
      have K15 := Lib.hid k15
      clear k15
      go_wp2_with fail
      refine K15.out.mono ?_
      rintro e w15 ⟨rfl, b15⟩
      clear K15
      have hb := belowGo hb b15
      go_wp2
      go_ret
      exact ⟨rfl, hb⟩
end Go.Proofs.Ytbhkhlloomiafaa
