/- LinkKnown: the walk. -/
import Derived.Test.YtnkkieiofpplgaaLkKnows
namespace Go.Proofs.Ytnkkieiofpplgaa
open Go.RowKit
attribute [local go_sem] Oper.semAt_some

set_option maxRecDepth 100000 in
theorem none_nil (w : World) : Calls Try.prog 26 #[.pointer none] w fun e w' => e = .returned (.bool true) ∧ w = w' := by
  go_enter Try.func26, Try.ntmps26
  go_wp2_with fail
  exact bodyPost_ret (results_tmp rfl _ _ _) rfl ⟨rfl, rfl⟩
set_option maxRecDepth 100000 in
theorem none_zero (g : Nat) (w : World) (c0 : w.cell? ⟨g, 0, none⟩ = some (.map none)) : Calls Try.prog 26 #[.pointer (some ⟨g, 0, none⟩)] w fun e w' => e = .returned (.bool true) ∧ w = w' := by
  have hq := run_eql_map_nil (P := Try.prog) w 68 _ _ none Try.underlying68
  go_enter Try.func26, Try.ntmps26
  go_wp2_with fail
  exact bodyPost_ret (results_tmp rfl _ _ _) rfl ⟨rfl, rfl⟩
set_option maxRecDepth 100000 in
theorem head_nil (A : Option Addr) (n c : Nat) (w : World) : Calls Try.prog 10 #[.pointer none, .slice A n c] w fun e w' => e = .returned (.tuple #[.agg #[.int .u32 0, .int .u32 0, .int .u64 0, .int .i64 0], .bool false]) ∧ Below w.heap.size w w' := by
  have b1 := belowAlloc (Below.refl w.heap.size w) (.cells #[.int .u32 0, .int .u32 0, .int .u64 0, .int .i64 0] 42)
  have q1 := Blk.new w 42 #[.int .u32 0, .int .u32 0, .int .u64 0, .int .i64 0]
  go_enter Try.func10, Try.ntmps10
  go_upto_region 1 with fail
  generalize w.alloc (.cells #[.int .u32 0, .int .u32 0, .int .u64 0, .int .i64 0] 42) = w1 at *
  have Q1 := Lib.hid q1
  have Q2 := Lib.hid (q1.row #[.int .u32 0, .int .u32 0, .int .u64 0, .int .i64 0])
  have HB := Lib.hid (row_below b1 (Nat.le_refl _) #[.int .u32 0, .int .u32 0, .int .u64 0, .int .i64 0])
  clear q1 b1
  go_wp2_with fail
  refine (none_nil w1).mono ?_
  rintro e w2 ⟨rfl, rfl⟩
  go_wp2_with (first | (refine wpList_storeB rfl 42 (.tmp 4) (.tmp 15) rfl rfl rfl Q1.out (by kernel_rfl) (by rfl) (by simp [Value.oneCell']) ?_) | fail)
  exact bodyPost_ret (results_cell2 rfl rfl (res_load Q2.out Try.underlying42 rfl (by kernel_rfl))) rfl ⟨rfl, HB.out⟩
set_option maxRecDepth 100000 in
theorem ahead_zero (g : Nat) (a b : Int) (w : World) (c0 : w.cell? ⟨g, 0, none⟩ = some (.map none)) (hg : g < w.heap.size) : Calls Try.prog 14 #[.pointer (some ⟨g, 0, none⟩), .agg #[.int .u32 a, .int .u32 b]] w fun e w' => e = .returned (.tuple #[.agg #[.int .u32 0, .int .u32 0], .bool false]) ∧ Below w.heap.size w w' := by
  have b1 := belowAlloc (belowAlloc (Below.refl w.heap.size w) (.cells #[.int .u32 a, .int .u32 b] 34)) (.cells #[.int .u32 0, .int .u32 0] 34)
  have q1 := Blk.newAt (w.alloc (.cells #[.int .u32 a, .int .u32 b] 34)) 34 #[.int .u32 0, .int .u32 0] (g := w.heap.size + 1) (by simp)
  have c1 := (b1.cell (p := ⟨g, 0, none⟩) hg).trans c0
  have C1 := Lib.hid c1
  clear c0 c1
  go_enter Try.func14, Try.ntmps14
  go_upto_region 1 with fail
  generalize (w.alloc (.cells #[.int .u32 a, .int .u32 b] 34)).alloc (.cells #[.int .u32 0, .int .u32 0] 34) = w1 at *
  have Q1 := Lib.hid q1
  have Q2 := Lib.hid (q1.row #[.int .u32 0, .int .u32 0])
  have HB := Lib.hid (row_below b1 (show w.heap.size ≤ w.heap.size + 1 by omega) #[.int .u32 0, .int .u32 0])
  clear q1 b1
  go_wp2_with fail
  refine (none_zero g w1 C1.out).mono ?_
  rintro e w2 ⟨rfl, rfl⟩
  go_wp2_with (first | (refine wpList_storeB rfl 34 (.tmp 4) (.tmp 10) rfl rfl rfl Q1.out (by kernel_rfl) (by rfl) (by simp [Value.oneCell']) ?_) | fail)
  exact bodyPost_ret (results_cell2 rfl rfl (res_load Q2.out Try.underlying34 rfl (by kernel_rfl))) rfl ⟨rfl, HB.out⟩
set_option maxRecDepth 100000 in
theorem add_nil (cs : Array Value) (w : World) : Calls Try.prog 9 #[.pointer none, .agg cs] w fun e w' => e = .returned (.int .i64 2) ∧ Below w.heap.size w w' := by
  have b1 := belowAlloc (Below.refl w.heap.size w) (.cells cs 40)
  go_enter Try.func9, Try.ntmps9
  go_upto_region 1 with fail
  generalize w.alloc (.cells cs 40) = w1 at *
  go_wp2_with fail
  refine (none_nil w1).mono ?_
  rintro e w2 ⟨rfl, rfl⟩
  go_wp2_with fail
  exact bodyPost_ret (results_tmp rfl _ _ _) rfl ⟨rfl, b1⟩
set_option maxRecDepth 100000 in
theorem len_zero (g : Nat) (w : World) (c0 : w.cell? ⟨g, 0, none⟩ = some (.map none)) : Calls Try.prog 11 #[.pointer (some ⟨g, 0, none⟩)] w fun e w' => e = .returned (.int .i64 0) ∧ w = w' := by
  have C0 := Lib.hid c0
  clear c0
  go_enter Try.func11, Try.ntmps11
  go_wp2_with fail
  refine (none_zero g w C0.out).mono ?_
  rintro e w2 ⟨rfl, rfl⟩
  go_wp2_with fail
  exact bodyPost_ret (results_tmp rfl _ _ _) rfl ⟨rfl, rfl⟩
set_option maxRecDepth 100000 in
theorem last_nil (w : World) : Calls Try.prog 20 #[.pointer none] w fun e w' => e = .returned (.int .u64 0) ∧ w = w' := by
  go_enter Try.func20, Try.ntmps20
  go_wp2_with fail
  refine (none_nil w).mono ?_
  rintro e w2 ⟨rfl, rfl⟩
  go_wp2_with fail
  exact bodyPost_ret (results_tmp rfl _ _ _) rfl ⟨rfl, rfl⟩
set_option maxRecDepth 100000 in
theorem keys_zero (g : Nat) (w : World) (c0 : w.cell? ⟨g, 0, none⟩ = some (.map none)) : Calls Try.prog 15 #[.pointer (some ⟨g, 0, none⟩)] w fun e w' => e = .returned (.slice none 0 0) ∧ w = w' := by
  have C0 := Lib.hid c0
  clear c0
  go_enter Try.func15, Try.ntmps15
  go_wp2_with fail
  refine (none_zero g w C0.out).mono ?_
  rintro e w2 ⟨rfl, rfl⟩
  go_wp2_with fail
  exact bodyPost_ret (results_tmp rfl _ _ _) rfl ⟨rfl, rfl⟩
set_option maxRecDepth 100000 in
theorem wrong_nil (w : World) : Calls Try.prog 12 #[.pointer none] w fun e w' => e = .returned (.slice none 0 0) ∧ w = w' := by
  go_enter Try.func12, Try.ntmps12
  go_wp2_with fail
  refine (none_nil w).mono ?_
  rintro e w2 ⟨rfl, rfl⟩
  go_wp2_with fail
  exact bodyPost_ret (results_tmp rfl _ _ _) rfl ⟨rfl, rfl⟩
theorem one_add {w0 W W' : World} {g bh ba : Nat} {v : Value} {S S1 : LS} {cd : Nat} {e : Ending} (h : Lk W w0.heap.size g bh ba v S) (b : Below w0.heap.size w0 W) (r : RetAdd W w0.heap.size g bh ba v S1 cd e W') : ∃ v1, e = .returned (.int .i64 (cd : Int)) ∧ Lk W' w0.heap.size g bh ba v1 S1 ∧ Below w0.heap.size w0 W' := by
  obtain ⟨v1, he, hl, hk, hx⟩ := r
  exact ⟨v1, he, hl, b.trans (hk.below h.lo b.size)⟩
def Z65 : List UInt8 := List.replicate 65 0
def K1 : LS := S0.add (1, 16) 5 1 [97] 0 (0, 0)
def K2 : LS := K1.add (1, 17) 6 1 [98] 0 (1, 99)

set_option maxRecDepth 100000 in
set_option maxHeartbeats 8000000 in
theorem knownL_walk (w : World) : Calls Try.prog 6 #[] w fun e w' => e = .returned (.bool true) ∧ Below w.heap.size w w' := by
  have q1 := Blk.new w 71 #[.map none, .map none, .slice none 0 0, .int .u64 0]
  have b1 := belowAlloc (Below.refl w.heap.size w) (.cells #[.map none, .map none, .slice none 0 0, .int .u64 0] 71)
  go_enter Try.func6, Try.ntmps6
  go_upto_region 3 with fail
  generalize w.alloc (.cells #[.map none, .map none, .slice none 0 0, .int .u64 0] 71) = w1 at *
  obtain ⟨gz, hgz⟩ : ∃ g, g = w.heap.size := ⟨_, rfl⟩
  rw [← hgz] at q1 ⊢
  have QZ := Lib.hid q1
  have HB := Lib.hid b1
  clear hgz q1 b1
  have hcv := Lib.run_convert_bytes_const (P := Try.prog) w1 36 5 #[.int .u8 97] 1 1 Try.underlying36 Try.underlying5
  have b2 := belowAlloc (Below.refl w1.heap.size w1) (.cells #[.int .u8 97] 5 (#[Value.int .u8 97].size, #[Value.int .u8 97].size + 1))
  have HB := Lib.hid (belowGo HB.out b2)
  have QZ := Lib.hid (QZ.out.after b2)
  go_wp2_with fail
  clear hcv b2
  refine (head_nil _ _ _ _).mono ?_
  rintro e w2 ⟨rfl, b2⟩
  have HB := Lib.hid (belowGo HB.out b2)
  have QZ := Lib.hid (QZ.out.after b2)
  clear b2
  go_upto_region 4 with fail
  have b3 := belowAlloc (Below.refl w2.heap.size w2) (.cells #[.int .u32 0, .int .u32 0, .int .u64 0, .int .i64 0] 42)
  have HB := Lib.hid (belowGo HB.out b3)
  have QZ := Lib.hid (QZ.out.after b3)
  generalize w2.alloc (.cells #[.int .u32 0, .int .u32 0, .int .u64 0, .int .i64 0] 42) = w3 at *
  clear b3
  go_wp2_with fail
  refine (atF_any 16 w3).mono ?_
  rintro e w4 ⟨rfl, b4⟩
  have HB := Lib.hid (belowGo HB.out b4)
  have QZ := Lib.hid (QZ.out.after b4)
  clear b4
  go_wp2_with fail
  refine (ahead_zero gz 1 16 w4 (QZ.out.cell 0) QZ.out.lt).mono ?_
  rintro e w5 ⟨rfl, b5⟩
  have HB := Lib.hid (belowGo HB.out b5)
  have QZ := Lib.hid (QZ.out.after b5)
  clear b5
  go_upto_region 5 with fail
  have b6 := belowAlloc (Below.refl w5.heap.size w5) (.cells #[.int .u32 0, .int .u32 0] 34)
  have HB := Lib.hid (belowGo HB.out b6)
  have QZ := Lib.hid (QZ.out.after b6)
  generalize w5.alloc (.cells #[.int .u32 0, .int .u32 0] 34) = w6 at *
  clear b6
  have PU : Hid (Calls Try.prog 25 #[.int .u64 1, .string ⟨#[97]⟩, .int .u32 16, .agg #[.int .u32 0, .int .u32 0]] w6 (RetPutF 1 [97] 16 (0, 0) w6)) := Lib.hid (putF_any 1 [97] 16 (0, 0) (by decide) w6)
  go_wp2_with fail
  refine PU.out.mono ?_
  rintro e w7 ⟨g7, c7, rfl, -, -, -, b7⟩
  have HB := Lib.hid (belowGo HB.out b7)
  have QZ := Lib.hid (QZ.out.after b7)
  clear PU b7
  go_wp2_with fail
  refine (add_nil _ w7).mono ?_
  rintro e w8 ⟨rfl, b8⟩
  have HB := Lib.hid (belowGo HB.out b8)
  have QZ := Lib.hid (QZ.out.after b8)
  clear b8
  go_wp2_with fail
  refine (len_zero gz w8 (QZ.out.cell 0)).mono ?_
  rintro e w9 ⟨rfl, rfl⟩
  go_wp2_with fail
  refine (last_nil w8).mono ?_
  rintro e w9 ⟨rfl, rfl⟩
  go_wp2_with fail
  refine (keys_zero gz w8 (QZ.out.cell 0)).mono ?_
  rintro e w9 ⟨rfl, rfl⟩
  go_wp2_with fail
  refine (wrong_nil w8).mono ?_
  rintro e w9 ⟨rfl, rfl⟩
  clear QZ
  have N1 := Lib.hid (newlk_any w8)
  go_wp2_with fail
  refine N1.out.mono ?_
  rintro e w9 ⟨rfl, x1, b9⟩
  have X := Lib.hid (x1.low HB.out.size)
  have HB := Lib.hid (belowGo HB.out b9)
  clear N1 x1 b9
  obtain ⟨gx, hgx⟩ : ∃ g, g = w8.heap.size + 1 + 1 := ⟨_, rfl⟩
  obtain ⟨hx, hhx⟩ : ∃ g, g = w8.heap.size := ⟨_, rfl⟩
  obtain ⟨ax, hax⟩ : ∃ g, g = w8.heap.size + 1 := ⟨_, rfl⟩
  have X : Hid (Lk w9 w.heap.size gx hx ax (.slice none 0 0) S0) := Lib.hid (by rw [hgx, hhx, hax]; exact X.out)
  rw [← hgx]
  clear hgx hhx hax

  have PU : Hid (Calls Try.prog 25 #[.int .u64 1, .string ⟨#[97]⟩, .int .u32 16, .agg #[.int .u32 0, .int .u32 0]] w9 (RetPutF 1 [97] 16 (0, 0) w9)) := Lib.hid (putF_any 1 [97] 16 (0, 0) (by decide) w9)
  go_wp2_with fail
  refine PU.out.mono ?_
  rintro e wp0 ⟨gp0, cp0, rfl, hcp, hrp, -, bp⟩
  have X := Lib.hid (X.out.after bp)
  have HB := Lib.hid (belowGo HB.out bp)
  have bf := belowAlloc (Below.refl wp0.heap.size wp0) (.cells #[.int .u32 0, .int .u32 0, .int .i64 0, .int .u64 1, .int .i64 1, .slice (some ⟨gp0, 0, none⟩) 1 cp0, .slice none 0 0, .int .u32 0, .int .u32 0] 40)
  have qf := Blk.new wp0 40 #[.int .u32 0, .int .u32 0, .int .i64 0, .int .u64 1, .int .i64 1, .slice (some ⟨gp0, 0, none⟩) 1 cp0, .slice none 0 0, .int .u32 0, .int .u32 0]
  have rf := (hrp.below bf (Nat.le_refl _)).more bf.size
  clear PU bp hrp
  go_upto_region 10 with fail
  have X := Lib.hid (X.out.after bf)
  have HB := Lib.hid (belowGo HB.out bf)
  generalize wp0.alloc (.cells #[.int .u32 0, .int .u32 0, .int .i64 0, .int .u64 1, .int .i64 1, .slice (some ⟨gp0, 0, none⟩) 1 cp0, .slice none 0 0, .int .u32 0, .int .u32 0] 40) = wf at *
  obtain ⟨gf, hgf⟩ : ∃ g, g = wp0.heap.size := ⟨_, rfl⟩
  rw [← hgf] at qf ⊢
  have QF := Lib.hid qf
  clear hgf qf bf
  have AD : Hid (Calls Try.prog 9 #[.pointer (some ⟨gx, 0, none⟩), .agg #[.int .u32 0, .int .u32 0, .int .i64 0, .int .u64 1, .int .i64 1, .slice (some ⟨gp0, 0, none⟩) 1 cp0, .slice none 0 0, .int .u32 0, .int .u32 0]] wf (RetAdd wf w.heap.size gx _ _ _ S0 1)) := Lib.hid (by
    have := addlk_any (0, 0) 0 1 1 [97] (some ⟨gp0, 0, none⟩) 1 cp0 none 0 0 (0, 0) wf X.out ⟨by decide, by decide⟩ hcp (by decide) rf (by decide)
    rw [show S0.code (0, 0) 1 1 ([97] : List UInt8).length 0 (0, 0) = 1 from by decide +kernel, show S0.add (0, 0) 1 1 [97] 0 (0, 0) = S0 from by rfl] at this
    exact this)
  clear hcp rf
  go_wp2_with (first | (refine wpList_value rfl (exec_load_blk rfl rfl QF.out Try.underlying40 rfl (by kernel_rfl)) ?_) | fail)
  refine AD.out.mono ?_
  rintro e wa0 ra
  obtain ⟨va0, rfl, hl, hb⟩ := one_add X.out HB.out ra
  have X := Lib.hid hl
  have HB := Lib.hid hb
  clear AD ra hl hb QF
  have PU : Hid (Calls Try.prog 25 #[.int .u64 0, .string ⟨#[97]⟩, .int .u32 16, .agg #[.int .u32 0, .int .u32 0]] wa0 (RetPutF 0 [97] 16 (0, 0) wa0)) := Lib.hid (putF_any 0 [97] 16 (0, 0) (by decide) wa0)
  go_wp2_with fail
  refine PU.out.mono ?_
  rintro e wp1 ⟨gp1, cp1, rfl, hcp, hrp, -, bp⟩
  have X := Lib.hid (X.out.after bp)
  have HB := Lib.hid (belowGo HB.out bp)
  have AD : Hid (Calls Try.prog 9 #[.pointer (some ⟨gx, 0, none⟩), .agg #[.int .u32 1, .int .u32 16, .int .i64 0, .int .u64 0, .int .i64 1, .slice (some ⟨gp1, 0, none⟩) 1 cp1, .slice none 0 0, .int .u32 0, .int .u32 0]] wp1 (RetAdd wp1 w.heap.size gx _ _ _ (S0) 1)) := Lib.hid (addP_any 0 [97] (some ⟨gp1, 0, none⟩) cp1 16 (0, 0) 1 (S0) wp1 X.out (by decide) hcp hrp (by decide) (by decide +kernel) (by decide +kernel) (by rfl))
  clear PU hcp hrp bp
  go_wp2_with fail
  refine AD.out.mono ?_
  rintro e wa1 ra
  obtain ⟨va1, rfl, hl, hb⟩ := one_add X.out HB.out ra
  have X := Lib.hid hl
  have HB := Lib.hid hb
  clear AD ra hl hb
  have PU : Hid (Calls Try.prog 25 #[.int .u64 1, .string ⟨#[]⟩, .int .u32 16, .agg #[.int .u32 0, .int .u32 0]] wa1 (RetPutF 1 [] 16 (0, 0) wa1)) := Lib.hid (putF_any 1 [] 16 (0, 0) (by decide) wa1)
  go_wp2_with fail
  refine PU.out.mono ?_
  rintro e wp2 ⟨gp2, cp2, rfl, hcp, hrp, -, bp⟩
  have X := Lib.hid (X.out.after bp)
  have HB := Lib.hid (belowGo HB.out bp)
  have AD : Hid (Calls Try.prog 9 #[.pointer (some ⟨gx, 0, none⟩), .agg #[.int .u32 1, .int .u32 16, .int .i64 0, .int .u64 1, .int .i64 1, .slice (some ⟨gp2, 0, none⟩) 0 cp2, .slice none 0 0, .int .u32 0, .int .u32 0]] wp2 (RetAdd wp2 w.heap.size gx _ _ _ (S0) 1)) := Lib.hid (addP_any 1 [] (some ⟨gp2, 0, none⟩) cp2 16 (0, 0) 1 (S0) wp2 X.out (by decide) hcp hrp (by decide) (by decide +kernel) (by decide +kernel) (by rfl))
  clear PU hcp hrp bp
  go_wp2_with fail
  refine AD.out.mono ?_
  rintro e wa2 ra
  obtain ⟨va2, rfl, hl, hb⟩ := one_add X.out HB.out ra
  have X := Lib.hid hl
  have HB := Lib.hid hb
  clear AD ra hl hb
  have PU : Hid (Calls Try.prog 25 #[.int .u64 1, .string ⟨#[97]⟩, .int .u32 15, .agg #[.int .u32 0, .int .u32 0]] wa2 (RetPutF 1 [97] 15 (0, 0) wa2)) := Lib.hid (putF_any 1 [97] 15 (0, 0) (by decide) wa2)
  go_wp2_with fail
  refine PU.out.mono ?_
  rintro e wp3 ⟨gp3, cp3, rfl, hcp, hrp, -, bp⟩
  have X := Lib.hid (X.out.after bp)
  have HB := Lib.hid (belowGo HB.out bp)
  have AD : Hid (Calls Try.prog 9 #[.pointer (some ⟨gx, 0, none⟩), .agg #[.int .u32 1, .int .u32 15, .int .i64 0, .int .u64 1, .int .i64 1, .slice (some ⟨gp3, 0, none⟩) 1 cp3, .slice none 0 0, .int .u32 0, .int .u32 0]] wp3 (RetAdd wp3 w.heap.size gx _ _ _ (S0) 1)) := Lib.hid (addP_any 1 [97] (some ⟨gp3, 0, none⟩) cp3 15 (0, 0) 1 (S0) wp3 X.out (by decide) hcp hrp (by decide) (by decide +kernel) (by decide +kernel) (by rfl))
  clear PU hcp hrp bp
  go_wp2_with fail
  refine AD.out.mono ?_
  rintro e wa3 ra
  obtain ⟨va3, rfl, hl, hb⟩ := one_add X.out HB.out ra
  have X := Lib.hid hl
  have HB := Lib.hid hb
  clear AD ra hl hb
  have PU : Hid (Calls Try.prog 25 #[.int .u64 5, .string ⟨#[97]⟩, .int .u32 16, .agg #[.int .u32 0, .int .u32 0]] wa3 (RetPutF 5 [97] 16 (0, 0) wa3)) := Lib.hid (putF_any 5 [97] 16 (0, 0) (by decide) wa3)
  go_wp2_with fail
  refine PU.out.mono ?_
  rintro e wp4 ⟨gp4, cp4, rfl, hcp, hrp, -, bp⟩
  have X := Lib.hid (X.out.after bp)
  have HB := Lib.hid (belowGo HB.out bp)
  have AD : Hid (Calls Try.prog 9 #[.pointer (some ⟨gx, 0, none⟩), .agg #[.int .u32 1, .int .u32 16, .int .i64 0, .int .u64 5, .int .i64 1, .slice (some ⟨gp4, 0, none⟩) 1 cp4, .slice none 0 0, .int .u32 0, .int .u32 0]] wp4 (RetAdd wp4 w.heap.size gx _ _ _ (K1) 0)) := Lib.hid (addP_any 5 [97] (some ⟨gp4, 0, none⟩) cp4 16 (0, 0) 0 (K1) wp4 X.out (by decide) hcp hrp (by decide) (by decide +kernel) (by decide +kernel) (by rfl))
  clear PU hcp hrp bp
  go_wp2_with fail
  refine AD.out.mono ?_
  rintro e wa4 ra
  obtain ⟨va4, rfl, hl, hb⟩ := one_add X.out HB.out ra
  have X := Lib.hid hl
  have HB := Lib.hid hb
  clear AD ra hl hb
  have PU : Hid (Calls Try.prog 25 #[.int .u64 5, .string ⟨#[98]⟩, .int .u32 50, .agg #[.int .u32 0, .int .u32 0]] wa4 (RetPutF 5 [98] 50 (0, 0) wa4)) := Lib.hid (putF_any 5 [98] 50 (0, 0) (by decide) wa4)
  go_wp2_with fail
  refine PU.out.mono ?_
  rintro e wp5 ⟨gp5, cp5, rfl, hcp, hrp, -, bp⟩
  have X := Lib.hid (X.out.after bp)
  have HB := Lib.hid (belowGo HB.out bp)
  have AD : Hid (Calls Try.prog 9 #[.pointer (some ⟨gx, 0, none⟩), .agg #[.int .u32 1, .int .u32 50, .int .i64 0, .int .u64 5, .int .i64 1, .slice (some ⟨gp5, 0, none⟩) 1 cp5, .slice none 0 0, .int .u32 0, .int .u32 0]] wp5 (RetAdd wp5 w.heap.size gx _ _ _ (K1) 1)) := Lib.hid (addP_any 5 [98] (some ⟨gp5, 0, none⟩) cp5 50 (0, 0) 1 (K1) wp5 X.out (by decide) hcp hrp (by decide) (by decide +kernel) (by decide +kernel) (by rfl))
  clear PU hcp hrp bp
  go_wp2_with fail
  refine AD.out.mono ?_
  rintro e wa5 ra
  obtain ⟨va5, rfl, hl, hb⟩ := one_add X.out HB.out ra
  have X := Lib.hid hl
  have HB := Lib.hid hb
  clear AD ra hl hb
  have PU : Hid (Calls Try.prog 25 #[.int .u64 6, .string ⟨#[98]⟩, .int .u32 16, .agg #[.int .u32 0, .int .u32 0]] wa5 (RetPutF 6 [98] 16 (0, 0) wa5)) := Lib.hid (putF_any 6 [98] 16 (0, 0) (by decide) wa5)
  go_wp2_with fail
  refine PU.out.mono ?_
  rintro e wp6 ⟨gp6, cp6, rfl, hcp, hrp, -, bp⟩
  have X := Lib.hid (X.out.after bp)
  have HB := Lib.hid (belowGo HB.out bp)
  have AD : Hid (Calls Try.prog 9 #[.pointer (some ⟨gx, 0, none⟩), .agg #[.int .u32 1, .int .u32 16, .int .i64 0, .int .u64 6, .int .i64 1, .slice (some ⟨gp6, 0, none⟩) 1 cp6, .slice none 0 0, .int .u32 0, .int .u32 0]] wp6 (RetAdd wp6 w.heap.size gx _ _ _ (K1) 9)) := Lib.hid (addP_any 6 [98] (some ⟨gp6, 0, none⟩) cp6 16 (0, 0) 9 (K1) wp6 X.out (by decide) hcp hrp (by decide) (by decide +kernel) (by decide +kernel) (by rfl))
  clear PU hcp hrp bp
  go_wp2_with fail
  refine AD.out.mono ?_
  rintro e wa6 ra
  obtain ⟨va6, rfl, hl, hb⟩ := one_add X.out HB.out ra
  have X := Lib.hid hl
  have HB := Lib.hid hb
  clear AD ra hl hb
  go_upto_region 17 with fail
  go_wp2_with fail
  refine (atF_any 99 wa6).mono ?_
  rintro e wt ⟨rfl, bt⟩
  have X := Lib.hid (X.out.after bt)
  have HB := Lib.hid (belowGo HB.out bt)
  clear bt
  have PU : Hid (Calls Try.prog 25 #[.int .u64 6, .string ⟨#[98]⟩, .int .u32 17, .agg #[.int .u32 1, .int .u32 99]] wt (RetPutF 6 [98] 17 (1, 99) wt)) := Lib.hid (putF_any 6 [98] 17 (1, 99) (by decide) wt)
  go_wp2_with fail
  refine PU.out.mono ?_
  rintro e wp7 ⟨gp7, cp7, rfl, hcp, hrp, -, bp⟩
  have X := Lib.hid (X.out.after bp)
  have HB := Lib.hid (belowGo HB.out bp)
  have AD : Hid (Calls Try.prog 9 #[.pointer (some ⟨gx, 0, none⟩), .agg #[.int .u32 1, .int .u32 17, .int .i64 0, .int .u64 6, .int .i64 1, .slice (some ⟨gp7, 0, none⟩) 1 cp7, .slice none 0 0, .int .u32 1, .int .u32 99]] wp7 (RetAdd wp7 w.heap.size gx _ _ _ (K2) 0)) := Lib.hid (addP_any 6 [98] (some ⟨gp7, 0, none⟩) cp7 17 (1, 99) 0 (K2) wp7 X.out (by decide) hcp hrp (by decide) (by decide +kernel) (by decide +kernel) (by rfl))
  clear PU hcp hrp bp
  go_wp2_with fail
  refine AD.out.mono ?_
  rintro e wa7 ra
  obtain ⟨va7, rfl, hl, hb⟩ := one_add X.out HB.out ra
  have X := Lib.hid hl
  have HB := Lib.hid hb
  clear AD ra hl hb
  have HD : Hid (Calls Try.prog 10 #[.pointer (some ⟨gx, 0, none⟩), .slice none 0 0] wa7 fun e w' => e = .returned (.tuple #[.agg #[.int .u32 0, .int .u32 0, .int .u64 0, .int .i64 0], .bool false]) ∧ Below wa7.heap.size wa7 w') := Lib.hid (by
    have := headlk_any [] none 0 0 wa7 X.out (Nat.le_refl _) (by omega) (Rd.nil_ _ _ _ _)
    rw [show K2.head [] = none from by decide +kernel] at this
    exact this)
  go_wp2_with fail
  refine HD.out.mono ?_
  rintro e w10 ⟨rfl, b10⟩
  have X := Lib.hid (X.out.after b10)
  have HB := Lib.hid (belowGo HB.out b10)
  clear HD b10
  go_upto_region 19 with fail
  have b11 := belowAlloc (Below.refl w10.heap.size w10) (.cells #[.int .u32 0, .int .u32 0, .int .u64 0, .int .i64 0] 42)
  have X := Lib.hid (X.out.after b11)
  have HB := Lib.hid (belowGo HB.out b11)
  generalize w10.alloc (.cells #[.int .u32 0, .int .u32 0, .int .u64 0, .int .i64 0] 42) = w11 at *
  clear b11
  obtain ⟨i0, hi, hz0, hz1, hz2⟩ := info_parts Try.infoU8
  have hmk : (Instr.makeSlice 36 (.int .i64 65) (.int .i64 65)).run Try.prog w11 = .ok (.slice (some ⟨w11.heap.size, 0, none⟩) 65 65) (w11.alloc (.cells (madeCells #[.int .u8 0] 65) 5)) := by
    have := run_make_rowN (P := Try.prog) 36 5 i0 (.int .u8 0) Try.underlying36 hi hz0 .i64 .i64 65 65 (Nat.le_refl _) (by rw [hz2]; omega) (by omega) w11
    rw [hz1, Nat.mul_one] at this
    exact this
  have HMK := Lib.hid hmk
  have rz : Rd (w11.alloc (.cells (madeCells #[.int .u8 0] 65) 5)) _ 1 (some ⟨w11.heap.size, 0, none⟩) 65 (bcells Z65) := bcell_rd (Blk.new w11 5 (madeCells #[.int .u8 0] 65)) (by rw [madeCells_one]; rfl) (by rw [size_madeCells]) (by unfold maxLen; omega)
  have b12 := belowAlloc (Below.refl w11.heap.size w11) (.cells (madeCells #[.int .u8 0] 65) 5)
  have X := Lib.hid (X.out.after b12)
  have HB := Lib.hid (belowGo HB.out b12)
  have HD : Hid (Calls Try.prog 10 #[.pointer (some ⟨gx, 0, none⟩), .slice (some ⟨w11.heap.size, 0, none⟩) 65 65] (w11.alloc (.cells (madeCells #[.int .u8 0] 65) 5)) fun e w' => e = .returned (.tuple #[.agg #[.int .u32 0, .int .u32 0, .int .u64 0, .int .i64 0], .bool false]) ∧ Below (w11.alloc (.cells (madeCells #[.int .u8 0] 65) 5)).heap.size (w11.alloc (.cells (madeCells #[.int .u8 0] 65) 5)) w') := Lib.hid (by
    have := headlk_any Z65 (some ⟨w11.heap.size, 0, none⟩) 65 65 _ X.out (Nat.le_refl _) (by omega) rz
    rw [show K2.head Z65 = none from by decide +kernel] at this
    exact this)
  clear hmk rz hi hz0 hz1 hz2 b12
  go_wp2_with (first | (refine wpList_value rfl (exec_make rfl HMK.out) ?_) | fail)
  refine HD.out.mono ?_
  rintro e w13 ⟨rfl, b13⟩
  have X := Lib.hid (X.out.after b13)
  have HB := Lib.hid (belowGo HB.out b13)
  clear HD b13 HMK
  go_upto_region 20 with fail
  have b14 := belowAlloc (Below.refl w13.heap.size w13) (.cells #[.int .u32 0, .int .u32 0, .int .u64 0, .int .i64 0] 42)
  have X := Lib.hid (X.out.after b14)
  have HB := Lib.hid (belowGo HB.out b14)
  generalize w13.alloc (.cells #[.int .u32 0, .int .u32 0, .int .u64 0, .int .i64 0] 42) = w14 at *
  clear b14
  have LN := Lib.hid (lenlk_any w14 X.out)
  have LS_ := Lib.hid (lastlk_any w14 X.out)
  have WR := Lib.hid (wronglk_any w14 X.out (by decide +kernel))
  rw [show K2.ahead.length = 2 from by decide +kernel] at LN
  rw [show K2.last = 6 from by decide +kernel] at LS_
  rw [show K2.wrong = [(1, 17)] from by decide +kernel] at WR
  go_wp2_with fail
  refine LN.out.mono ?_
  rintro e w15 ⟨rfl, rfl⟩
  go_wp2_with fail
  refine LS_.out.mono ?_
  rintro e w15 ⟨rfl, rfl⟩
  go_wp2_with fail
  refine WR.out.mono ?_
  rintro e w15 ⟨v15, rfl, o15, b15⟩
  obtain ⟨A15, c15, rfl, -⟩ := own_cap o15
  have HB := Lib.hid (belowGo HB.out b15)
  clear LN LS_ WR o15 b15
  have KN := Lib.hid (knowsL_any w15)
  go_wp2_with fail
  refine KN.out.mono ?_
  rintro e w16 ⟨rfl, b16⟩
  have HB := Lib.hid (belowGo HB.out b16)
  clear KN b16
  go_wp2_with fail
  exact bodyPost_ret (results_tmp rfl _ _ _) rfl ⟨rfl, HB.out⟩
end Go.Proofs.Ytnkkieiofpplgaa
