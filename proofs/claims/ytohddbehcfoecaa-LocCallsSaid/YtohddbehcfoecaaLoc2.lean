/- Package loc: Compare, Put, Get. For every loc, every bytes. -/
import Derived.Test.YtohddbehcfoecaaLoc1
import Derived.Test.YtohddbehcfoecaaPlan
import Derived.Test.YtohddbehcfoecaaPre4
import Derived.Test.YtohddbehcfoecaaPre3
import Derived.Test.YtohddbehcfoecaaOwn
import Derived.Test.YtohddbehcfoecaaAppK
namespace Go.Proofs.Ytohddbehcfoecaa
open Go.RowKit

def cmpN (a b : Nat) : Int := if a < b then -1 else if b < a then 1 else 0
theorem isNaN_any (a : Nat) (w : World) : Calls Try.prog 58 #[.int .u32 (a : Int)] w fun e w' => e = .returned (.bool false) ∧ w = w' := by
  go_enter Try.func58, Try.ntmps58
  go_wp2
  go_ret
  exact ⟨by simp, rfl⟩
theorem cmp32_any (a b : Nat) (w : World) : Calls Try.prog 43 #[.int .u32 (a : Int), .int .u32 (b : Int)] w fun e w' => e = .returned (.int .i64 (cmpN a b)) ∧ w = w' := by
  have H1 := fun a W => Lib.hid (isNaN_any a W)
  unfold cmpN
  by_cases h1 : a < b
  · rw [if_pos h1]
    go_enter Try.func43, Try.ntmps43
    go_wp2_with (go_at_call 58; refine (H1 _ _).out.mono ?_; rintro e w' ⟨rfl, rfl⟩)
    go_ret
    exact ⟨rfl, rfl⟩
  · rw [if_neg h1]
    by_cases h2 : b < a
    · rw [if_pos h2]
      go_enter Try.func43, Try.ntmps43
      go_wp2_with (go_at_call 58; refine (H1 _ _).out.mono ?_; rintro e w' ⟨rfl, rfl⟩)
      go_ret
      exact ⟨rfl, rfl⟩
    · rw [if_neg h2]
      go_enter Try.func43, Try.ntmps43
      go_wp2_with (go_at_call 58; refine (H1 _ _).out.mono ?_; rintro e w' ⟨rfl, rfl⟩)
      go_ret
      exact ⟨rfl, rfl⟩

def orI (x y : Int) : Int := if x = 0 then y else x
theorem or_any (x y : Int) (g c : Nat) (w : World) (h0 : w.cell? ⟨g, 0, none⟩ = some (.int .i64 x)) (h1 : w.cell? ⟨g, 1, none⟩ = some (.int .i64 y)) :
    Calls Try.prog 42 #[.slice (some ⟨g, 0, none⟩) 2 c] w fun e w' => e = .returned (.int .i64 (orI x y)) ∧ w = w' := by
  unfold orI
  go_enter Try.func42, Try.ntmps42
  go_wp2
  go_loop [8] (fun i => ∃ k : Nat, k ≤ 2 ∧ i = .int .i64 (k : Int) ∧ (0 < k → x = 0) ∧ (1 < k → y = 0)) (fun i => 2 - (intOf i).toNat)
  case atStart => exact ⟨0, by omega, rfl, by omega, by omega⟩
  case round =>
    obtain ⟨k, hk, rfl, hx, hy⟩ := hrel
    obtain rfl | rfl | rfl : k = 0 ∨ k = 1 ∨ k = 2 := by omega
    · by_cases hz : x = 0
      · subst hz
        go_wp2
        go_round
        case rel => exact ⟨1, by omega, by go_num, by simp, fun h => absurd h (by omega)⟩
        case measure => simp [intOf]
      · go_wp2
        go_ret
        exact ⟨rfl, rfl⟩
    · have hx := hx (by omega)
      subst hx
      by_cases hz : y = 0
      · subst hz
        go_wp2
        go_round
        case rel => exact ⟨2, by omega, by go_num, by simp, by simp⟩
        case measure => simp [intOf]
      · go_wp2
        go_ret
        exact ⟨rfl, rfl⟩
    · have hx := hx (by omega)
      have hy := hy (by omega)
      subst hx; subst hy
      go_wp2
      go_ret
      exact ⟨rfl, rfl⟩

def cmpL (s o s' o' : Nat) : Int := orI (cmpN s s') (cmpN o o')
theorem compareL_any (s o s' o' : Nat) (w : World) : Calls Try.prog 12 #[locV s o, locV s' o'] w fun e w' => e = .returned (.int .i64 (cmpL s o s' o')) ∧ Below w.heap.size w w' := by
  unfold cmpL
  have HX := fun W => Lib.hid (cmp32_any s s' W)
  have HY := fun W => Lib.hid (cmp32_any o o' W)
  generalize cmpN s s' = x at *
  generalize cmpN o o' = y at *
  have HO := fun W g c h0 h1 => Lib.hid (or_any x y g c W h0 h1)
  generalize orI x y = z at *
  unfold locV at *
  have q0 := (Blk.new w 24 #[.int .u32 (s : Int), .int .u32 (o : Int)]).alloc (.cells #[.int .u32 (s' : Int), .int .u32 (o' : Int)] 24)
  have q1 := Blk.newAt (w.alloc (.cells #[.int .u32 (s : Int), .int .u32 (o : Int)] 24)) 24 #[.int .u32 (s' : Int), .int .u32 (o' : Int)] (g := w.heap.size + 1) (by simp)
  have b0 := ((Below.refl w.heap.size w).alloc (Nat.le_refl _) (.cells #[.int .u32 (s : Int), .int .u32 (o : Int)] 24)).alloc (by simp) (.cells #[.int .u32 (s' : Int), .int .u32 (o' : Int)] 24)
  have hz : ((w.alloc (.cells #[.int .u32 (s : Int), .int .u32 (o : Int)] 24)).alloc (.cells #[.int .u32 (s' : Int), .int .u32 (o' : Int)] 24)).heap.size = w.heap.size + 1 + 1 := by simp
  go_enter Try.func12, Try.ntmps12
  go_wp2_with fail
  generalize (w.alloc (.cells #[.int .u32 (s : Int), .int .u32 (o : Int)] 24)).alloc (.cells #[.int .u32 (s' : Int), .int .u32 (o' : Int)] 24) = w0 at *
  have hcur : Below w0.heap.size w0 w0.drew := ⟨rfl, rfl, rfl, Nat.le_refl _, fun _ _ => rfl⟩
  refine wp_region_plan (fun W => Below w0.heap.size w0 W) [.calms [0, 2, 5, 7], .read 1, .read 3, .read 6, .read 8, .act 4, .act 9, .act 10, .act 11, .calms [12]] (by kernel_rfl) (by rfl) (by kernel_rfl) (by kernel_rfl) hcur ?_
  have hd : w0.drew.heap.size = w.heap.size + 1 + 1 := hz
  generalize w0.drew = w1 at *
  refine plan_calms (by simp [calmRow, need]; rfl) ?_
  go_wp2_with fail
  refine plan_read (by rfl) (.int .u32 (s : Int)) (by rfl) (fun W hW => exec_load rfl rfl (by kernel_rfl) ((q0.after hW).cell 0)) ?_
  refine plan_read (by rfl) (.int .u32 (s' : Int)) (by rfl) (fun W hW => exec_load rfl rfl (by kernel_rfl) ((q1.after hW).cell 0)) ?_
  refine plan_read (by rfl) (.int .u32 (o : Int)) (by rfl) (fun W hW => exec_load rfl rfl (by kernel_rfl) ((q0.after hW).cell 1)) ?_
  refine plan_read (by rfl) (.int .u32 (o' : Int)) (by rfl) (fun W hW => exec_load rfl rfl (by kernel_rfl) ((q1.after hW).cell 1)) ?_
  refine plan_act (by rfl) ?_
  go_wp2_with fail
  refine (HX _).out.mono ?_
  rintro e w2 ⟨rfl, rfl⟩
  go_wp2_with fail
  refine ⟨hcur, plan_act (by rfl) ?_⟩
  go_wp2_with fail
  refine (HY _).out.mono ?_
  rintro e w2 ⟨rfl, rfl⟩
  go_wp2_with fail
  refine ⟨hcur, plan_act (by rfl) ?_⟩
  go_wp2_with fail
  refine ⟨hcur.alloc (by omega) _, plan_act (by rfl) ?_⟩
  go_wp2_with fail
  refine (HO _ _ _ ((Blk.newAt w1 3 #[.int .i64 x, .int .i64 y] hd.symm).cell 0) ((Blk.newAt w1 3 #[.int .i64 x, .int .i64 y] hd.symm).cell 1)).out.mono ?_
  rintro e w2 ⟨rfl, rfl⟩
  go_wp2_with fail
  refine ⟨hcur.alloc (by omega) _, plan_calms (by simp [calmRow, need]; rfl) ?_⟩
  go_wp2_with fail
  refine plan_end ?_
  go_wp2_with fail
  go_ret
  exact ⟨rfl, (b0.trans (hcur.mono (by omega))).alloc (by omega) _⟩

/-- what bytes begin with, as a loc: the two numbers, how many bytes, the error -/
def locGetP (l : List UInt8) : Nat × Nat × Nat × Nat :=
  if (getP l).2.2 ≠ 0 ∨ (getP l).1 = 0 then (0, 0, (getP l).2.1, (getP l).2.2)
  else if (getP (l.drop (getP l).2.1)).2.2 ≠ 0 then (0, 0, 0, (getP (l.drop (getP l).2.1)).2.2)
  else if mayL (getP l).1 ((getP (l.drop (getP l).2.1)).1 + 16) then ((getP l).1, (getP (l.drop (getP l).2.1)).1 + 16, (getP l).2.1 + (getP (l.drop (getP l).2.1)).2.1, 0) else (0, 0, 0, 5)

def locB (a : List UInt8) (s o : Nat) : List UInt8 := if mayL s o then (if noneB s o then a ++ pform s else a ++ pform s ++ pform (o - 16)) else []
def RetLoc (w : World) (n : Nat) (xs : List Value) (code : Nat) (e : Ending) (w' : World) : Prop := ∃ v, e = .returned (.tuple #[v, .int .i64 (code : Int)]) ∧ w'.ownsRow w.heap.size 5 1 v n xs ∧ Below w.heap.size w w'
theorem putL_any (a : List UInt8) (A : Option Addr) (n c : Nat) (s o : Nat) (w : World) (h : Rd w w.heap.size 1 A n (bcells a)) (hn : n + 18 ≤ 140737488355328) :
    Calls Try.prog 11 #[.slice A n c, locV s o] w (RetLoc w (locB a s o).length (bcells (locB a s o)) (if mayL s o then 0 else 1)) := by
  have hln := h.1
  rw [bcells_len, Nat.mul_one] at hln
  have H1 := fun W => Lib.hid (may_any s o W)
  have H2 := fun W => Lib.hid (none_any s o W)
  have hlt := @mayL_lt s o
  have hst : mayL s o = true → noneB s o = false → 16 ≤ o := fun h1 h2 => by
    unfold mayL at h1
    rw [h2, Bool.false_or] at h1
    unfold standsB at h1
    simp only [decide_eq_true_eq] at h1
    omega
  obtain ⟨R, hR⟩ : ∃ R, R = locB a s o := ⟨_, rfl⟩
  rw [← hR]
  unfold locB at hR
  obtain ⟨b, hb⟩ : ∃ b, b = mayL s o := ⟨_, rfl⟩
  obtain ⟨b2, hb2⟩ : ∃ b, b = noneB s o := ⟨_, rfl⟩
  rw [← hb, ← hb2] at hR
  rw [← hb]
  rw [← hb] at H1 hlt hst
  rw [← hb2] at H2 hst
  clear hb hb2
  unfold locV at *
  have q0 := Blk.new w 24 #[.int .u32 (s : Int), .int .u32 (o : Int)]
  have b0 := (Below.refl w.heap.size w).alloc (Nat.le_refl _) (.cells #[.int .u32 (s : Int), .int .u32 (o : Int)] 24)
  have h0 := h.allocs (.cells #[.int .u32 (s : Int), .int .u32 (o : Int)] 24)
  generalize hw0 : w.alloc (.cells #[.int .u32 (s : Int), .int .u32 (o : Int)] 24) = w0 at *
  have HW0 := Lib.hid hw0
  clear hw0
  cases b
  · clear hlt hst
    obtain rfl : R = [] := hR
    go_enter Try.func11, Try.ntmps11
    go_wp2_with fail
    rw [HW0.out]
    refine (H1 _).out.mono ?_
    rintro e w1 ⟨rfl, b1⟩
    go_wp2_with fail
    go_ret2
    exact ⟨_, rfl, World.ownsRow_nil _ _ _ _, b0.trans (b1.mono b0.size)⟩
  · obtain ⟨l1, l2⟩ := hlt rfl
    clear hlt
    have HP := fun W r => Lib.hid (put_any a A n c s (by omega) W r (by omega))
    cases b2
    · have l3 := hst rfl rfl
      obtain ⟨m, hm⟩ : ∃ m, m = o - 16 := ⟨_, rfl⟩
      have hom : (o : Int) - 16 = (m : Int) := by omega
      have hps := psize_le s
      have HR := Lib.hid (show R = a ++ pform s ++ pform m by rw [hR, hm]; rfl)
      have HQ := fun A' c' W r => Lib.hid (put_any (a ++ pform s) A' (n + psize s) c' m (by omega) W r (by omega))
      clear hm hst hR
      go_enter Try.func11, Try.ntmps11
      go_wp2_with fail
      rw [HW0.out]
      refine (H1 _).out.mono ?_
      rintro e w1 ⟨rfl, b1⟩
      have q1 := q0.after b1
      have c0 := q1.cell 0
      have c1 := q1.cell 1
      go_wp2_with fail
      refine (HP _ (h0.after b1)).out.mono ?_
      rintro e w2 ⟨v2, rfl, o2, b2⟩
      have q2 := q1.after b2
      have c0' := q2.cell 0
      have c1' := q2.cell 1
      go_wp2_with fail
      refine (H2 _).out.mono ?_
      rintro e w3 ⟨rfl, b3⟩
      have q3 := q2.after b3
      have c1'' := q3.cell 1
      have o3 := Ow.after o2 b3
      obtain ⟨g2, cc2, rfl, _, _⟩ := own_ptr o2 (by have := psize_pos s; omega)
      go_wp2_with fail
      refine (HQ _ _ _ (own_rd o3)).out.mono ?_
      rintro e w4 ⟨v4, rfl, o4, b4⟩
      go_wp2_with fail
      go_ret2
      have hbw := belowGo (belowGo b1 b2) b3
      have hbx := belowGo hbw b4
      refine ⟨_, rfl, ?_, b0.trans (hbx.mono b0.size)⟩
      have e1 : R.length = n + psize s + psize m := by rw [HR.out]; simp [pform_len, hln]; omega
      rw [e1, HR.out]
      exact own_low o4 (by have := b0.size; have := hbw.size; omega)
    · have HR := Lib.hid (show R = a ++ pform s from hR)
      clear hst hR
      go_enter Try.func11, Try.ntmps11
      go_wp2_with fail
      rw [HW0.out]
      refine (H1 _).out.mono ?_
      rintro e w1 ⟨rfl, b1⟩
      have q1 := q0.after b1
      have c0 := q1.cell 0
      have c1 := q1.cell 1
      go_wp2_with fail
      refine (HP _ (h0.after b1)).out.mono ?_
      rintro e w2 ⟨v2, rfl, o2, b2⟩
      have q2 := q1.after b2
      have c0' := q2.cell 0
      have c1' := q2.cell 1
      go_wp2_with fail
      refine (H2 _).out.mono ?_
      rintro e w3 ⟨rfl, b3⟩
      have o3 := Ow.after o2 b3
      go_wp2_with fail
      go_ret2
      have hbw := belowGo (belowGo b1 b2) b3
      refine ⟨_, rfl, ?_, b0.trans (hbw.mono b0.size)⟩
      have e1 : R.length = n + psize s := by rw [HR.out]; simp [pform_len, hln]
      rw [e1, HR.out]
      exact own_low o3 (by have := b0.size; have := b1.size; omega)

theorem Rd.bdrop {w : World} {B n b off : Nat} {l : List UInt8} (h : Rd w B 1 (some ⟨b, off, none⟩) n (bcells l)) {k : Nat} (hk : k ≤ n) : Rd w B 1 (some ⟨b, off + k, none⟩) (n - k) (bcells (l.drop k)) := by
  have := h.drop hk
  unfold bcells at this ⊢
  rw [Nat.mul_one] at this
  rw [List.map_drop]
  exact this
theorem getP_n_le (l : List UInt8) : (getP l).2.1 ≤ l.length := by
  unfold getP
  split
  · simp
  · split
    · simp
    · rename_i h
      split
      · exact Nat.le_of_not_lt h
      · simp
theorem getP_pos (l : List UInt8) (h : (getP l).2.2 = 0) : 1 ≤ (getP l).2.1 ∧ 0 < l.length := by
  unfold getP at h ⊢
  split at h
  · cases h
  · rename_i h0
    split at h
    · cases h
    · rename_i h1
      split at h
      · rename_i h2
        rw [if_neg h0, if_neg h1, if_pos h2]
        exact ⟨by rw [← h2]; exact psize_pos _, by omega⟩
      · cases h
theorem getP_lt (l : List UInt8) : (getP l).1 < 18446744073709551616 := by
  unfold getP
  have hg : ∀ k, getNum l k < 18446744073709551616 := fun k => by
    unfold getNum
    split
    · exact Nat.lt_of_le_of_lt (Nat.mod_le _ _) (Nat.mod_lt _ (by decide))
    · exact Nat.mod_lt _ (by decide)
  split
  · simp
  · split
    · simp
    · split
      · exact hg _
      · simp
theorem narrow32 (n : Nat) : narrowE n 32 = (if n < 4294967296 then 0 else 3) ∧ narrowN n 32 = (if n < 4294967296 then n else 0) := by
  unfold narrowE narrowN fits
  simp
theorem narrow31 (n : Nat) : narrowE n 31 = (if n < 2147483648 then 0 else 3) ∧ narrowN n 31 = (if n < 2147483648 then n else 0) := by
  unfold narrowE narrowN fits
  simp

set_option maxRecDepth 10000 in
theorem run_low (W : World) {b off n c k : Nat} (hk : k ≤ n) (_hc : n ≤ c) : (Instr.sliceAt 30 (.slice (some ⟨b, off, none⟩) n c) (some (.int .i64 (k : Int))) none none).run Try.prog W = .ok (.slice (if c = k then some ⟨b, off, none⟩ else some ⟨b, off + k, none⟩) (n - k) (c - k)) W := by
  have e2 : (sizeOf (Try.prog.elem 30)).run Try.prog W = .ok 1 W := run_sizeOf W (i := (Try.prog.info? 5).get!) (by kernel_rfl)
  rw [run_sliceAt_slice W _ _ _ _ _ (by kernel_rfl), run_slice_l W 30 _ _ _ (by kernel_rfl) .i64 (k : Int) (by omega) (by omega), e2]
  simp only [Result.andThen, sliced, Int.toNat_natCast]
  by_cases h : c = k
  · simp [h]
  · simp [h, add_none]
def RetGet (s o n code : Nat) (w : World) (e : Ending) (w' : World) : Prop := e = .returned (.tuple #[locV s o, .int .i64 (n : Int), .int .i64 (code : Int)]) ∧ Below w.heap.size w w'
set_option maxRecDepth 100000 in
set_option maxHeartbeats 4000000 in
theorem getL_any (l : List UInt8) (A : Option Addr) (n c : Nat) (w : World) (hnc : n ≤ c) (h : Rd w w.heap.size 1 A n (bcells l)) :
    Calls Try.prog 16 #[.slice A n c] w (RetGet (locGetP l).1 (locGetP l).2.1 (locGetP l).2.2.1 (locGetP l).2.2.2 w) := by
  have hln := h.1
  have hmx := h.2.1
  unfold maxLen at hmx
  rw [bcells_len, Nat.mul_one] at hln
  obtain ⟨⟨s, o, m, E⟩, hR⟩ : ∃ R, R = locGetP l := ⟨_, rfl⟩
  rw [← hR]
  simp only
  unfold locGetP at hR
  have hle := getP_n_le l
  have hlt := getP_lt l
  have HG := fun W r => Lib.hid (get_any l A n c W hnc r)
  have HD := fun A' n' c' W h1 r => Lib.hid (get_any (l.drop (getP l).2.1) A' n' c' W h1 r)
  have hle2 := getP_n_le (l.drop (getP l).2.1)
  have hlt2 := getP_lt (l.drop (getP l).2.1)
  generalize hp : getP (l.drop (getP l).2.1) = p2 at *
  generalize hp1 : getP l = p1 at *
  obtain ⟨g1, k1, e1⟩ := p1
  obtain ⟨g2, k2, e2⟩ := p2
  simp only at *
  have hk1 : k1 ≤ n := by omega
  have hk2 : k2 ≤ n - k1 := by rw [List.length_drop] at hle2; omega
  have hpos := getP_pos l
  rw [hp1] at hpos
  simp only at hpos
  clear hp hp1 hle hle2
  have Q0 := Blk.new w 24 #[.int .u32 0, .int .u32 0]
  have B0 := (Below.refl w.heap.size w).alloc (Nat.le_refl _) (.cells #[.int .u32 0, .int .u32 0] 24)
  have h0 := h.allocs (.cells #[.int .u32 0, .int .u32 0] 24)
  have HR := Lib.hid hR
  have HP := Lib.hid hpos
  clear hR hpos h
  by_cases he1 : e1 = 0
  · subst he1
    obtain ⟨hk1', hn0⟩ := HP.out rfl
    by_cases hg : g1 = 0
    · subst hg
      obtain ⟨rfl, rfl, rfl, rfl⟩ : s = 0 ∧ o = 0 ∧ m = k1 ∧ E = 0 := by have := HR.out; simpa using this
      clear HR HP
      have c0 := Q0.cell 0
      have c1 := Q0.cell 1
      have f0 := Q0.frozen 0
      have f1 := Q0.frozen 1
      go_enter Try.func16, Try.ntmps16
      go_wp2_with fail
      generalize w.alloc (.cells #[.int .u32 0, .int .u32 0] 24) = w0 at *
      refine (HG _ h0).out.mono ?_
      rintro e w1 ⟨rfl, rfl⟩
      go_wp2_with fail
      exact bodyPost_ret (results_cell3 rfl rfl (res_load (cs := #[.int .u32 0, .int .u32 0]) ((Q0.set_ 0 _).set_ 1 _) Try.underlying24 rfl (by kernel_rfl))) rfl ⟨rfl, (B0.setCell (p := ⟨w.heap.size, 0, none⟩) (by simp) _).setCell (p := ⟨w.heap.size, 1, none⟩) (by simp) _⟩
    · obtain ⟨b, off, rfl, hblk, _⟩ := h0.2.2 (by omega)
      clear hblk
      obtain ⟨A', hA', hR'⟩ : ∃ A' : Option Addr, (if c = k1 then (some ⟨b, off, none⟩ : Option Addr) else some ⟨b, off + k1, none⟩) = A' ∧ ∀ W, Rd W W.heap.size 1 (some ⟨b, off, none⟩) n (bcells l) → Rd W W.heap.size 1 A' (n - k1) (bcells (l.drop k1)) := by
        refine ⟨_, rfl, fun W r => ?_⟩
        by_cases hc : c = k1
        · have : n - k1 = 0 := by omega
          rw [if_pos hc, this, List.drop_of_length_le (by omega)]
          exact Rd.nil_ _ _ _ _
        · rw [if_neg hc]
          exact r.bdrop hk1
      have hSl : ∀ W : World, (Instr.sliceAt 30 (.slice (some ⟨b, off, none⟩) n c) (some (.int .i64 (k1 : Int))) none none).run Try.prog W = .ok (.slice A' (n - k1) (c - k1)) W := fun W => by
        rw [← hA']
        exact run_low W hk1 hnc
      have c0 := Q0.cell 0
      have c1 := Q0.cell 1
      have f0 := Q0.frozen 0
      have f1 := Q0.frozen 1
      have i1 : ((g1 : Int) == 0) = false := by simp; omega
      go_enter Try.func16, Try.ntmps16
      go_wp2_with fail
      generalize w.alloc (.cells #[.int .u32 0, .int .u32 0] 24) = w0 at *
      refine (HG _ h0).out.mono ?_
      rintro e w1 ⟨rfl, rfl⟩
      go_wp2_with fail
      have HD2 := fun W r => Lib.hid (HD A' (n - k1) (c - k1) W (by omega) r).out
      clear HD hSl hA'
      refine (HD2 _ (hR' _ h0)).out.mono ?_
      rintro e w1 ⟨rfl, rfl⟩
      by_cases he2 : e2 = 0
      · subst he2
        obtain ⟨n1, n2⟩ := narrow32 g1
        obtain ⟨n3, n4⟩ := narrow31 g2
        have HN1 := Lib.hid (narrow_any g1 hlt 32 w0)
        have HN2 := Lib.hid (narrow_any g2 hlt2 31 w0)
        rw [n1, n2] at HN1
        rw [n3, n4] at HN2
        clear n1 n2 n3 n4
        by_cases hs : g1 < 4294967296 ∧ g2 < 2147483648
        · obtain ⟨hs1, hs2⟩ := hs
          rw [if_pos hs1, if_pos hs1] at HN1
          rw [if_pos hs2, if_pos hs2] at HN2
          have HT := fun W => Lib.hid (told_any g1 (g2 + 16) 5 W)
          have HR2 := Lib.hid (show (s, o, m, E) = if mayL g1 (g2 + 16) then (g1, g2 + 16, k1 + k2, 0) else (0, 0, 0, 5) by have := HR.out; simpa [hg] using this)
          clear HR HP
          generalize mayL g1 (g2 + 16) = bt at *
          unfold locV at HT
          cases bt
          · obtain ⟨rfl, rfl, rfl, rfl⟩ : s = 0 ∧ o = 0 ∧ m = 0 ∧ E = 5 := by have := HR2.out; simpa using this
            clear HR2
            go_wp2_with fail
            refine HN1.out.mono ?_
            rintro e w1 ⟨rfl, rfl⟩
            go_wp2_with fail
            refine HN2.out.mono ?_
            rintro e w1 ⟨rfl, rfl⟩
            go_wp2_with fail
            refine (HT _).out.mono ?_
            rintro e w2 ⟨rfl, b2⟩
            have Q1 := Q0.after b2
            have B1 := B0.trans (b2.mono B0.size)
            have hz : w.heap.size < w2.heap.size := Q1.lt
            have c0 := Q1.cell 0
            have c1 := Q1.cell 1
            have f0 := Q1.frozen 0
            have f1 := Q1.frozen 1
            go_wp2_with fail
            exact bodyPost_ret (results_cell3 rfl rfl (res_load (cs := #[.int .u32 0, .int .u32 0]) (((Q1.set_ 0 _).set_ 1 _).alloc _) Try.underlying24 rfl (by kernel_rfl))) rfl ⟨rfl, ((B1.setCell (p := ⟨w.heap.size, 0, none⟩) (by simp) _).setCell (p := ⟨w.heap.size, 1, none⟩) (by simp) _).alloc (by simp; omega) _⟩
          · obtain ⟨rfl, rfl, rfl, rfl⟩ : s = g1 ∧ o = g2 + 16 ∧ m = k1 + k2 ∧ E = 0 := by have := HR2.out; simpa using this
            clear HR2
            go_wp2_with fail
            refine HN1.out.mono ?_
            rintro e w1 ⟨rfl, rfl⟩
            go_wp2_with fail
            refine HN2.out.mono ?_
            rintro e w1 ⟨rfl, rfl⟩
            go_wp2_with fail
            refine (HT _).out.mono ?_
            rintro e w2 ⟨rfl, b2⟩
            have Q1 := Q0.after b2
            have B1 := B0.trans (b2.mono B0.size)
            have hz : w.heap.size < w2.heap.size := Q1.lt
            have c0 := Q1.cell 0
            have c1 := Q1.cell 1
            have f0 := Q1.frozen 0
            have f1 := Q1.frozen 1
            go_wp2_with fail
            exact bodyPost_ret (results_cell3 rfl rfl (res_load (cs := #[.int .u32 (s : Int), .int .u32 ((g2 + 16 : Nat) : Int)]) (((Q1.set_ 0 _).set_ 1 _).alloc _) Try.underlying24 rfl (by kernel_rfl))) rfl ⟨rfl, ((B1.setCell (p := ⟨w.heap.size, 0, none⟩) (by simp) _).setCell (p := ⟨w.heap.size, 1, none⟩) (by simp) _).alloc (by simp; omega) _⟩
        · have hnm : mayL g1 (g2 + 16) = false := by
            unfold mayL noneB standsB
            simp only [Bool.or_eq_false_iff, decide_eq_false_iff_not]
            omega
          obtain ⟨rfl, rfl, rfl, rfl⟩ : s = 0 ∧ o = 0 ∧ m = 0 ∧ E = 5 := by have := HR.out; simpa [hg, hnm] using this
          clear HR HP hnm
          by_cases hs1 : g1 < 4294967296
          · have hs2 : ¬ g2 < 2147483648 := by omega
            rw [if_pos hs1, if_pos hs1] at HN1
            rw [if_neg hs2, if_neg hs2] at HN2
            go_wp2_with fail
            refine HN1.out.mono ?_
            rintro e w1 ⟨rfl, rfl⟩
            go_wp2_with fail
            refine HN2.out.mono ?_
            rintro e w1 ⟨rfl, rfl⟩
            go_wp2_with fail
            exact bodyPost_ret (results_cell3 rfl rfl (res_load (cs := #[.int .u32 0, .int .u32 0]) ((Q0.set_ 0 _).set_ 1 _) Try.underlying24 rfl (by kernel_rfl))) rfl ⟨rfl, (B0.setCell (p := ⟨w.heap.size, 0, none⟩) (by simp) _).setCell (p := ⟨w.heap.size, 1, none⟩) (by simp) _⟩
          · rw [if_neg hs1, if_neg hs1] at HN1
            generalize (if g2 < 2147483648 then 0 else 3) = n3 at *
            generalize (if g2 < 2147483648 then g2 else 0) = n4 at *
            go_wp2_with fail
            refine HN1.out.mono ?_
            rintro e w1 ⟨rfl, rfl⟩
            go_wp2_with fail
            refine HN2.out.mono ?_
            rintro e w1 ⟨rfl, rfl⟩
            go_wp2_with fail
            exact bodyPost_ret (results_cell3 rfl rfl (res_load (cs := #[.int .u32 0, .int .u32 0]) ((Q0.set_ 0 _).set_ 1 _) Try.underlying24 rfl (by kernel_rfl))) rfl ⟨rfl, (B0.setCell (p := ⟨w.heap.size, 0, none⟩) (by simp) _).setCell (p := ⟨w.heap.size, 1, none⟩) (by simp) _⟩
      · obtain ⟨rfl, rfl, rfl, rfl⟩ : s = 0 ∧ o = 0 ∧ m = 0 ∧ E = e2 := by have := HR.out; simpa [hg, he2] using this
        clear HR HP
        have i2 : ((E : Int) != 0) = true := by simp; omega
        go_wp2_with fail
        exact bodyPost_ret (results_cell3 rfl rfl (res_load (cs := #[.int .u32 0, .int .u32 0]) ((Q0.set_ 0 _).set_ 1 _) Try.underlying24 rfl (by kernel_rfl))) rfl ⟨rfl, (B0.setCell (p := ⟨w.heap.size, 0, none⟩) (by simp) _).setCell (p := ⟨w.heap.size, 1, none⟩) (by simp) _⟩
  · obtain ⟨rfl, rfl, rfl, rfl⟩ : s = 0 ∧ o = 0 ∧ m = k1 ∧ E = e1 := by have := HR.out; simpa [he1] using this
    clear HR HP
    have i2 : ((E : Int) != 0) = true := by simp; omega
    have c0 := Q0.cell 0
    have c1 := Q0.cell 1
    have f0 := Q0.frozen 0
    have f1 := Q0.frozen 1
    go_enter Try.func16, Try.ntmps16
    go_wp2_with fail
    generalize w.alloc (.cells #[.int .u32 0, .int .u32 0] 24) = w0 at *
    refine (HG _ h0).out.mono ?_
    rintro e w1 ⟨rfl, rfl⟩
    go_wp2_with fail
    exact bodyPost_ret (results_cell3 rfl rfl (res_load (cs := #[.int .u32 0, .int .u32 0]) ((Q0.set_ 0 _).set_ 1 _) Try.underlying24 rfl (by kernel_rfl))) rfl ⟨rfl, (B0.setCell (p := ⟨w.heap.size, 0, none⟩) (by simp) _).setCell (p := ⟨w.heap.size, 1, none⟩) (by simp) _⟩
end Go.Proofs.Ytohddbehcfoecaa
