/- What the law EditCalls comes to: true. -/
import Derived.Test.YtedjolkkidciiaaEdR4
import Derived.Test.YtedjolkkidciiaaEdR5
import Derived.Test.YtedjolkkidciiaaEdSame
import Derived.Test.YtedjolkkidciiaaEdFew
import Derived.Test.YtedjolkkidciiaaEd11
namespace Go.Proofs.Ytedjolkkidciiaa
open Go.RowKit
attribute [local go_sem] Oper.semAt_some

theorem same_me (d : Ed) (hd : d.fits) (A : Option Addr) (n c : Nat) (A' : Option Addr) (c' : Nat) (w : World) (hln : d.seals.length = n) (r : Rd w w.heap.size 5 A n (slCells d.seals)) (r' : Rd w w.heap.size 5 A' n (slCells d.seals)) (hn : n ≤ 1000000) :
    Calls Try.prog 21 #[.agg (edC d ⟨d.name.toArray⟩ (.slice A n c)), .agg (edC d ⟨d.name.toArray⟩ (.slice A' n c'))] w fun e w' => e = .returned (.bool true) ∧ Below w.heap.size w w' :=
  (same_any d d hd hd A n c A' n c' w hln hln r r' hn).mono fun _ _ h => ⟨by rw [h.1, decide_eq_true rfl], h.2⟩
theorem run_bool_eq (p q : Operand) (b : Bool) (W : World) : (do eqGuard .eql 4 p q (.bool b) (.bool b); binOp .eql 4 (.bool b) (.bool b) : Sem Value).run Try.prog W = .ok (.bool true) W := by
  cases b <;> rfl
theorem Rd.slTake {w : World} {B n : Nat} {A : Option Addr} {l : List Sl} (h : Rd w B 5 A n (slCells l)) (k : Nat) (hk : k ≤ n) : Rd w B 5 A k (slCells (l.take k)) := by
  rw [slCells_take]
  exact h.take hk

set_option maxRecDepth 100000 in
set_option maxHeartbeats 8000000 in
theorem calls_walk (d d' : Ed) (s : Sl) (hsf : s.fits) (hd : d.fits0) (hd' : d'.fits0) (A : Option Addr) (n c : Nat) (A' : Option Addr) (n' c' : Nat) (w : World) (hln : d.seals.length = n) (hmn : d'.seals.length = n') (hnc : n ≤ c) (hnc' : n' ≤ c') (r : Rd w w.heap.size 5 A n (slCells d.seals)) (r' : Rd w w.heap.size 5 A' n' (slCells d'.seals)) :
    Calls Try.prog 6 #[.agg (edC d ⟨d.name.toArray⟩ (.slice A n c)), .agg (edC d' ⟨d'.name.toArray⟩ (.slice A' n' c')), .agg s.cells.toArray] w fun e w' => e = .returned (.bool true) ∧ Below w.heap.size w w' := by
  have hmx := r.2.1
  have hmx' := r'.2.1
  unfold maxLen at hmx hmx'
  have HF := fun W => Lib.hid (few_any d A n c W hln hnc (by omega) hd.2.2.1)
  have HF' := fun W => Lib.hid (few_any d' A' n' c' W hmn hnc' (by omega) hd'.2.2.1)
  have fa := fewE_fits hd
  have fb := fewE_fits hd'
  have hal : (fewE d).seals.length = min 210 n := by unfold fewE; simp only [List.length_take, hln]
  have hbl : (fewE d').seals.length = min 210 n' := by unfold fewE; simp only [List.length_take, hmn]
  have ra : Rd w w.heap.size 5 A (fewE d).seals.length (slCells (fewE d).seals) := by
    rw [hal]
    have := r.slTake (min 210 n) (by omega)
    unfold fewE
    dsimp only
    rwa [show d.seals.take 210 = d.seals.take (min 210 n) by rw [← hln]; simp]
  have rb : Rd w w.heap.size 5 A' (fewE d').seals.length (slCells (fewE d').seals) := by
    rw [hbl]
    have := r'.slTake (min 210 n') (by omega)
    unfold fewE
    dsimp only
    rwa [show d'.seals.take 210 = d'.seals.take (min 210 n') by rw [← hmn]; simp]
  obtain ⟨E, hE⟩ : ∃ E, E = edC d ⟨d.name.toArray⟩ (.slice A n c) := ⟨_, rfl⟩
  obtain ⟨E', hE'⟩ : ∃ E, E = edC d' ⟨d'.name.toArray⟩ (.slice A' n' c') := ⟨_, rfl⟩
  have hz : E.size = 5 := by rw [hE]; rfl
  have hz' : E'.size = 5 := by rw [hE']; rfl
  rw [← hE, ← hE']
  rw [← hE] at HF
  rw [← hE'] at HF'
  unfold RetFew at HF HF'
  clear hE hE' r r'
  generalize fewE d = a at *
  generalize fewE d' = b at *
  obtain ⟨l1, hl1⟩ : ∃ l, l = a.seals.length := ⟨_, rfl⟩
  obtain ⟨l2, hl2⟩ : ∃ l, l = b.seals.length := ⟨_, rfl⟩
  rw [← hl1] at HF ra hal
  rw [← hl2] at HF' rb hbl
  have hc1 : l1 ≤ c := by omega
  have hc2 : l2 ≤ c' := by omega
  have h210 : l1 ≤ 210 := by omega
  obtain ⟨X, hX⟩ : ∃ E, E = edC a ⟨a.name.toArray⟩ (.slice A l1 c) := ⟨_, rfl⟩
  obtain ⟨Y, hY⟩ : ∃ E, E = edC b ⟨b.name.toArray⟩ (.slice A' l2 c') := ⟨_, rfl⟩
  rw [← hX] at HF
  rw [← hY] at HF'
  have hzx : X.size = 5 := by rw [hX]; rfl
  have hzy : Y.size = 5 := by rw [hY]; rfl
  have hox : X.all (·.oneCell') = true := by rw [hX]; simp [edC, Value.oneCell']
  have hoy : Y.all (·.oneCell') = true := by rw [hY]; simp [edC, Value.oneCell']
  have PA := fun W (h : Below w.heap.size w W) => Lib.hid (putEd_any a fa A l1 c W hl1.symm ((ra.below h (Nat.le_refl _)).more h.size) hc1)
  have PR := fun W (h : Below w.heap.size w W) => Lib.hid (rputEd_any a fa A l1 c W hl1.symm ((ra.below h (Nat.le_refl _)).more h.size) hc1)
  have MA := fun W (h : Below w.heap.size w W) => Lib.hid (mayEd_any a fa A l1 c W hl1.symm ((ra.below h (Nat.le_refl _)).more h.size) hc1)
  have MR := fun W (h : Below w.heap.size w W) => Lib.hid (rmayEd_any a fa.1 fa.2.1 fa.2.2.1 fa.2.2.2 A l1 c W hl1.symm ((ra.below h (Nat.le_refl _)).more h.size) hc1)
  have SM := fun W (h : Below w.heap.size w W) => Lib.hid (same_any a b fa fb A l1 c A' l2 c' W hl1.symm hl2.symm ((ra.below h (Nat.le_refl _)).more h.size) ((rb.below h (Nat.le_refl _)).more h.size) (by omega))
  have SR := fun W (h : Below w.heap.size w W) => Lib.hid (rsame_any a b fa fb A l1 c A' l2 c' W hl1.symm hl2.symm ((ra.below h (Nat.le_refl _)).more h.size) ((rb.below h (Nat.le_refl _)).more h.size) (by omega))
  have SS := fun W (h : Below w.heap.size w W) => Lib.hid (same_me a fa A l1 c A c W hl1.symm ((ra.below h (Nat.le_refl _)).more h.size) ((ra.below h (Nat.le_refl _)).more h.size) (by omega))
  have QS := fun W => Lib.hid (maySl_any s hsf W)
  have QR := fun W => Lib.hid (rmaySl_any s hsf W)
  rw [← hX] at PA PR MA MR SS
  rw [← hX, ← hY] at SM SR
  obtain ⟨Z, hZ⟩ : ∃ Z, Z = s.cells.toArray := ⟨_, rfl⟩
  have hzz : Z.size = 5 := by rw [hZ]; rfl
  rw [← hZ] at QS QR ⊢
  clear hX hY hZ hal hbl hl1 hl2 ra rb fa fb hln hmn hd hd' hmx hmx' hsf
  have q1 := ((Blk.new w 28 E).alloc (.cells E' 28)).alloc (.cells Z 40)
  have hb := belowAlloc (belowAlloc (belowAlloc (Below.refl w.heap.size w) (.cells E 28)) (.cells E' 28)) (.cells Z 40)
  have q2 := (Blk.newAt (w.alloc (.cells E 28)) 28 E' (g := w.heap.size + 1) (by simp)).alloc (.cells Z 40)
  have q3 := Blk.newAt ((w.alloc (.cells E 28)).alloc (.cells E' 28)) 40 Z (g := w.heap.size + 1 + 1) (by simp)
  go_enter Try.func6, Try.ntmps6
  go_upto_region 1 with (fail)
  generalize ((w.alloc (.cells E 28)).alloc (.cells E' 28)).alloc (.cells Z 40) = w2 at *
  have q1 : Blk w2.drew w.heap.size 28 E := q1
  have q2 : Blk w2.drew (w.heap.size + 1) 28 E' := q2
  have q3 : Blk w2.drew (w.heap.size + 1 + 1) 40 Z := q3
  have hb : Below w.heap.size w w2.drew := ⟨hb.os, hb.tape, hb.output, hb.size, hb.block⟩
  have hcur := Below.refl w2.drew.heap.size w2.drew
  refine wp_region_plan (fun W => Below w2.drew.heap.size w2.drew W) [.read 0, .read 2, .act 1, .act 3, .act 4, .act 5] (by kernel_rfl) (by rfl) (by kernel_rfl) (by kernel_rfl) hcur ?_
  generalize w2.drew = w3 at *
  refine plan_read (by rfl) (.agg E) (by rfl) (fun W hW => exec_load_blk rfl rfl (q1.after hW) Try.underlying28 rfl (by rw [hz]; kernel_rfl)) ?_
  refine plan_read (by rfl) (.agg E') (by rfl) (fun W hW => exec_load_blk rfl rfl (q2.after hW) Try.underlying28 rfl (by rw [hz']; kernel_rfl)) ?_
  have Q1 := Lib.hid q1
  have Q2 := Lib.hid q2
  have HB := Lib.hid hb
  have Q3 := Lib.hid q3
  clear q1 q2 q3 hb
  refine plan_act (by rfl) ?_
  go_wp2_with fail
  refine (HF w3).out.mono ?_
  rintro e w4 ⟨rfl, b4⟩
  have hcur := belowGo hcur b4
  go_wp2_with fail
  refine ⟨hcur, ?_⟩
  refine plan_act (by rfl) ?_
  go_wp2_with fail
  refine (HF' w4).out.mono ?_
  rintro e w5 ⟨rfl, b5⟩
  have hcur := belowGo hcur b5
  go_wp2_with fail
  refine ⟨hcur, ?_⟩
  have q1 := Q1.out.after hcur
  have q2 := Q2.out.after hcur
  have q3 := Q3.out.after hcur
  have hb := belowGo HB.out hcur
  have Q1 := Lib.hid q1
  refine plan_last (by rfl) (by kernel_rfl) ?_
  refine wpList_storeB rfl 28 (.tmp 3) (.tmp 12) rfl rfl rfl Q1.out (by rw [hzx]; kernel_rfl) (by rw [hz, hzx]) hox ?_
  refine plan_done ?_
  have q2 : Blk (w5.setRow w.heap.size X) (w.heap.size + 1) 28 E' := (row_other (by omega) X).trans q2
  have Q2 := Lib.hid q2
  refine plan_last (by rfl) (by kernel_rfl) ?_
  refine wpList_storeB rfl 28 (.tmp 4) (.tmp 14) rfl rfl rfl Q2.out (by rw [hzy]; kernel_rfl) (by rw [hz', hzy]) hoy ?_
  refine plan_done (plan_end ?_)
  have q2 := Q2.out.row Y
  have q1 : Blk ((w5.setRow w.heap.size X).setRow (w.heap.size + 1) Y) w.heap.size 28 X := (row_other (by omega) Y).trans (Q1.out.row X)
  have q3 : Blk ((w5.setRow w.heap.size X).setRow (w.heap.size + 1) Y) (w.heap.size + 1 + 1) 40 Z := (row_other (by omega) Y).trans ((row_other (by omega) X).trans q3)
  have hb := row_below (row_below hb (Nat.le_refl _) X) (show w.heap.size ≤ w.heap.size + 1 by omega) Y
  clear Q1 Q2 HB hcur b4 b5 HF HF' hox hoy
  generalize (w5.setRow w.heap.size X).setRow (w.heap.size + 1) Y = w6 at *
  have Q1 := Lib.hid q1
  have Q2 := Lib.hid q2
  have HB := Lib.hid hb
  have Q3 := Lib.hid q3
  clear q1 q2 q3
  have P1 := PA w6 hb
  go_wp2_with (first
    | (refine wpList_value rfl (exec_load_blk rfl rfl Q1.out Try.underlying28 rfl (by rw [hzx]; kernel_rfl)) ?_)
    | fail)
  refine P1.out.mono ?_
  rintro e w7 ⟨v1, rfl, o1, b7⟩
  obtain ⟨k1, hk1⟩ : ∃ k, k = (if mayEd a = true then (0 : Int) else 1) := ⟨_, rfl⟩
  obtain ⟨B1, hB1⟩ : ∃ l, l = putB a := ⟨_, rfl⟩
  rw [← hB1] at o1
  rw [← hk1]
  obtain ⟨A1, c1, rfl, -⟩ := own_cap o1
  have R1 := Lib.hid (Rd.of_own o1)
  have hb := belowGo hb b7
  have Q1 := Lib.hid (Q1.out.after b7)
  have Q2 := Lib.hid (Q2.out.after b7)
  have Q3 := Lib.hid (Q3.out.after b7)
  have P2 := PR w7 hb
  unfold RetPutR at P2
  rw [← hk1, show (if mayEd a = true then edB a else []) = B1 from by rw [hB1]; rfl] at P2
  clear P1 o1 b7 PA PR HB hk1 hB1
  have HB := Lib.hid hb
  clear hb
  go_wp2_with (first
    | (refine wpList_value rfl (exec_load_blk rfl rfl Q1.out Try.underlying28 rfl (by rw [hzx]; kernel_rfl)) ?_)
    | fail)
  refine P2.out.mono ?_
  rintro e w8 ⟨v2, rfl, o2, b8⟩
  obtain ⟨A2, c2, rfl, -⟩ := own_cap o2
  have R2 := Lib.hid (Rd.of_own o2)
  have R1 := Lib.hid (R1.out.after b8)
  have HB := Lib.hid (belowGo HB.out b8)
  have Q1 := Lib.hid (Q1.out.after b8)
  have Q2 := Lib.hid (Q2.out.after b8)
  have Q3 := Lib.hid (Q3.out.after b8)
  clear P2 o2 b8
  go_upto_region 4 with (fail)
  have hbx := HB.out
  have HB : Hid (Below w.heap.size w w8.drew) := Lib.hid ⟨hbx.os, hbx.tape, hbx.output, hbx.size, hbx.block⟩
  have Q1 : Hid (Blk w8.drew _ _ _) := Q1
  have Q2 : Hid (Blk w8.drew _ _ _) := Q2
  have Q3 : Hid (Blk w8.drew _ _ _) := Q3
  have R1 : Hid (Rd w8.drew w8.drew.heap.size _ _ _ _) := R1
  have R2 : Hid (Rd w8.drew w8.drew.heap.size _ _ _ _) := R2
  have hcur := Below.refl w8.drew.heap.size w8.drew
  clear hbx
  refine wp_region_plan (fun W => Below w8.drew.heap.size w8.drew W) [.calms [0, 1], .act 2, .calms [3, 4, 5, 6, 7, 8], .read 9, .read 11, .act 10, .act 12, .read 13, .calms [14, 15], .read 16, .read 17, .read 19, .read 20, .act 18, .act 21, .read 22, .calms [23, 24], .read 25, .read 26, .act 27, .calms [28, 29], .read 30, .read 32, .act 31, .act 33, .read 34, .calms [35, 36], .act 37, .calms [38, 39]] (by kernel_rfl) (by rfl) (by kernel_rfl) (by kernel_rfl) hcur ?_
  generalize w8.drew = w9 at *
  refine plan_calms (by simp [calmRow, need]; rfl) ?_
  go_wp2_with fail
  have E1 := Lib.hid (equal_any B1 B1 A1 B1.length c1 A2 B1.length c2 w9 R1.out R2.out)
  rw [show (B1 == B1) = true by simp] at E1
  refine plan_act (by rfl) ?_
  go_wp2_with fail
  refine E1.out.mono ?_
  rintro e wa ⟨rfl, rfl⟩
  clear E1
  go_wp2_with fail
  refine ⟨hcur, ?_⟩
  refine plan_calms (by simp [calmRow, need, chk]; rfl) ?_
  go_wp2_with fail
  refine plan_read (by rfl) (.agg X) (by rfl) (fun W hW => exec_load_blk rfl rfl (Q1.out.after hW) Try.underlying28 rfl (by rw [hzx]; kernel_rfl)) ?_
  refine plan_read (by rfl) (.agg X) (by rfl) (fun W hW => exec_load_blk rfl rfl (Q1.out.after hW) Try.underlying28 rfl (by rw [hzx]; kernel_rfl)) ?_
  refine plan_act (by rfl) ?_
  go_wp2_with fail
  refine (MA w9 (belowGo HB.out hcur)).out.mono ?_
  rintro e y1 ⟨rfl, by1⟩
  have hcur := belowGo hcur by1
  clear by1
  go_wp2_with fail
  refine ⟨hcur, ?_⟩
  refine plan_act (by rfl) ?_
  go_wp2_with fail
  refine (MR y1 (belowGo HB.out hcur)).out.mono ?_
  rintro e y2 ⟨rfl, by2⟩
  have hcur := belowGo hcur by2
  clear by2
  go_wp2_with fail
  refine ⟨hcur, ?_⟩
  refine plan_read (by rfl) (.bool true) (by rfl) (fun W hW => exec_bin rfl (run_bool_eq _ _ (mayEd a) W)) ?_
  refine plan_calms (by simp [calmRow, need]; rfl) ?_
  go_wp2_with fail
  refine plan_read (by rfl) (.agg X) (by rfl) (fun W hW => exec_load_blk rfl rfl (Q1.out.after hW) Try.underlying28 rfl (by rw [hzx]; kernel_rfl)) ?_
  refine plan_read (by rfl) (.agg Y) (by rfl) (fun W hW => exec_load_blk rfl rfl (Q2.out.after hW) Try.underlying28 rfl (by rw [hzy]; kernel_rfl)) ?_
  refine plan_read (by rfl) (.agg X) (by rfl) (fun W hW => exec_load_blk rfl rfl (Q1.out.after hW) Try.underlying28 rfl (by rw [hzx]; kernel_rfl)) ?_
  refine plan_read (by rfl) (.agg Y) (by rfl) (fun W hW => exec_load_blk rfl rfl (Q2.out.after hW) Try.underlying28 rfl (by rw [hzy]; kernel_rfl)) ?_
  refine plan_act (by rfl) ?_
  go_wp2_with fail
  refine (SM y2 (belowGo HB.out hcur)).out.mono ?_
  rintro e y3 ⟨rfl, by3⟩
  have hcur := belowGo hcur by3
  clear by3
  go_wp2_with fail
  refine ⟨hcur, ?_⟩
  refine plan_act (by rfl) ?_
  go_wp2_with fail
  refine (SR y3 (belowGo HB.out hcur)).out.mono ?_
  rintro e y4 ⟨rfl, by4⟩
  have hcur := belowGo hcur by4
  clear by4
  go_wp2_with fail
  refine ⟨hcur, ?_⟩
  refine plan_read (by rfl) (.bool true) (by rfl) (fun W hW => exec_bin rfl (run_bool_eq _ _ (decide (a = b)) W)) ?_
  refine plan_calms (by simp [calmRow, need]; rfl) ?_
  go_wp2_with fail
  refine plan_read (by rfl) (.agg X) (by rfl) (fun W hW => exec_load_blk rfl rfl (Q1.out.after hW) Try.underlying28 rfl (by rw [hzx]; kernel_rfl)) ?_
  refine plan_read (by rfl) (.agg X) (by rfl) (fun W hW => exec_load_blk rfl rfl (Q1.out.after hW) Try.underlying28 rfl (by rw [hzx]; kernel_rfl)) ?_
  refine plan_act (by rfl) ?_
  go_wp2_with fail
  refine (SS y4 (belowGo HB.out hcur)).out.mono ?_
  rintro e y5 ⟨rfl, by5⟩
  have hcur := belowGo hcur by5
  clear by5
  go_wp2_with fail
  refine ⟨hcur, ?_⟩
  refine plan_calms (by simp [calmRow, need]; rfl) ?_
  go_wp2_with fail
  refine plan_read (by rfl) (.agg Z) (by rfl) (fun W hW => exec_load_blk rfl rfl (Q3.out.after hW) Try.underlying40 rfl (by rw [hzz]; kernel_rfl)) ?_
  refine plan_read (by rfl) (.agg Z) (by rfl) (fun W hW => exec_load_blk rfl rfl (Q3.out.after hW) Try.underlying40 rfl (by rw [hzz]; kernel_rfl)) ?_
  refine plan_act (by rfl) ?_
  go_wp2_with fail
  refine (QS y5).out.mono ?_
  rintro e y6 ⟨rfl, by6⟩
  have hcur := belowGo hcur by6
  clear by6
  go_wp2_with fail
  refine ⟨hcur, ?_⟩
  refine plan_act (by rfl) ?_
  go_wp2_with fail
  refine (QR y6).out.mono ?_
  rintro e y7 ⟨rfl, by7⟩
  have hcur := belowGo hcur by7
  clear by7
  go_wp2_with fail
  refine ⟨hcur, ?_⟩
  refine plan_read (by rfl) (.bool true) (by rfl) (fun W hW => exec_bin rfl (run_bool_eq _ _ (maySl s) W)) ?_
  refine plan_calms (by simp [calmRow, need]; rfl) ?_
  go_wp2_with fail
  have WK := fun W (_ : Below w.heap.size w W) => Lib.hid (wakes_any W)
  refine plan_act (by rfl) ?_
  go_wp2_with fail
  refine (WK y7 (belowGo HB.out hcur)).out.mono ?_
  rintro e y8 ⟨rfl, by8⟩
  have hcur := belowGo hcur by8
  clear by8
  go_wp2_with fail
  refine ⟨hcur, ?_⟩
  refine plan_calms (by simp [calmRow, need]; rfl) ?_
  go_wp2_with fail
  refine plan_end ?_
  go_wp2_with fail
  exact bodyPost_ret (results_tmp rfl _ _ _) rfl ⟨rfl, belowGo HB.out hcur⟩
end Go.Proofs.Ytedjolkkidciiaa
