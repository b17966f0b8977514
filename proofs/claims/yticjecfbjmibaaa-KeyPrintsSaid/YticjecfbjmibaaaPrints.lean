/- What the law KeyPrints comes to: true. -/
import Derived.Test.YticjecfbjmibaaaPrLaw
import Derived.Test.YticjecfbjmibaaaKey3
import Derived.Test.YticjecfbjmibaaaExec
import Derived.StillTailTactics
import Derived.Deep.CutRange
import Derived.Deep.WholeRow
namespace Go.Proofs.Yticjecfbjmibaaa
open Go.RowKit
attribute [local go_sem] Oper.semAt_some

def cutL (l : List UInt8) : List UInt8 := if l.length = 0 then [0] else l.take 64
theorem cutL_ok (l : List UInt8) : KOk (cutL l) := by
  unfold cutL KOk
  split
  · exact ⟨by simp, by simp⟩
  · rw [List.length_take]; omega
def RetCut (w : World) (l : List UInt8) (e : Ending) (w' : World) : Prop :=
  ∃ A c, e = .returned (.slice A (cutL l).length c) ∧ (cutL l).length ≤ c ∧ Rd w' w'.heap.size 1 A (cutL l).length (bcells (cutL l)) ∧ Below w.heap.size w w'
theorem cut_any (l : List UInt8) (A : Option Addr) (n c : Nat) (w : World) (hnc : n ≤ c) (hr : Rd w w.heap.size 1 A n (bcells l)) : Calls Try.prog 15 #[.slice A n c] w (RetCut w l) := by
  have hl := hr.1
  rw [bcells_len, Nat.mul_one] at hl
  by_cases h0 : n = 0
  · subst h0
    have hc : cutL l = [0] := by unfold cutL; rw [hl, if_pos rfl]
    have HC := Lib.hid hc
    clear hc hl
    go_enter Try.func15, Try.ntmps15
    go_wp2
    go_ret
    refine ⟨_, _, by rw [HC.out]; rfl, by rw [HC.out]; decide, ?_, (Below.refl _ _).alloc (Nat.le_refl _) _⟩
    rw [HC.out]
    exact (bcell_rd (Blk.new w 5 #[.int .u8 0]) rfl rfl (by unfold maxLen; omega) : Rd _ _ 1 _ 1 (bcells [0]))
  · obtain ⟨m, hm⟩ : ∃ m, m = min n 64 := ⟨_, rfl⟩
    have hc : cutL l = l.take m := by
      unfold cutL
      rw [if_neg (by omega), hm]
      by_cases h : n ≤ 64
      · rw [show min n 64 = n by omega, List.take_of_length_le (by omega), List.take_of_length_le (by omega)]
      · rw [show min n 64 = 64 by omega]
    have hlm : (cutL l).length = m := by rw [hc, List.length_take]; omega
    have hmin : min (n : Int) 64 = (m : Int) := by omega
    have hmc : m ≤ c := by omega
    have hmci : (m : Int) ≤ (c : Int) := by omega
    have hn0 : ¬ (n : Int) = 0 := by omega
    have r1 := hr.btake (k := m) (by omega)
    rw [← hc] at r1
    have hmx := hr.2.1
    unfold maxLen at hmx
    have R1 := Lib.hid r1
    have HL := Lib.hid hlm
    have hni : (n : Int) ≤ 9223372036854775807 := by omega
    clear hm hc hlm r1 hl
    go_enter Try.func15, Try.ntmps15
    go_wp2
    go_ret
    refine ⟨A, c, by rw [HL.out]; rfl, by rw [HL.out]; exact hmc, by rw [HL.out]; exact R1.out, Below.refl _ _⟩

set_option maxRecDepth 100000 in
set_option maxHeartbeats 4000000 in
theorem prints_walk (la lb : List UInt8) (A : Option Addr) (na ca : Nat) (B : Option Addr) (nb cb : Nat) (L : Nat) (ws : List Nat) (w : World) (hac : na ≤ ca) (hbc : nb ≤ cb) (ra : Rd w w.heap.size 1 A na (bcells la)) (rb : Rd w w.heap.size 1 B nb (bcells lb))
    (hL : L < 256) (h8 : ws.length = 8) (hw : ∀ x ∈ ws, x < 18446744073709551616) :
    Calls Try.prog 6 #[.slice A na ca, .slice B nb cb, .agg (pcA L ws)] w fun e w' => e = .returned (.bool true) ∧ Below w.heap.size w w' := by
  obtain ⟨Pv, hP⟩ : ∃ Pv, Pv = pcA L ws := ⟨_, rfl⟩
  rw [← hP]
  have hsP : Pv.size = 9 := by rw [hP]; simp [pcA, h8]
  have HP := Lib.hid hP
  clear hP
  have hb := (Below.refl w.heap.size w).alloc (Nat.le_refl _) (.cells Pv 38)
  have qP := Blk.new w 38 Pv
  have r1 := (ra.below hb (Nat.le_refl _)).more hb.size
  have r2 := (rb.below hb (Nat.le_refl _)).more hb.size
  have hs : (w.alloc (.cells Pv 38)).heap.size = w.heap.size + 1 := by simp
  go_enter Try.func6, Try.ntmps6
  go_upto_region 1 with (fail)
  generalize w.alloc (.cells Pv 38) = w1 at *
  have HC := Lib.hid (cut_any la A na ca w1 hac r1)
  go_wp2_with fail
  refine HC.out.mono ?_
  rintro e w2 ⟨A1, c1, rfl, hc1, r1, b1⟩
  have HD := Lib.hid (cut_any lb B nb cb w2 hbc ((r2.below b1 (Nat.le_refl _)).more b1.size))
  have hb := belowGo hb b1
  have qP := qP.after b1
  have hs := Nat.le_trans (Nat.le_of_eq hs.symm) b1.size
  clear HC r2 ra rb
  go_wp2_with fail
  refine HD.out.mono ?_
  rintro e w3 ⟨A2, c2, rfl, hc2, r2, b2⟩
  have r1 := (r1.below b2 (Nat.le_refl _)).more b2.size
  have hb := belowGo hb b2
  have qP := qP.after b2
  have hs := Nat.le_trans hs b2.size
  have kx := cutL_ok la
  have ky := cutL_ok lb
  clear HD b1 b2
  generalize cutL la = x at *
  generalize cutL lb = y at *
  obtain ⟨n1, hn1⟩ : ∃ n, n = x.length := ⟨_, rfl⟩
  obtain ⟨n2, hn2⟩ : ∃ n, n = y.length := ⟨_, rfl⟩
  rw [← hn1, ← hn2]
  rw [← hn1] at r1 hc1
  rw [← hn2] at r2 hc2
  have l1 : n1 ≤ 64 := by have := kx.2; omega
  have l2 : n2 ≤ 64 := by have := ky.2; omega
  have HN1 := Lib.hid hn1
  have HN2 := Lib.hid hn2
  have KX := Lib.hid kx
  have KY := Lib.hid ky
  clear hn1 hn2 kx ky
  have HX := Lib.hid (of_any x A1 n1 c1 w3 hc1 (by omega) r1)
  have hpx : prC x = pcA n1 (pws x) := by rw [prC_pc x (mayB_ok KX.out), HN1.out]
  have hpy : prC y = pcA n2 (pws y) := by rw [prC_pc y (mayB_ok KY.out), HN2.out]
  rw [hpx] at HX
  go_wp2_with fail
  refine HX.out.mono ?_
  rintro e w4 ⟨rfl, b4⟩
  have r1 := (r1.below b4 (Nat.le_refl _)).more b4.size
  have r2 := (r2.below b4 (Nat.le_refl _)).more b4.size
  have hb := belowGo hb b4
  have qP := qP.after b4
  have hs := Nat.le_trans hs b4.size
  have HY := Lib.hid (of_any y A2 n2 c2 w4 hc2 (by omega) r2)
  rw [hpy] at HY
  clear HX b4 hpx hpy
  go_wp2_with fail
  refine HY.out.mono ?_
  rintro e w5 ⟨rfl, b5⟩
  have r1 := (r1.below b5 (Nat.le_refl _)).more b5.size
  have r2 := (r2.below b5 (Nat.le_refl _)).more b5.size
  have hb := belowGo hb b5
  have qP := qP.after b5
  have hs := Nat.le_trans hs b5.size
  clear HY b5
  have hzx : (pcA n1 (pws x)).size = 9 := by simp [pcA, pws]
  have hzy : (pcA n2 (pws y)).size = 9 := by simp [pcA, pws]
  have hox : (pcA n1 (pws x)).all (·.oneCell') = true := by unfold pcA; simp [Value.oneCell']
  have hoy : (pcA n2 (pws y)).all (·.oneCell') = true := by unfold pcA; simp [Value.oneCell']
  generalize hX : pcA n1 (pws x) = X at *
  generalize hY : pcA n2 (pws y) = Y at *
  have HX := Lib.hid hX
  have HY := Lib.hid hY
  clear hX hY
  have q7 := (Blk.new w5 38 #[.int .u8 0, .int .u64 0, .int .u64 0, .int .u64 0, .int .u64 0, .int .u64 0, .int .u64 0, .int .u64 0, .int .u64 0]).alloc (.cells #[.int .u8 0, .int .u64 0, .int .u64 0, .int .u64 0, .int .u64 0, .int .u64 0, .int .u64 0, .int .u64 0, .int .u64 0] 38)
  have q8 := Blk.newAt (w5.alloc (.cells #[.int .u8 0, .int .u64 0, .int .u64 0, .int .u64 0, .int .u64 0, .int .u64 0, .int .u64 0, .int .u64 0, .int .u64 0] 38)) 38 #[.int .u8 0, .int .u64 0, .int .u64 0, .int .u64 0, .int .u64 0, .int .u64 0, .int .u64 0, .int .u64 0, .int .u64 0] (g := w5.heap.size + 1) (by simp)
  have hba := belowAlloc (belowAlloc (Below.refl w5.heap.size w5) (.cells #[.int .u8 0, .int .u64 0, .int .u64 0, .int .u64 0, .int .u64 0, .int .u64 0, .int .u64 0, .int .u64 0, .int .u64 0] 38)) (.cells #[.int .u8 0, .int .u64 0, .int .u64 0, .int .u64 0, .int .u64 0, .int .u64 0, .int .u64 0, .int .u64 0, .int .u64 0] 38)
  have Q7 := Lib.hid q7
  have Q8 := Lib.hid q8
  have HBA := Lib.hid hba
  clear q7 q8 hba
  go_wp2_with (first
    | (refine wpList_storeB rfl 38 (.tmp 7) (.tmp 18) rfl rfl rfl Q7.out (by rw [hzx]; kernel_rfl) (by rw [hzx]; rfl) hox ?_)
    | (refine wpList_storeB rfl 38 (.tmp 8) (.tmp 20) rfl rfl rfl (show Blk _ _ _ _ from (row_other (by omega) _).trans Q8.out) (by rw [hzy]; kernel_rfl) (by rw [hzy]; rfl) hoy ?_)
    | fail)
  have q8 := Blk.row (g := w5.heap.size + 1) (show Blk (((w5.alloc (.cells #[.int .u8 0, .int .u64 0, .int .u64 0, .int .u64 0, .int .u64 0, .int .u64 0, .int .u64 0, .int .u64 0, .int .u64 0] 38)).alloc (.cells #[.int .u8 0, .int .u64 0, .int .u64 0, .int .u64 0, .int .u64 0, .int .u64 0, .int .u64 0, .int .u64 0, .int .u64 0] 38)).setRow w5.heap.size X) _ _ _ from (row_other (by omega) X).trans Q8.out) Y
  have q7 : Blk ((((w5.alloc (.cells #[.int .u8 0, .int .u64 0, .int .u64 0, .int .u64 0, .int .u64 0, .int .u64 0, .int .u64 0, .int .u64 0, .int .u64 0] 38)).alloc (.cells #[.int .u8 0, .int .u64 0, .int .u64 0, .int .u64 0, .int .u64 0, .int .u64 0, .int .u64 0, .int .u64 0, .int .u64 0] 38)).setRow w5.heap.size X).setRow (w5.heap.size + 1) Y) w5.heap.size 38 X := (row_other (by omega) Y).trans (Blk.row Q7.out X)
  have h56 := row_below (row_below HBA.out (Nat.le_refl _) X) (show w5.heap.size ≤ w5.heap.size + 1 by omega) Y
  have hs6 : ((((w5.alloc (.cells #[.int .u8 0, .int .u64 0, .int .u64 0, .int .u64 0, .int .u64 0, .int .u64 0, .int .u64 0, .int .u64 0, .int .u64 0] 38)).alloc (.cells #[.int .u8 0, .int .u64 0, .int .u64 0, .int .u64 0, .int .u64 0, .int .u64 0, .int .u64 0, .int .u64 0, .int .u64 0] 38)).setRow w5.heap.size X).setRow (w5.heap.size + 1) Y).heap.size = w5.heap.size + 2 := by rw [row_size, row_size]; simp
  generalize (((w5.alloc (.cells #[.int .u8 0, .int .u64 0, .int .u64 0, .int .u64 0, .int .u64 0, .int .u64 0, .int .u64 0, .int .u64 0, .int .u64 0] 38)).alloc (.cells #[.int .u8 0, .int .u64 0, .int .u64 0, .int .u64 0, .int .u64 0, .int .u64 0, .int .u64 0, .int .u64 0, .int .u64 0] 38)).setRow w5.heap.size X).setRow (w5.heap.size + 1) Y = w6 at *
  have r1 := (r1.below h56 (Nat.le_refl _)).more h56.size
  have r2 := (r2.below h56 (Nat.le_refl _)).more h56.size
  have hb := belowGo hb h56
  have qP := qP.after h56
  obtain ⟨g7, e7⟩ : ∃ g, g = w5.heap.size := ⟨_, rfl⟩
  obtain ⟨g8, e8⟩ : ∃ g, g = w5.heap.size + 1 := ⟨_, rfl⟩
  obtain ⟨gP, eP⟩ : ∃ g, g = w.heap.size := ⟨_, rfl⟩
  rw [← e7] at q7
  rw [← e8] at q8
  rw [← eP] at qP
  rw [← e8, ← e7, ← eP]
  have E7 := Lib.hid e7
  have E8 := Lib.hid e8
  have EP := Lib.hid eP
  have HS := Lib.hid hs6
  have HB := Lib.hid hb
  have QP := Lib.hid qP
  have Q7 := Lib.hid q7
  have Q8 := Lib.hid q8
  have R1 := Lib.hid r1
  have R2 := Lib.hid r2
  clear e7 e8 eP hs6 hb qP q7 q8 r1 r2 HBA h56 hs hox hoy
  have hcur : Below w6.heap.size w6 w6.drew := ⟨rfl, rfl, rfl, Nat.le_refl _, fun _ _ => rfl⟩
  have HE := fun W (h : Below w6.heap.size w6 W) => Lib.hid (equal_any x y A1 n1 c1 A2 n2 c2 W (R1.out.below h (Nat.le_refl _)) (R2.out.below h (Nat.le_refl _)))
  have hpe : ((n1 == n2) && (pws x == pws y)) = (x == y) := by rw [HN1.out, HN2.out]; exact print_iff KX.out.2
  have heq : ∀ W, (Op.equal 38 (.agg X) (.agg Y)).run Try.prog W = .ok (x == y) W := fun W => by
    rw [← HX.out, ← HY.out, ← hpe]
    exact run_print_eq n1 n2 (pws x) (pws y) (pws_len _) (pws_len _) W
  have HEQ := Lib.hid heq
  clear hpe heq
  refine wp_region_plan (fun W => Below w6.heap.size w6 W) [.calms [3, 4], .read 0, .read 1, .read 2, .act 5, .act 6] (by kernel_rfl) (by rfl) (by kernel_rfl) (by kernel_rfl) hcur ?_
  refine plan_calms (by simp [calmRow, need]; rfl) ?_
  generalize w6.drew = w7 at *
  go_wp2_with fail
  refine plan_read (by rfl) (.agg X) (by rfl) (fun W hW => exec_load_blk rfl rfl (Q7.out.after hW) Try.underlying38 rfl (by rw [hzx]; kernel_rfl)) ?_
  refine plan_read (by rfl) (.agg Y) (by rfl) (fun W hW => exec_load_blk rfl rfl (Q8.out.after hW) Try.underlying38 rfl (by rw [hzy]; kernel_rfl)) ?_
  refine plan_read (by rfl) (.bool (x == y)) (by rfl) (fun W hW => exec_bin rfl (run_eql_agg (by kernel_rfl) (HEQ.out W))) ?_
  refine plan_act (by rfl) ?_
  go_wp2_with fail
  refine (HE _ hcur).out.mono ?_
  rintro e w8 ⟨rfl, rfl⟩
  have i1 : (!((x == y) == (x == y))) = false := by simp
  go_wp2_with fail
  refine ⟨hcur, ?_⟩
  refine plan_act (by rfl) ?_
  go_wp2_with fail
  refine ⟨hcur, plan_end ?_⟩
  have hb := belowGo HB.out hcur
  have HB7 := Lib.hid hb
  have R1 := Lib.hid ((R1.out.below hcur (Nat.le_refl _)).more hcur.size)
  have R2 := Lib.hid ((R2.out.below hcur (Nat.le_refl _)).more hcur.size)
  have Q7 := Lib.hid (Q7.out.after hcur)
  have Q8 := Lib.hid (Q8.out.after hcur)
  have QP := Lib.hid (QP.out.after hcur)
  clear hcur HE hb HEQ
  have HK := Lib.hid (pkey_any n1 (pws x) (by omega) (pws_len x) (pws_lt x) w7)
  rw [HX.out] at HK
  go_wp2_with (first
    | (refine wpList_value rfl (exec_load_blk rfl rfl Q7.out Try.underlying38 rfl (by rw [hzx]; kernel_rfl)) ?_)
    | fail)
  refine HK.out.mono ?_
  rintro e w8 ⟨v, rfl, -, hv, b8⟩
  have hpg : pgood n1 (pws x) = true := by rw [HN1.out]; exact pgood_key KX.out.1 KX.out.2
  have hv := hv hpg
  rw [hpg]
  rw [show min n1 64 = n1 by omega, show pkeyL n1 (pws x) = x by rw [HN1.out]; exact pkeyL_key KX.out.2] at hv
  obtain ⟨A3, c3, rfl, hc3⟩ := own_cap hv
  have r3 := Rd.of_own hv
  have r1 := (R1.out.below b8 (Nat.le_refl _)).more b8.size
  have r2 := (R2.out.below b8 (Nat.le_refl _)).more b8.size
  have HE3 := Lib.hid (equal_any x x A3 n1 c3 A1 n1 c1 w8 r3 r1)
  rw [show (x == x) = true by simp] at HE3
  have HB8 := Lib.hid (belowGo HB7.out b8)
  have Q7 := Lib.hid (Q7.out.after b8)
  have Q8 := Lib.hid (Q8.out.after b8)
  have QP := Lib.hid (QP.out.after b8)
  have R1 := Lib.hid r1
  have R2 := Lib.hid r2
  have E8S := Lib.hid b8.size
  clear HK hv hpg b8 r3 r1 r2
  go_wp2_with fail
  refine HE3.out.mono ?_
  rintro e w9 ⟨rfl, rfl⟩
  clear HE3
  have hmk : ∀ W, (Instr.makeMap 42 none).run Try.prog W = .ok (.map (some W.heap.size)) (W.alloc (.map #[] 0)) := fun W => run_makeMap _ W
  have hkx : kpv x = .agg X := by unfold kpv; rw [← HN1.out, HX.out]
  have hky : kpv y = .agg Y := by unfold kpv; rw [← HN2.out, HY.out]
  have HKX := Lib.hid hkx
  have HKY := Lib.hid hky
  clear hkx hky
  have m0 := Mt.new w8 Try.prog 38 (Ok := KOk) (ek := kpv) (ev := fun c : Int => Value.int .i64 c)
  obtain ⟨o1, hi1, m1⟩ := m0.store kpv_inj print_keyed Try.underlying42 KX.out (kpv_key KX.out).choose_spec 1
  rw [HKX.out] at hi1
  have HI1 := Lib.hid hi1
  have M1 := Lib.hid m1
  have HB9 := Lib.hid (setBlock_below (HB8.out.alloc HB8.out.size (.map #[] 0)) HB8.out.size o1)
  have b9 : Below w8.heap.size w8 (Go.ChangeMaps.setBlock (w8.alloc (.map #[] 0)) w8.heap.size o1) := setBlock_below ((Below.refl w8.heap.size w8).alloc (Nat.le_refl _) (.map #[] 0)) (Nat.le_refl _) o1
  have B9 := Lib.hid b9
  clear m0 hi1 m1 b9
  go_wp2_with (first
    | (refine wpList_value rfl (exec_load_blk rfl rfl (Q7.out.alloc _) Try.underlying38 rfl (by rw [hzx]; kernel_rfl)) ?_)
    | (refine wpList_skip rfl (exec_insert rfl HI1.out) ?_)
    | fail)
  obtain ⟨gm, em⟩ : ∃ g, g = w8.heap.size := ⟨_, rfl⟩
  have EM := Lib.hid em
  rw [← em]
  have m1 := M1.out
  have hb := HB9.out
  have b9 := B9.out
  rw [← em] at m1 hb
  rw [show Go.ChangeMaps.setBlock (w8.alloc (.map #[] 0)) w8.heap.size o1 = Go.ChangeMaps.setBlock (w8.alloc (.map #[] 0)) gm o1 by rw [em]] at b9
  clear hmk HI1 M1 HB9 B9 em
  generalize Go.ChangeMaps.setBlock (w8.alloc (.map #[] 0)) gm o1 = w9 at *
  have hg8 : g8 < gm := by rw [EM.out]; exact Q8.out.lt
  have hgP : gP < gm := by rw [EM.out]; exact QP.out.lt
  have q8 := Q8.out.after b9
  have qP := QP.out.after b9
  have r1 := R1.out.below b9 (Nat.le_refl _)
  have r2 := R2.out.below b9 (Nat.le_refl _)
  have hw8 : w.heap.size ≤ gm := by rw [EM.out]; exact HB8.out.size
  rw [← EM.out] at r1 r2
  have hgm : gm < w9.heap.size := m1.lt
  have hz : ∀ W : World, (zeroValue 3).run Try.prog W = .ok (.int .i64 0) W := fun W => (zero_of_info (P := Try.prog) (t := 3) (n := 1) (by kernel_rfl)).1 W
  have m1 : Mt Try.prog 38 w9.drew gm KOk kpv (fun c : Int => Value.int .i64 c) (mput x 1 []) := m1.of_block rfl
  have q8 : Blk w9.drew g8 38 Y := q8
  have qP : Blk w9.drew gP 38 Pv := qP
  have r1 : Rd w9.drew gm 1 A1 n1 (bcells x) := r1
  have r2 : Rd w9.drew gm 1 A2 n2 (bcells y) := r2
  have hb : Below w.heap.size w w9.drew := ⟨hb.os, hb.tape, hb.output, hb.size, hb.block⟩
  have hgm : gm < w9.drew.heap.size := hgm
  obtain ⟨c0, hc0, hc01, hc02⟩ : ∃ c0 : Int, ((mget (mput x (1 : Int) []) y).map fun c : Int => Value.int .i64 c).getD (.int .i64 0) = .int .i64 c0 ∧ 0 ≤ c0 ∧ c0 ≤ 1 := by
    rw [mget_put, mget_nil]
    by_cases h : y = x
    · rw [if_pos h]; exact ⟨1, rfl, by omega, by omega⟩
    · rw [if_neg h]; exact ⟨0, rfl, by omega, by omega⟩
  have hlen : ((mput y (c0 + 2) (mput x (1 : Int) [])).length : Int) = if x = y then 1 else 2 := by
    unfold mput
    by_cases h : x = y
    · subst h; simp
    · simp [h]
  have hl1 := m1.look kpv_inj print_keyed Try.underlying42 (hz _) KY.out (kpv_key KY.out).choose_spec false
  obtain ⟨o2, st, he2, -, hl2, hs2⟩ := m1.entry kpv_inj print_keyed Try.underlying42 hz KY.out (kpv_key KY.out).choose_spec
  rw [HKY.out] at hl1 he2 hl2
  rw [hc0] at hl1 he2 hl2
  obtain ⟨o3, he3, m3⟩ := hs2 (Go.ChangeMaps.setBlock w9.drew gm o2) (setBlock_heap hgm) (c0 + 2)
  have HL1 := Lib.hid hl1
  have HE2 := Lib.hid he2
  have HL2 := Lib.hid (hl2 (Go.ChangeMaps.setBlock w9.drew gm o2) (setBlock_heap hgm))
  have HE3 := Lib.hid he3
  have M3 := Lib.hid m3
  have HLEN := Lib.hid hlen
  have b11 := setBlock_below (setBlock_below (Below.refl gm w9.drew) (Nat.le_refl _) o2) (Nat.le_refl _) o3
  have B11 := Lib.hid b11
  have Q8 := Lib.hid q8
  have QP := Lib.hid qP
  have R1 := Lib.hid r1
  have R2 := Lib.hid r2
  have HB := Lib.hid hb
  have q8b : ∀ W, (W = w9.drew ∨ W = Go.ChangeMaps.setBlock w9.drew gm o2) → Blk W g8 38 Y := fun W hW => by
    rcases hW with rfl | rfl
    · exact q8
    · exact (setBlock_other (by omega)).trans q8
  have Q8B := Lib.hid q8b
  clear m1 hl1 he2 hl2 hs2 he3 m3 hlen b11 q8 qP r1 r2 hb q8b hc0 hz b9
  refine wp_region_plan (fun W => W = w9.drew ∨ W = Go.ChangeMaps.setBlock w9.drew gm o2) [.calms [0], .act 1, .read 2, .calms [3], .act 4, .calms [5], .act 6] (by kernel_rfl) (by rfl) (by kernel_rfl) (by kernel_rfl) (Or.inl rfl) ?_
  refine plan_calms (by simp [calmRow, need]; rfl) ?_
  generalize w9.drew = w10 at *
  go_wp2_with fail
  refine plan_act (by rfl) ?_
  refine wpList_value rfl (exec_load_blk rfl rfl (Q8B.out _ (Or.inl rfl)) Try.underlying38 rfl (by rw [hzy]; kernel_rfl)) ?_
  refine plan_next (Or.inl rfl) ?_
  refine plan_read (by rfl) (.int .i64 c0) (by rfl) (fun W hW => exec_lookup rfl (by
    rcases hW with rfl | rfl
    · exact HL1.out
    · exact HL2.out)) ?_
  refine plan_calms (by simp [calmRow, need, chk]; rfl) ?_
  go_wp2_with fail
  refine plan_act (by rfl) ?_
  refine wpList_value rfl (exec_entry rfl HE2.out) ?_
  refine plan_next (Or.inr rfl) ?_
  refine plan_calms (by simp [calmRow, need]; rfl) ?_
  go_wp2_with fail
  refine plan_last (by rfl) (by kernel_rfl) ?_
  refine wpList_skip rfl (exec_estore rfl HE3.out) ?_
  refine plan_done (plan_end ?_)
  have m3 := M3.out
  have b11 := B11.out
  clear HE3 HL1 HL2 HE2 M3 B11 Q8B
  generalize Go.ChangeMaps.setBlock (Go.ChangeMaps.setBlock w10 gm o2) gm o3 = w12 at *
  have q8 := Q8.out.below b11 hg8
  have qP := QP.out.below b11 hgP
  have r1 := R1.out.below b11 (Nat.le_refl _)
  have r2 := R2.out.below b11 (Nat.le_refl _)
  have hb := HB.out.trans (b11.mono hw8)
  have hg12 : gm < w12.heap.size := m3.lt
  have r1 := r1.more (Nat.le_of_lt hg12)
  have r2 := r2.more (Nat.le_of_lt hg12)
  have HE4 := Lib.hid (equal_any x y A1 n1 c1 A2 n2 c2 w12 r1 r2)
  have hln := fun ty => m3.len Try.underlying42 ty
  obtain ⟨d, hd⟩ : ∃ d : Int, d = ((mput y (c0 + 2) (mput x (1 : Int) [])).length : Int) := ⟨_, rfl⟩
  have i2 : (!((d == 1) == (x == y))) = false := by
    rw [hd, HLEN.out]
    by_cases h : x = y
    · simp [h]
    · simp [h]
  rw [← hd] at hln
  have M3 := Lib.hid m3
  have QP := Lib.hid qP
  have HB := Lib.hid hb
  have R2 := Lib.hid r2
  clear hd HLEN m3 q8 qP r1 r2 hb b11 R1 Q8
  have hown0 := World.ownsRow_nil w12 w12.heap.size 5 1
  have HN0 := Lib.hid hown0
  clear hown0
  go_wp2_with fail
  refine HE4.out.mono ?_
  rintro e w13 ⟨rfl, rfl⟩
  go_wp2_with (first
    | (refine wpList_wanted rfl fun K hK => wp_app eltU8 (.const (.slice none 0 0)) (.tmp 59) rfl rfl HN0.out rfl R2.out (bcells_one _) (by omega) (by unfold maxLen; omega) (Nat.le_refl _) fun v' w13 o1 g1 _ => hK _ _ ?_)
    | fail)
  obtain ⟨A4, c4, rfl, hc4⟩ := own_cap o1
  have b13 : Below w12.heap.size w12 w13 := below_of_grown (Below.refl _ _) (Nat.le_refl _) HN0.out g1
  have r4 := Rd.of_own o1
  rw [Nat.zero_add] at hc4 ⊢
  rw [Nat.zero_add, List.nil_append] at r4
  have HO := Lib.hid (of_any y A4 n2 c4 w13 hc4 (by omega) r4)
  rw [show prC y = pcA n2 (pws y) by rw [prC_pc y (mayB_ok KY.out), HN2.out], HY.out] at HO
  refine HO.out.mono ?_
  rintro e w14 ⟨rfl, b14⟩
  have b14 := b13.trans (b14.mono b13.size)
  have m4 := M3.out.below b14 hg12
  have hl4 := m4.look kpv_inj print_keyed Try.underlying42 ((zero_of_info (P := Try.prog) (t := 3) (n := 1) (v := .int .i64 0) (by kernel_rfl)).1 _) KY.out (kpv_key KY.out).choose_spec false
  rw [HKY.out, mget_put, if_pos rfl] at hl4
  have hl4 : (Instr.lookup 42 (.map (some gm)) (.agg Y) false).run Try.prog w14 = .ok (.int .i64 (c0 + 2)) w14 := hl4
  have HL4 := Lib.hid hl4
  have HB := Lib.hid (belowGo HB.out b14)
  have QP := Lib.hid (QP.out.after b14)
  have i4 : ¬ (c0 + 2 < 2) := by omega
  clear o1 b13 r4 HO b14 m4 hl4 M3 R2 HN0
  go_wp2_with (first
    | (refine wpList_value rfl (exec_lookup rfl HL4.out) ?_)
    | (refine wpList_value rfl (exec_load_blk rfl rfl QP.out Try.underlying38 rfl (by rw [hsP]; kernel_rfl)) ?_)
    | fail)
  have HK := Lib.hid (pkey_any L ws hL h8 hw w14)
  rw [← HP.out] at HK
  refine HK.out.mono ?_
  rintro e w15 ⟨v, rfl, hv0, hv1, b15⟩
  have HB := Lib.hid (belowGo HB.out b15)
  have QP := Lib.hid (QP.out.after b15)
  clear HK HL4
  cases hpg : pgood L ws with
  | false =>
    have hv := hv0 hpg
    subst hv
    have HN := Lib.hid (knows_any w15)
    clear hv0 hv1 b15
    go_wp2_with fail
    refine HN.out.mono ?_
    rintro e w16 ⟨rfl, b16⟩
    have hb := belowGo HB.out b16
    go_wp2_with fail
    exact bodyPost_ret (results_tmp rfl _ _ _) rfl ⟨rfl, hb⟩
  | true =>
    obtain ⟨k1, k2, k3⟩ := pgood_of hpg
    have hv := hv1 hpg
    obtain ⟨m, hm⟩ : ∃ m, m = min L 64 := ⟨_, rfl⟩
    rw [← hm] at hv k1
    have hm64 : m ≤ 64 := by omega
    have hmL : m = L := by omega
    obtain ⟨A5, c5, rfl, hc5⟩ := own_cap hv
    have r5 := Rd.of_own hv
    have hl5 : (pkeyL L ws).length = m := by rw [pkeyL_len, hm]
    have HM1 := fun W => Lib.hid (may_any A5 m c5 W (by omega))
    rw [k1] at HM1
    have HO := fun W (h : Below w15.heap.size w15 W) => Lib.hid (of_any (pkeyL L ws) A5 m c5 W hc5 (by omega) ((r5.below h (Nat.le_refl _)).more h.size))
    rw [show prC (pkeyL L ws) = Pv by rw [prC_pc _ (by rw [hl5]; exact k1), hl5, k3, hmL, HP.out]] at HO
    have HEQ : ∀ W, Hid ((Op.equal 38 (.agg Pv) (.agg Pv)).run Try.prog W = .ok true W) := fun W => Lib.hid (by
      rw [HP.out, run_print_eq L L ws ws h8 h8 W]
      simp)
    have HN := fun W => Lib.hid (knows_any W)
    have hcur : Below w15.heap.size w15 w15.drew := ⟨rfl, rfl, rfl, Nat.le_refl _, fun _ _ => rfl⟩
    clear hv0 hv1 b15 hv r5 hl5 k1 k2 k3 hm hmL hpg
    go_wp2_with fail
    refine wp_region_plan (fun W => Below w15.heap.size w15 W) [.calms [0], .act 1, .calms [2, 3], .read 5, .act 4, .read 6, .calms [7, 8], .act 9, .calms [10, 11]] (by kernel_rfl) (by rfl) (by kernel_rfl) (by kernel_rfl) hcur ?_
    refine plan_calms (by simp [calmRow, need]; rfl) ?_
    generalize w15.drew = w16 at *
    go_wp2_with fail
    refine plan_act (by rfl) ?_
    go_wp2_with fail
    refine (HM1 _).out.mono ?_
    rintro e w17 ⟨rfl, rfl⟩
    go_wp2_with fail
    refine ⟨hcur, ?_⟩
    refine plan_calms (by simp [calmRow, need]; rfl) ?_
    go_wp2_with fail
    refine plan_read (by rfl) (.agg Pv) (by rfl) (fun W hW => exec_load_blk rfl rfl (QP.out.after hW) Try.underlying38 rfl (by rw [hsP]; kernel_rfl)) ?_
    refine plan_act (by rfl) ?_
    go_wp2_with fail
    refine (HO _ hcur).out.mono ?_
    rintro e w18 ⟨rfl, b18⟩
    have hcur := belowGo hcur b18
    go_wp2_with fail
    refine ⟨hcur, ?_⟩
    refine plan_read (by rfl) (.bool true) (by rfl) (fun W hW => exec_bin rfl (run_eql_agg (by kernel_rfl) (HEQ W).out)) ?_
    refine plan_calms (by simp [calmRow, need]; rfl) ?_
    go_wp2_with fail
    refine plan_act (by rfl) ?_
    go_wp2_with fail
    refine (HN _).out.mono ?_
    rintro e w19 ⟨rfl, b19⟩
    have hcur := belowGo hcur b19
    go_wp2_with fail
    refine ⟨hcur, ?_⟩
    refine plan_calms (by simp [calmRow, need]; rfl) ?_
    go_wp2_with fail
    refine plan_end ?_
    have hb := belowGo HB.out hcur
    go_wp2_with fail
    exact bodyPost_ret (results_tmp rfl _ _ _) rfl ⟨rfl, hb⟩
end Go.Proofs.Yticjecfbjmibaaa
