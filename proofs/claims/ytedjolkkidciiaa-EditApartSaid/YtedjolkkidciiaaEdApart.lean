/- What the law EditApart comes to: true. -/
import Derived.Test.YtedjolkkidciiaaEdRd
import Derived.Test.YtedjolkkidciiaaEdSame
import Derived.Test.YtedjolkkidciiaaEdFew
import Derived.Test.YtedjolkkidciiaaEd11
namespace Go.Proofs.Ytedjolkkidciiaa
open Go.RowKit
attribute [local go_sem] Oper.semAt_some

theorem prefix_any (a b : List UInt8) (A : Option Addr) (n c : Nat) (A' : Option Addr) (n' c' : Nat) (w : World) {B B' : Nat} (hnc : n ≤ c) (h : Rd w B 1 A n (bcells a)) (h' : Rd w B' 1 A' n' (bcells b)) :
    Calls Try.prog 24 #[.slice A n c, .slice A' n' c'] w fun e w' => e = .returned (.bool (b.isPrefixOf a)) ∧ w = w' := by
  have h1 := h.1
  have h2 := h'.1
  rw [bcells_len] at h1 h2
  refine (Try.bytes_HasPrefix_all A A' n c n' c' (bnum a) (bnum b) w (by rw [bnum_len]; omega) (by rw [bnum_len]; omega) hnc (bytesIn h) (bytesIn h')).mono fun e w' ⟨he, hw⟩ => ⟨?_, hw.symm⟩
  rw [he, bnum_bytes, bnum_bytes]
  rfl
theorem Rd.slTake {w : World} {B n : Nat} {A : Option Addr} {l : List Sl} (h : Rd w B 5 A n (slCells l)) (k : Nat) (hk : k ≤ n) : Rd w B 5 A k (slCells (l.take k)) := by
  rw [slCells_take]
  exact h.take hk

set_option maxRecDepth 100000 in
set_option maxHeartbeats 8000000 in
theorem apart_walk (d d' : Ed) (hd : d.fits0) (hd' : d'.fits0) (A : Option Addr) (n c : Nat) (A' : Option Addr) (n' c' : Nat) (w : World) (hln : d.seals.length = n) (hmn : d'.seals.length = n') (hnc : n ≤ c) (hnc' : n' ≤ c') (r : Rd w w.heap.size 5 A n (slCells d.seals)) (r' : Rd w w.heap.size 5 A' n' (slCells d'.seals)) :
    Calls Try.prog 8 #[.agg (edC d ⟨d.name.toArray⟩ (.slice A n c)), .agg (edC d' ⟨d'.name.toArray⟩ (.slice A' n' c'))] w fun e w' => e = .returned (.bool true) ∧ Below w.heap.size w w' := by
  have hmx := r.2.1
  have hmx' := r'.2.1
  unfold maxLen at hmx hmx'
  have HF := fun W => Lib.hid (few_any d A n c W hln hnc (by omega) hd.2.2.1)
  have HF' := fun W => Lib.hid (few_any d' A' n' c' W hmn hnc' (by omega) hd'.2.2.1)
  have fa := fewE_fits hd
  have fb := fewE_fits hd'
  have hal : (fewE d).seals.length = min 210 n := by unfold fewE; simp only [List.length_take, hln]
  have hbl : (fewE d').seals.length = min 210 n' := by unfold fewE; simp only [List.length_take, hmn]
  have ra : Rd w w.heap.size 5 A (fewE d).seals.length (slCells (fewE d).seals) := by
    rw [hal]
    have := r.slTake (min 210 n) (by omega)
    unfold fewE
    dsimp only
    rwa [show d.seals.take 210 = d.seals.take (min 210 n) by rw [← hln]; simp]
  have rb : Rd w w.heap.size 5 A' (fewE d').seals.length (slCells (fewE d').seals) := by
    rw [hbl]
    have := r'.slTake (min 210 n') (by omega)
    unfold fewE
    dsimp only
    rwa [show d'.seals.take 210 = d'.seals.take (min 210 n') by rw [← hmn]; simp]
  obtain ⟨E, hE⟩ : ∃ E, E = edC d ⟨d.name.toArray⟩ (.slice A n c) := ⟨_, rfl⟩
  obtain ⟨E', hE'⟩ : ∃ E, E = edC d' ⟨d'.name.toArray⟩ (.slice A' n' c') := ⟨_, rfl⟩
  have hz : E.size = 5 := by rw [hE]; rfl
  have hz' : E'.size = 5 := by rw [hE']; rfl
  rw [← hE, ← hE']
  rw [← hE] at HF
  rw [← hE'] at HF'
  unfold RetFew at HF HF'
  clear hE hE' r r'
  generalize fewE d = a at *
  generalize fewE d' = b at *
  obtain ⟨l1, hl1⟩ : ∃ l, l = a.seals.length := ⟨_, rfl⟩
  obtain ⟨l2, hl2⟩ : ∃ l, l = b.seals.length := ⟨_, rfl⟩
  rw [← hl1] at HF ra hal
  rw [← hl2] at HF' rb hbl
  have hc1 : l1 ≤ c := by omega
  have hc2 : l2 ≤ c' := by omega
  have h210 : l1 ≤ 210 := by omega
  obtain ⟨X, hX⟩ : ∃ E, E = edC a ⟨a.name.toArray⟩ (.slice A l1 c) := ⟨_, rfl⟩
  obtain ⟨Y, hY⟩ : ∃ E, E = edC b ⟨b.name.toArray⟩ (.slice A' l2 c') := ⟨_, rfl⟩
  rw [← hX] at HF
  rw [← hY] at HF'
  have hzx : X.size = 5 := by rw [hX]; rfl
  have hzy : Y.size = 5 := by rw [hY]; rfl
  have hox : X.all (·.oneCell') = true := by rw [hX]; simp [edC, Value.oneCell']
  have hoy : Y.all (·.oneCell') = true := by rw [hY]; simp [edC, Value.oneCell']
  have PA := fun W (h : Below w.heap.size w W) => Lib.hid (putEd_any a fa A l1 c W hl1.symm ((ra.below h (Nat.le_refl _)).more h.size) hc1)
  have PB := fun W (h : Below w.heap.size w W) => Lib.hid (putEd_any b fb A' l2 c' W hl2.symm ((rb.below h (Nat.le_refl _)).more h.size) hc2)
  have SM := fun W (h : Below w.heap.size w W) => Lib.hid (same_any a b fa fb A l1 c A' l2 c' W hl1.symm hl2.symm ((ra.below h (Nat.le_refl _)).more h.size) ((rb.below h (Nat.le_refl _)).more h.size) (by omega))
  rw [← hX] at PA
  rw [← hY] at PB
  rw [← hX, ← hY] at SM
  have hx0 : X[0]? = some (.int .i64 a.kind) := by rw [hX]; rfl
  have HFA := Lib.hid fa
  have HFB := Lib.hid fb
  have HX0 := Lib.hid hx0
  clear hX hY hal hbl hl1 hl2 ra rb fa fb hx0 hln hmn hd hd' hmx hmx'
  have q1 := (Blk.new w 28 E).alloc (.cells E' 28)
  have hb := belowAlloc (belowAlloc (Below.refl w.heap.size w) (.cells E 28)) (.cells E' 28)
  have q2 := Blk.newAt (w.alloc (.cells E 28)) 28 E' (g := w.heap.size + 1) (by simp)
  go_enter Try.func8, Try.ntmps8
  go_upto_region 1 with (fail)
  generalize (w.alloc (.cells E 28)).alloc (.cells E' 28) = w2 at *
  have q1 : Blk w2.drew w.heap.size 28 E := q1
  have q2 : Blk w2.drew (w.heap.size + 1) 28 E' := q2
  have hb : Below w.heap.size w w2.drew := ⟨hb.os, hb.tape, hb.output, hb.size, hb.block⟩
  have hcur := Below.refl w2.drew.heap.size w2.drew
  refine wp_region_plan (fun W => Below w2.drew.heap.size w2.drew W) [.read 0, .read 2, .act 1, .act 3, .act 4, .act 5] (by kernel_rfl) (by rfl) (by kernel_rfl) (by kernel_rfl) hcur ?_
  generalize w2.drew = w3 at *
  refine plan_read (by rfl) (.agg E) (by rfl) (fun W hW => exec_load_blk rfl rfl (q1.after hW) Try.underlying28 rfl (by rw [hz]; kernel_rfl)) ?_
  refine plan_read (by rfl) (.agg E') (by rfl) (fun W hW => exec_load_blk rfl rfl (q2.after hW) Try.underlying28 rfl (by rw [hz']; kernel_rfl)) ?_
  have Q1 := Lib.hid q1
  have Q2 := Lib.hid q2
  have HB := Lib.hid hb
  clear q1 q2 hb
  refine plan_act (by rfl) ?_
  go_wp2_with fail
  refine (HF w3).out.mono ?_
  rintro e w4 ⟨rfl, b4⟩
  have hcur := belowGo hcur b4
  go_wp2_with fail
  refine ⟨hcur, ?_⟩
  refine plan_act (by rfl) ?_
  go_wp2_with fail
  refine (HF' w4).out.mono ?_
  rintro e w5 ⟨rfl, b5⟩
  have hcur := belowGo hcur b5
  go_wp2_with fail
  refine ⟨hcur, ?_⟩
  have q1 := Q1.out.after hcur
  have q2 := Q2.out.after hcur
  have hb := belowGo HB.out hcur
  have Q1 := Lib.hid q1
  refine plan_last (by rfl) (by kernel_rfl) ?_
  refine wpList_storeB rfl 28 (.tmp 2) (.tmp 11) rfl rfl rfl Q1.out (by rw [hzx]; kernel_rfl) (by rw [hz, hzx]) hox ?_
  refine plan_done ?_
  have q2 : Blk (w5.setRow w.heap.size X) (w.heap.size + 1) 28 E' := (row_other (by omega) X).trans q2
  have Q2 := Lib.hid q2
  refine plan_last (by rfl) (by kernel_rfl) ?_
  refine wpList_storeB rfl 28 (.tmp 3) (.tmp 13) rfl rfl rfl Q2.out (by rw [hzy]; kernel_rfl) (by rw [hz', hzy]) hoy ?_
  refine plan_done (plan_end ?_)
  have q2 := Q2.out.row Y
  have q1 : Blk ((w5.setRow w.heap.size X).setRow (w.heap.size + 1) Y) w.heap.size 28 X := (row_other (by omega) Y).trans (Q1.out.row X)
  have hb := row_below (row_below hb (Nat.le_refl _) X) (show w.heap.size ≤ w.heap.size + 1 by omega) Y
  clear Q1 Q2 HB hcur b4 b5 HF HF' hox hoy
  generalize (w5.setRow w.heap.size X).setRow (w.heap.size + 1) Y = w6 at *
  have Q1 := Lib.hid q1
  have Q2 := Lib.hid q2
  have HB := Lib.hid hb
  clear q1 q2
  have P1 := PA w6 hb
  go_wp2_with (first
    | (refine wpList_value rfl (exec_load_blk rfl rfl Q1.out Try.underlying28 rfl (by rw [hzx]; kernel_rfl)) ?_)
    | fail)
  refine P1.out.mono ?_
  rintro e w7 ⟨v1, rfl, o1, b7⟩
  obtain ⟨k1, hk1⟩ : ∃ k, k = (if mayEd a = true then (0 : Int) else 1) := ⟨_, rfl⟩
  rw [← hk1]
  have K1 := Lib.hid hk1
  clear hk1
  obtain ⟨A1, c1, rfl, hk1⟩ := own_cap o1
  have r1 := Rd.of_own o1
  have hb := belowGo hb b7
  have P2 := PB w7 hb
  have Q1 := Lib.hid (Q1.out.after b7)
  have Q2 := Lib.hid (Q2.out.after b7)
  clear P1 o1 b7
  go_wp2_with (first
    | (refine wpList_value rfl (exec_load_blk rfl rfl Q2.out Try.underlying28 rfl (by rw [hzy]; kernel_rfl)) ?_)
    | fail)
  refine P2.out.mono ?_
  rintro e w8 ⟨v2, rfl, o2, b8⟩
  obtain ⟨k2, hk2⟩ : ∃ k, k = (if mayEd b = true then (0 : Int) else 1) := ⟨_, rfl⟩
  rw [← hk2]
  have K2 := Lib.hid hk2
  clear hk2
  obtain ⟨A2, c2, rfl, hk2⟩ := own_cap o2
  have r2 := Rd.of_own o2
  have r1 := r1.after b8
  have hb := belowGo hb b8
  have Q1 := Lib.hid (Q1.out.after b8)
  have Q2 := Lib.hid (Q2.out.after b8)
  clear P2 o2 b8 PA PB
  have S1 := SM w8 hb
  have HB := Lib.hid hb
  clear SM hb
  cases ha : mayEd a with
  | false =>
    have e1 : k1 = 1 := by rw [K1.out, if_neg (by rw [ha]; decide)]
    subst e1
    clear S1 ha K1
    cases hbm : mayEd b with
    | false =>
      have e2 : k2 = 1 := by rw [K2.out, if_neg (by rw [hbm]; decide)]
      subst e2
      clear K2 hbm
      go_wp2_with fail
      refine (wakes_any _).mono ?_
      rintro e w9 ⟨rfl, b9⟩
      have hb := belowGo HB.out b9
      go_wp2_with fail
      exact bodyPost_ret (results_tmp rfl _ _ _) rfl ⟨rfl, hb⟩
    | true =>
      have e2 : k2 = 0 := by rw [K2.out, if_pos hbm]
      subst e2
      clear K2 hbm
      go_wp2_with fail
      refine (wakes_any _).mono ?_
      rintro e w9 ⟨rfl, b9⟩
      have hb := belowGo HB.out b9
      go_wp2_with fail
      exact bodyPost_ret (results_tmp rfl _ _ _) rfl ⟨rfl, hb⟩
  | true =>
    have e1 : k1 = 0 := by rw [K1.out, if_pos ha]
    subst e1
    clear K1
    cases hbm : mayEd b with
    | false =>
      have e2 : k2 = 1 := by rw [K2.out, if_neg (by rw [hbm]; decide)]
      subst e2
      clear S1 ha K2 hbm
      go_wp2_with fail
      refine (wakes_any _).mono ?_
      rintro e w9 ⟨rfl, b9⟩
      have hb := belowGo HB.out b9
      go_wp2_with fail
      exact bodyPost_ret (results_tmp rfl _ _ _) rfl ⟨rfl, hb⟩
    | true =>
      have e2 : k2 = 0 := by rw [K2.out, if_pos hbm]
      subst e2
      clear K2
      have pa : putB a = edB a := by unfold putB; rw [ha]; rfl
      have pb : putB b = edB b := by unfold putB; rw [hbm]; rfl
      rw [pa] at r1
      rw [pb] at r2
      go_wp2_with (first
        | (refine wpList_value rfl (exec_load_blk rfl rfl Q1.out Try.underlying28 rfl (by rw [hzx]; kernel_rfl)) ?_)
        | (refine wpList_value rfl (exec_load_blk rfl rfl Q2.out Try.underlying28 rfl (by rw [hzy]; kernel_rfl)) ?_)
        | fail)
      refine S1.out.mono ?_
      rintro e w9 ⟨rfl, b9⟩
      obtain ⟨sm, hsm⟩ : ∃ s, s = decide (a = b) := ⟨_, rfl⟩
      rw [← hsm]
      have hb := belowGo HB.out b9
      have q1 := Q1.out.after b9
      have r1 := Lib.hid ((r1.below b9 (Nat.le_refl _)).more b9.size)
      have r2 := Lib.hid ((r2.below b9 (Nat.le_refl _)).more b9.size)
      have hkr : 1 ≤ a.kind ∧ a.kind ≤ 6 := by have := isKind_of ha; omega
      have heq : (edB a == edB b) = sm := by
        rw [hsm]
        apply Bool.eq_iff_iff.2
        rw [beq_iff_eq, decide_eq_true_eq]
        exact ⟨fun h => edB_prefix HFA.out HFB.out ha hbm (h ▸ List.prefix_refl _), fun h => by rw [h]⟩
      have hp1 : sm = false → (edB b).isPrefixOf (edB a) = false := fun h => by
        cases hh : (edB b).isPrefixOf (edB a) with
        | false => rfl
        | true =>
          have := edB_prefix HFB.out HFA.out hbm ha (List.isPrefixOf_iff_prefix.1 hh)
          rw [hsm, this] at h
          simp at h
      have hp2 : sm = false → (edB a).isPrefixOf (edB b) = false := fun h => by
        cases hh : (edB a).isPrefixOf (edB b) with
        | false => rfl
        | true =>
          have := edB_prefix HFA.out HFB.out ha hbm (List.isPrefixOf_iff_prefix.1 hh)
          rw [hsm, this] at h
          simp at h
      have hpos := edB_pos (d := a)
      have hhd := edB_head ha
      obtain ⟨la, hla⟩ : ∃ l, l = (edB a).length := ⟨_, rfl⟩
      obtain ⟨lb, hlb⟩ : ∃ l, l = (edB b).length := ⟨_, rfl⟩
      rw [pa, ← hla] at hk1
      rw [pb, ← hlb] at hk2
      rw [← hla] at hpos r1
      rw [← hlb] at r2
      rw [← hla, ← hlb]
      obtain ⟨pb0, po0, rfl, -, -⟩ := r1.out.2.2 hpos
      have hbx : (bcells (edB a))[0]? = some (.int .u8 a.kind) := by
        rw [bcells_get (k := 0) (by omega), ← hhd]
        congr 3
      have hpc := r1.out.cell rfl hpos hbx
      have hpb := (cell_addr hpc).2
      have HLA := Lib.hid hla
      have HLB := Lib.hid hlb
      clear S1 HB Q1 Q2 hbm ha hsm b9 HFA HFB hla hlb pa pb
      have HPC := fun W (h : Below w9.heap.size w9 W) => (h.cell (p := ⟨pb0, po0 + 0, none⟩) hpb).trans hpc
      have HPC := Lib.hid HPC
      have HB := Lib.hid hb
      have Q1 := Lib.hid q1
      have jw : IntKind.i64.wrap a.kind = a.kind := by rw [IntKind.wrap_i64]; omega
      have jk : (a.kind == a.kind) = true := by simp
      clear hhd hb q1 hpc hpb hbx
      have hla0 : (0 : Int) < (la : Int) := by omega
      have i1 : ¬ (la : Int) = 0 := by omega
      have i2 : (((la : Int)) == 0) = false := by simp; omega
      go_wp2_with fail
      cases sm with
      | false =>
        have heq : (edB a == edB b) = false := heq
        have HE := fun W (h : Below w9.heap.size w9 W) => Lib.hid (equal_any (edB a) (edB b) (some ⟨pb0, po0, none⟩) la c1 A2 lb c2 W (r1.out.below h (Nat.le_refl _)) (r2.out.below h (Nat.le_refl _)))
        rw [heq] at HE
        have HP1 := fun W (h : Below w9.heap.size w9 W) => Lib.hid (prefix_any (edB a) (edB b) (some ⟨pb0, po0, none⟩) la c1 A2 lb c2 W hk1 (r1.out.below h (Nat.le_refl _)) (r2.out.below h (Nat.le_refl _)))
        have HP2 := fun W (h : Below w9.heap.size w9 W) => Lib.hid (prefix_any (edB b) (edB a) A2 lb c2 (some ⟨pb0, po0, none⟩) la c1 W hk2 (r2.out.below h (Nat.le_refl _)) (r1.out.below h (Nat.le_refl _)))
        rw [hp1 rfl] at HP1
        rw [hp2 rfl] at HP2
        clear heq hp1 hp2
        have hud : ∀ b : Bool, (some undef = some (Value.bool b)) = False := fun b => by simp [undef]
        have hcur : Below w9.heap.size w9 w9.drew := ⟨rfl, rfl, rfl, Nat.le_refl _, fun _ _ => rfl⟩
        refine wp_region_plan (fun W => Below w9.heap.size w9 W) [.calms [0, 1, 3], .act 2, .act 4, .calms [5, 6, 7, 8, 9], .act 10, .calms [11, 12, 13, 14], .act 15, .calms [16, 17, 18, 19, 20, 21, 22, 25], .read 23, .calms [24], .act 26, .calms [27, 28, 29], .act 30, .calms [31, 32]] (by kernel_rfl) (by rfl) (by kernel_rfl) (by kernel_rfl) hcur ?_
        generalize w9.drew = w10 at *
        refine plan_calms (by simp [calmRow, need]; rfl) ?_
        go_wp2_with fail
        refine plan_act (by rfl) ?_
        go_wp2_with fail
        refine (HE _ hcur).out.mono ?_
        rintro e w11 ⟨rfl, rfl⟩
        go_wp2_with fail
        refine ⟨hcur, plan_act (by rfl) ?_⟩
        go_wp2_with fail
        refine ⟨hcur, plan_calms (by simp [calmRow, need]; rfl) ?_⟩
        go_wp2_with fail
        refine plan_act (by rfl) ?_
        go_wp2_with fail
        refine (HP1 _ hcur).out.mono ?_
        rintro e w11 ⟨rfl, rfl⟩
        go_wp2_with fail
        refine ⟨hcur, plan_calms (by simp [calmRow, need]; rfl) ?_⟩
        go_wp2_with fail
        refine plan_act (by rfl) ?_
        go_wp2_with fail
        refine (HP2 _ hcur).out.mono ?_
        rintro e w11 ⟨rfl, rfl⟩
        go_wp2_with fail
        refine ⟨hcur, plan_calms (by simp [calmRow, need]; rfl) ?_⟩
        go_wp2_with fail
        refine plan_read (by rfl) (.int .u8 a.kind) (by rfl) (fun W hW => exec_load rfl rfl (by kernel_rfl) (HPC.out W hW)) ?_
        refine plan_calms (by simp [calmRow, need, chk]; rfl) ?_
        go_wp2_with fail
        refine plan_act (by rfl) ?_
        refine wpList_value rfl (exec_load rfl rfl (by kernel_rfl) (((Q1.out.after hcur).cell 0).trans HX0.out)) ?_
        refine plan_next hcur ?_
        refine plan_calms (by simp [calmRow, need, chk]; rfl) ?_
        go_wp2_with fail
        refine plan_last (by rfl) (by kernel_rfl) ?_
        go_wp2_with fail
        refine (wakes_any _).mono ?_
        rintro e w12 ⟨rfl, b12⟩
        have hb := belowGo (belowGo HB.out hcur) b12
        go_wp2_with fail
        refine plan_calms (by simp [calmRow, need]; rfl) ?_
        go_wp2_with fail
        refine plan_end ?_
        go_wp2_with fail
        exact bodyPost_ret (results_tmp rfl _ _ _) rfl ⟨rfl, hb⟩
      | true =>
        have heq : (edB a == edB b) = true := heq
        have HE := fun W (h : Below w9.heap.size w9 W) => Lib.hid (equal_any (edB a) (edB b) (some ⟨pb0, po0, none⟩) la c1 A2 lb c2 W (r1.out.below h (Nat.le_refl _)) (r2.out.below h (Nat.le_refl _)))
        rw [heq] at HE
        clear heq hp1 hp2
        have hud : ∀ b : Bool, (some undef = some (Value.bool b)) = False := fun b => by simp [undef]
        have hcur : Below w9.heap.size w9 w9.drew := ⟨rfl, rfl, rfl, Nat.le_refl _, fun _ _ => rfl⟩
        refine wp_region_plan (fun W => Below w9.heap.size w9 W) [.calms [0, 1, 3], .act 2, .act 4, .calms [5, 6, 7, 8, 9], .act 10, .calms [11, 12, 13, 14], .act 15, .calms [16, 17, 18, 19, 20, 21, 22, 25], .read 23, .calms [24], .act 26, .calms [27, 28, 29], .act 30, .calms [31, 32]] (by kernel_rfl) (by rfl) (by kernel_rfl) (by kernel_rfl) hcur ?_
        generalize w9.drew = w10 at *
        refine plan_calms (by simp [calmRow, need]; rfl) ?_
        go_wp2_with fail
        refine plan_act (by rfl) ?_
        go_wp2_with fail
        refine (HE _ hcur).out.mono ?_
        rintro e w11 ⟨rfl, rfl⟩
        go_wp2_with fail
        refine ⟨hcur, plan_act (by rfl) ?_⟩
        go_wp2_with fail
        refine ⟨hcur, plan_calms (by simp [calmRow, need]; rfl) ?_⟩
        go_wp2_with fail
        refine plan_act (by rfl) ?_
        go_wp2_with fail
        refine ⟨hcur, plan_calms (by simp [calmRow, need]; rfl) ?_⟩
        go_wp2_with fail
        refine plan_act (by rfl) ?_
        go_wp2_with fail
        refine ⟨hcur, plan_calms (by simp [calmRow, need]; rfl) ?_⟩
        go_wp2_with fail
        refine plan_read (by rfl) (.int .u8 a.kind) (by rfl) (fun W hW => exec_load rfl rfl (by kernel_rfl) (HPC.out W hW)) ?_
        refine plan_calms (by simp [calmRow, need, chk]; rfl) ?_
        go_wp2_with fail
        refine plan_act (by rfl) ?_
        refine wpList_value rfl (exec_load rfl rfl (by kernel_rfl) (((Q1.out.after hcur).cell 0).trans HX0.out)) ?_
        refine plan_next hcur ?_
        refine plan_calms (by simp [calmRow, need, chk]; rfl) ?_
        go_wp2_with fail
        refine plan_last (by rfl) (by kernel_rfl) ?_
        go_wp2_with fail
        refine (wakes_any _).mono ?_
        rintro e w12 ⟨rfl, b12⟩
        have hb := belowGo (belowGo HB.out hcur) b12
        go_wp2_with fail
        refine plan_calms (by simp [calmRow, need]; rfl) ?_
        go_wp2_with fail
        refine plan_end ?_
        go_wp2_with fail
        exact bodyPost_ret (results_tmp rfl _ _ _) rfl ⟨rfl, hb⟩
end Go.Proofs.Ytedjolkkidciiaa
