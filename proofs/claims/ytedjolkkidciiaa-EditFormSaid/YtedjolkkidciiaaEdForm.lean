/- What the law EditForm comes to: true. -/
import Derived.Test.YtedjolkkidciiaaEdFLaw
import Derived.Test.YtedjolkkidciiaaEdSame
import Derived.Test.YtedjolkkidciiaaEdFew
import Derived.Test.YtedjolkkidciiaaEd11
namespace Go.Proofs.Ytedjolkkidciiaa
open Go.RowKit
attribute [local go_sem] Oper.semAt_some

theorem Rd.slTake {w : World} {B n : Nat} {A : Option Addr} {l : List Sl} (h : Rd w B 5 A n (slCells l)) (k : Nat) (hk : k ≤ n) : Rd w B 5 A k (slCells (l.take k)) := by
  rw [slCells_take]
  exact h.take hk

theorem same_self (d : Ed) (hd : d.fits) (A : Option Addr) (n c : Nat) (A' : Option Addr) (c' : Nat) (w : World) (hln : d.seals.length = n) (r : Rd w w.heap.size 5 A n (slCells d.seals)) (r' : Rd w w.heap.size 5 A' n (slCells d.seals)) (hn : n ≤ 1000000) :
    Calls Try.prog 21 #[.agg (edC d ⟨d.name.toArray⟩ (.slice A n c)), .agg (edC d ⟨d.name.toArray⟩ (.slice A' n c'))] w fun e w' => e = .returned (.bool true) ∧ Below w.heap.size w w' :=
  (same_any d d hd hd A n c A' n c' w hln hln r r' hn).mono fun _ _ h => ⟨by rw [h.1, decide_eq_true rfl], h.2⟩
theorem noneFits : Ed.none.fits := ⟨by decide, by decide, by decide, fun s hs => by cases hs⟩

set_option maxRecDepth 100000 in
set_option maxHeartbeats 8000000 in
theorem form_walk (d : Ed) (hd : d.fits0) (A : Option Addr) (n c : Nat) (l0 : List UInt8) (A' : Option Addr) (n' c' : Nat) (cut : Nat) (hcut : cut < 65536) (w : World) (hln : d.seals.length = n) (hnc : n ≤ c) (hnc' : n' ≤ c') (r : Rd w w.heap.size 5 A n (slCells d.seals)) (r' : Rd w w.heap.size 1 A' n' (bcells l0)) :
    Calls Try.prog 7 #[.agg (edC d ⟨d.name.toArray⟩ (.slice A n c)), .slice A' n' c', .int .u16 (cut : Int)] w fun e w' => e = .returned (.bool true) ∧ Below w.heap.size w w' := by
  have hmx := r.2.1
  have hmx' := r'.2.1
  unfold maxLen at hmx hmx'
  have HF := fun W => Lib.hid (few_any d A n c W hln hnc (by omega) hd.2.2.1)
  have fa := fewE_fits hd
  have hal : (fewE d).seals.length = min 210 n := by unfold fewE; simp only [List.length_take, hln]
  have ra : Rd w w.heap.size 5 A (fewE d).seals.length (slCells (fewE d).seals) := by
    rw [hal]
    have := r.slTake (min 210 n) (by omega)
    unfold fewE
    dsimp only
    rwa [show d.seals.take 210 = d.seals.take (min 210 n) by rw [← hln]; simp]
  have hlen' : l0.length = n' := by have := r'.1; rw [bcells_len] at this; omega
  obtain ⟨m, hm⟩ : ∃ m, m = min n' 3000 := ⟨_, rfl⟩
  have r2 : Rd w w.heap.size 1 A' m (bcells (l0.take m)) := r'.btake (by omega)
  have hllen : (l0.take m).length = m := by rw [List.length_take]; omega
  obtain ⟨E, hE⟩ : ∃ E, E = edC d ⟨d.name.toArray⟩ (.slice A n c) := ⟨_, rfl⟩
  have hz : E.size = 5 := by rw [hE]; rfl
  rw [← hE]
  rw [← hE] at HF
  unfold RetFew at HF
  have hmin : min (n' : Int) 3000 = (m : Int) := by omega
  have hm0 : m ≤ 3000 := by omega
  have hmn : m ≤ n' := by omega
  have hmc : m ≤ c' := by omega
  clear hE r r' hm hlen'
  generalize l0.take m = l at *
  generalize fewE d = a at *
  obtain ⟨l1, hl1⟩ : ∃ l, l = a.seals.length := ⟨_, rfl⟩
  rw [← hl1] at HF ra hal
  have hc1 : l1 ≤ c := by omega
  have h210 : l1 ≤ 210 := by omega
  obtain ⟨X, hX⟩ : ∃ E, E = edC a ⟨a.name.toArray⟩ (.slice A l1 c) := ⟨_, rfl⟩
  rw [← hX] at HF
  have hzx : X.size = 5 := by rw [hX]; rfl
  have hox : X.all (·.oneCell') = true := by rw [hX]; simp [edC, Value.oneCell']
  have PA := fun W (h : Below w.heap.size w W) => Lib.hid (putEd_any a fa A l1 c W hl1.symm ((ra.below h (Nat.le_refl _)).more h.size) hc1)
  have MA := fun W (h : Below w.heap.size w W) => Lib.hid (mayEd_any a fa A l1 c W hl1.symm ((ra.below h (Nat.le_refl _)).more h.size) hc1)
  have SM := fun W (h : Below w.heap.size w W) (B : Option Addr) (cB : Nat) (hB : Rd W W.heap.size 5 B l1 (slCells a.seals)) => Lib.hid (same_self a fa A l1 c B cB W hl1.symm ((ra.below h (Nat.le_refl _)).more h.size) hB (by omega))
  rw [← hX] at PA MA SM
  have GA := fun W (h : Below w.heap.size w W) => Lib.hid (getEd_any l A' m c' W hmc ((r2.below h (Nat.le_refl _)).more h.size))
  have HFA := Lib.hid fa
  have HL1 := Lib.hid hl1
  have HLL := Lib.hid hllen
  have R2 := Lib.hid r2
  have hni : (n' : Int) ≤ 9223372036854775807 := by omega
  have hmi : (m : Int) ≤ (c' : Int) := by omega
  clear hX hal hl1 ra fa hln hd hmx hmx' hllen r2
  have q1 := Blk.new w 28 E
  have hb := belowAlloc (Below.refl w.heap.size w) (.cells E 28)
  go_enter Try.func7, Try.ntmps7
  go_upto_region 1 with (fail)
  generalize w.alloc (.cells E 28) = w2 at *
  have q1 : Blk w2.drew w.heap.size 28 E := q1
  have hb : Below w.heap.size w w2.drew := ⟨hb.os, hb.tape, hb.output, hb.size, hb.block⟩
  have hcur := Below.refl w2.drew.heap.size w2.drew
  refine wp_region_plan (fun W => Below w2.drew.heap.size w2.drew W) [.calms [2, 3, 4, 5, 6], .act 0, .act 1, .act 7, .calms [8]] (by kernel_rfl) (by rfl) (by kernel_rfl) (by kernel_rfl) hcur ?_
  generalize w2.drew = w3 at *
  have Q1 := Lib.hid q1
  have HB := Lib.hid hb
  clear q1 hb
  refine plan_calms (by simp [calmRow, need, chk]; rfl) ?_
  go_wp2_with fail
  refine plan_act (by rfl) ?_
  refine wpList_value rfl (exec_load_blk rfl rfl Q1.out Try.underlying28 rfl (by rw [hz]; kernel_rfl)) ?_
  refine plan_next hcur ?_
  refine plan_act (by rfl) ?_
  go_wp2_with fail
  refine (HF w3).out.mono ?_
  rintro e w4 ⟨rfl, b4⟩
  have hcur := belowGo hcur b4
  go_wp2_with fail
  refine ⟨hcur, ?_⟩
  have q1 := Q1.out.after hcur
  have hb := belowGo HB.out hcur
  have Q1 := Lib.hid q1
  refine plan_last (by rfl) (by kernel_rfl) ?_
  refine wpList_storeB rfl 28 (.tmp 3) (.tmp 20) rfl rfl rfl Q1.out (by rw [hzx]; kernel_rfl) (by rw [hz, hzx]) hox ?_
  refine plan_done ?_
  refine plan_calms (by simp [calmRow, need]; rfl) ?_
  go_wp2_with fail
  refine plan_end ?_
  have q1 := Q1.out.row X
  have hb := row_below hb (Nat.le_refl _) X
  clear Q1 HB hcur b4 HF hox
  generalize w4.setRow w.heap.size X = w6 at *
  have Q1 := Lib.hid q1
  clear q1
  have P1 := PA w6 hb
  go_wp2_with (first
    | (refine wpList_value rfl (exec_load_blk rfl rfl Q1.out Try.underlying28 rfl (by rw [hzx]; kernel_rfl)) ?_)
    | fail)
  refine P1.out.mono ?_
  rintro e w7 ⟨v1, rfl, o1, b7⟩
  obtain ⟨A1, c1, rfl, hk1⟩ := own_cap o1
  have r1 := Rd.of_own o1
  have hb := belowGo hb b7
  have HB := Lib.hid hb
  have Q1 := Lib.hid (Q1.out.after b7)
  have M1 := MA w7 hb
  clear P1 o1 b7 PA MA hb
  cases ha : mayEd a with
  | false =>
    have pa : putB a = [] := by unfold putB; rw [ha]; rfl
    rw [pa]
    rw [ha] at M1
    rw [if_neg (show ¬ false = true by decide)]
    clear r1 hk1 pa ha
    have hud : ∀ b : Bool, (some undef = some (Value.bool b)) = False := fun b => by simp [undef]
    go_wp2_with (first
      | (refine wpList_value rfl (exec_load_blk rfl rfl Q1.out Try.underlying28 rfl (by rw [hzx]; kernel_rfl)) ?_)
      | fail)
    refine M1.out.mono ?_
    rintro e w8 ⟨rfl, b8⟩
    have hb := belowGo HB.out b8
    go_wp2_with fail
    have G1 := GA w8 hb
    clear GA
    refine G1.out.mono ?_
    rintro e wa ⟨v2, rfl, o2, ba⟩
    have hb := belowGo hb ba
    obtain ⟨A2, c2, rfl, hk2⟩ := own_cap o2
    have r2 := Rd.of_own o2
    have ex := fun y => rdEd_is (l := l) (d := y)
    have ee := fun z => rdEd_err (l := l) (e := z)
    clear o2 G1 ba
    cases hx : rdEd l with
    | error z =>
      have hge : getE l = (Ed.none, z) := by unfold getE; rw [hx]
      rw [hge] at r2 hk2
      rw [hge]
      have hz4 := ee z hx
      clear ex ee hx hge
      have r2 : Rd wa wa.heap.size 5 A2 0 (slCells []) := r2
      have SZ := fun W (h : Below wa.heap.size wa W) => Lib.hid (same_self Ed.none noneFits A2 0 c2 none 0 W rfl ((r2.below h (Nat.le_refl _)).more h.size) (Rd.nil_ _ _ _ _) (by omega))
      obtain ⟨Z, hZ⟩ : ∃ Z, Z = edC Ed.none ⟨Ed.none.name.toArray⟩ (.slice A2 0 c2) := ⟨_, rfl⟩
      have hsz : Z.size = 5 := by rw [hZ]; rfl
      have hoz : Z.all (·.oneCell') = true := by rw [hZ]; simp [edC, Value.oneCell']
      rw [← hZ] at SZ
      rw [show edC (Ed.none, z).1 ⟨(Ed.none, z).1.name.toArray⟩ (.slice A2 (Ed.none, z).1.seals.length c2) = Z from hZ.symm]
      have HB := Lib.hid hb
      clear hZ r2 hb hk2
      have qn := Blk.new wa 28 #[.int .i64 0, .string ⟨#[]⟩, .int .u64 0, .int .u32 0, .slice none 0 0]
      have bz := row_below (belowAlloc (Below.refl wa.heap.size wa) (.cells #[.int .i64 0, .string ⟨#[]⟩, .int .u64 0, .int .u32 0, .slice none 0 0] 28)) (Nat.le_refl _) Z
      have QZ := Lib.hid (qn.row Z)
      have QN := Lib.hid qn
      have BZ := Lib.hid bz
      clear qn bz
      rcases hz4 with rfl | rfl
      · have SZ1 := SZ _ BZ.out
        go_wp2_with (first
          | (refine wpList_storeB rfl 28 (.tmp 15) (.tmp 107) rfl rfl rfl QN.out (by rw [hsz]; kernel_rfl) (by rw [hsz]; rfl) hoz ?_)
          | (refine wpList_value rfl (exec_load_blk rfl rfl QZ.out Try.underlying28 rfl (by rw [hsz]; kernel_rfl)) ?_)
          | fail)

        refine SZ1.out.mono ?_
        rintro e wb ⟨rfl, bb⟩
        have hb := belowGo (belowGo HB.out BZ.out) bb
        go_wp2_with fail
        refine (wakes_any _).mono ?_
        rintro e wc ⟨rfl, bc⟩
        have hb := belowGo hb bc
        go_wp2_with fail
        exact bodyPost_ret (results_tmp rfl _ _ _) rfl ⟨rfl, hb⟩
      · have SZ1 := SZ _ BZ.out
        go_wp2_with (first
          | (refine wpList_storeB rfl 28 (.tmp 15) (.tmp 107) rfl rfl rfl QN.out (by rw [hsz]; kernel_rfl) (by rw [hsz]; rfl) hoz ?_)
          | (refine wpList_value rfl (exec_load_blk rfl rfl QZ.out Try.underlying28 rfl (by rw [hsz]; kernel_rfl)) ?_)
          | fail)

        refine SZ1.out.mono ?_
        rintro e wb ⟨rfl, bb⟩
        have hb := belowGo (belowGo HB.out BZ.out) bb
        go_wp2_with fail
        refine (wakes_any _).mono ?_
        rintro e wc ⟨rfl, bc⟩
        have hb := belowGo hb bc
        go_wp2_with fail
        exact bodyPost_ret (results_tmp rfl _ _ _) rfl ⟨rfl, hb⟩
    | ok y =>
      have hge : getE l = (y, 0) := by unfold getE; rw [hx]
      rw [hge] at r2 hk2
      rw [hge]
      obtain ⟨hyf, hym, hye⟩ := ex y hx
      clear ex ee hx hge
      have r2 : Rd wa wa.heap.size 5 A2 y.seals.length (slCells y.seals) := r2
      have hk2 : y.seals.length ≤ c2 := hk2
      have PY := fun W (h : Below wa.heap.size wa W) => Lib.hid (putEd_any y hyf A2 y.seals.length c2 W rfl ((r2.below h (Nat.le_refl _)).more h.size) hk2)
      have MY := fun W (h : Below wa.heap.size wa W) => Lib.hid (mayEd_any y hyf A2 y.seals.length c2 W rfl ((r2.below h (Nat.le_refl _)).more h.size) hk2)
      obtain ⟨Z, hZ⟩ : ∃ Z, Z = edC y ⟨y.name.toArray⟩ (.slice A2 y.seals.length c2) := ⟨_, rfl⟩
      have hsz : Z.size = 5 := by rw [hZ]; rfl
      have hoz : Z.all (·.oneCell') = true := by rw [hZ]; simp [edC, Value.oneCell']
      rw [← hZ] at PY MY
      rw [show edC (y, 0).1 ⟨(y, 0).1.name.toArray⟩ (.slice A2 (y, 0).1.seals.length c2) = Z from hZ.symm]
      have HB := Lib.hid hb
      have HYE := Lib.hid hye
      have HYM := Lib.hid hym
      clear hZ r2 hb hk2 hye hym
      have qn := Blk.new wa 28 #[.int .i64 0, .string ⟨#[]⟩, .int .u64 0, .int .u32 0, .slice none 0 0]
      have bz := row_below (belowAlloc (Below.refl wa.heap.size wa) (.cells #[.int .i64 0, .string ⟨#[]⟩, .int .u64 0, .int .u32 0, .slice none 0 0] 28)) (Nat.le_refl _) Z
      have QZ := Lib.hid (qn.row Z)
      have QN := Lib.hid qn
      have BZ := Lib.hid bz
      clear qn bz
      have P1 := PY _ BZ.out
      go_wp2_with (first
        | (refine wpList_storeB rfl 28 (.tmp 15) (.tmp 107) rfl rfl rfl QN.out (by rw [hsz]; kernel_rfl) (by rw [hsz]; rfl) hoz ?_)
        | (refine wpList_value rfl (exec_load_blk rfl rfl QZ.out Try.underlying28 rfl (by rw [hsz]; kernel_rfl)) ?_)
        | fail)

      refine P1.out.mono ?_
      rintro e wb ⟨v3, rfl, o3, b3⟩
      have py : putB y = l := by unfold putB; rw [HYM.out, ← HYE.out]; rfl
      rw [py, HLL.out] at o3
      rw [if_pos HYM.out]
      obtain ⟨A3, c3, rfl, hk3⟩ := own_cap o3
      have r3 := Rd.of_own o3
      have b5 := belowGo BZ.out b3
      have QY := Lib.hid (QZ.out.after b3)
      have M1 := MY wb b5
      rw [HYM.out] at M1
      clear o3 py P1 QZ QN PY MY b3 BZ hoz
      go_wp2_with (first
        | (refine wpList_value rfl (exec_load_blk rfl rfl QY.out Try.underlying28 rfl (by rw [hsz]; kernel_rfl)) ?_)
        | fail)
      refine M1.out.mono ?_
      rintro e wc ⟨rfl, bc⟩
      have hb := belowGo (belowGo HB.out b5) bc
      have E1 := Lib.hid (equal_any l l A3 m c3 A' m c' wc (r3.after bc) (R2.out.below hb (Nat.le_refl _)))
      rw [show (l == l) = true by simp] at E1
      clear r3 bc b5 HB QY M1
      go_wp2_with fail
      refine E1.out.mono ?_
      rintro e wd ⟨rfl, rfl⟩
      go_wp2_with fail
      refine (wakes_any _).mono ?_
      rintro e we ⟨rfl, be⟩
      have hb := belowGo hb be
      go_wp2_with fail
      exact bodyPost_ret (results_tmp rfl _ _ _) rfl ⟨rfl, hb⟩
  | true =>
    have pa : putB a = edB a := by unfold putB; rw [ha]; rfl
    rw [pa] at r1 hk1
    rw [pa]
    rw [ha] at M1
    rw [if_pos (show true = true from rfl)]
    have ge1 : getE (edB a) = (a, 0) := by unfold getE; rw [rdEd_put HFA.out ha]
    have ge2 : ∀ k, k < (edB a).length → getE ((edB a).take k) = (Ed.none, 4) := fun k hk => by unfold getE; rw [rdEd_cut HFA.out ha hk]
    have ge3 : l = [] → getE (edB a ++ l) = (a, 0) := fun e => by rw [e, List.append_nil, ge1]
    have ge4 : l ≠ [] → getE (edB a ++ l) = (Ed.none, 5) := fun e => by
      unfold getE
      rw [rdEd_form HFA.out ha]
      unfold rdFin
      rw [if_pos (List.length_pos_iff.2 e)]
    have hpos := edB_pos (d := a)
    have hle := edB_le a
    have hnm := HFA.out.2.2.1
    rw [← HL1.out] at hle
    obtain ⟨la, hla⟩ : ∃ l, l = (edB a).length := ⟨_, rfl⟩
    rw [← hla] at r1 hk1 hpos hle
    rw [← hla]
    have HLA := Lib.hid hla
    have R1 := Lib.hid r1
    obtain ⟨k, hk⟩ : ∃ k, k = cut % la := ⟨_, rfl⟩
    have hkl : k < la := by rw [hk]; exact Nat.mod_lt _ hpos
    have hmax : max (la : Int) 1 = (la : Int) := by omega
    have hrem : Int.tmod (cut : Int) (la : Int) = (k : Int) := by rw [hk, Int.tmod_eq_emod_of_nonneg (Int.natCast_nonneg _)]; simp
    have hla0 : ¬ (la : Int) = 0 := by omega
    have hkc : k ≤ c1 := by omega
    have hkci : (k : Int) ≤ (c1 : Int) := by omega
    have hla12 : la ≤ 1000000100000 := by omega
    have hlai : (la : Int) ≤ 9223372036854775807 := by omega
    have r1k := r1.btake (k := k) (by omega)
    have R1K := Lib.hid r1k
    have GE1 := Lib.hid ge1
    have GE2 := Lib.hid (ge2 k (by rw [← hla]; exact hkl))
    have GE3 := Lib.hid ge3
    have GE4 := Lib.hid ge4
    have HA := Lib.hid ha
    clear r1 r1k hla hk pa ge1 ge2 ge3 ge4 hnm hle ha
    have hud : ∀ b : Bool, (some undef = some (Value.bool b)) = False := fun b => by simp [undef]
    go_wp2_with (first
      | (refine wpList_value rfl (exec_load_blk rfl rfl Q1.out Try.underlying28 rfl (by rw [hzx]; kernel_rfl)) ?_)
      | fail)
    refine M1.out.mono ?_
    rintro e w8 ⟨rfl, b8⟩
    have h7 := b8
    have G1 := Lib.hid (getEd_any (edB a) A1 la c1 w8 hk1 (R1.out.after h7))
    clear M1 b8
    go_wp2_with fail
    refine G1.out.mono ?_
    rintro e wa ⟨v2, rfl, o2, ba⟩
    rw [GE1.out] at o2
    rw [GE1.out]
    have h7 := belowGo h7 ba
    obtain ⟨B1, d1, rfl, hj1⟩ := own_cap o2
    have y1 := Rd.of_own o2
    have y1 : Rd wa wa.heap.size 5 B1 a.seals.length (slCells a.seals) := y1
    obtain ⟨Y, hY⟩ : ∃ Z, Z = edC a ⟨(a).name.toArray⟩ (.slice B1 a.seals.length d1) := ⟨_, rfl⟩
    have hsY : Y.size = 5 := by rw [hY]; rfl
    have hoY : Y.all (·.oneCell') = true := by rw [hY]; simp [edC, Value.oneCell']
    rw [show edC (a, 0).1 ⟨(a, 0).1.name.toArray⟩ (.slice B1 (a, 0).1.seals.length d1) = Y from hY.symm]
    rw [← HL1.out] at y1 hY
    have qnY := Blk.new wa 28 #[.int .i64 0, .string ⟨#[]⟩, .int .u64 0, .int .u32 0, .slice none 0 0]
    have bzY := row_below (belowAlloc (Below.refl wa.heap.size wa) (.cells #[.int .i64 0, .string ⟨#[]⟩, .int .u64 0, .int .u32 0, .slice none 0 0] 28)) (Nat.le_refl _) Y
    have QZY := Lib.hid (qnY.row Y)
    have QNY := Lib.hid qnY
    have BZY := Lib.hid bzY
    clear qnY bzY
    have Y1 := Lib.hid y1
    have HY := Lib.hid hY
    clear G1 o2 ba hj1 y1 hY
    have h7 := belowGo h7 BZY.out
    have G2 := fun W (h : Below w7.heap.size w7 W) => Lib.hid (getEd_any ((edB a).take k) A1 k c1 W hkc (R1K.out.after h))
    have G2a := G2 _ h7
    clear G2
    go_wp2_with (first
      | (refine wpList_storeB rfl 28 (.tmp 9) (.tmp 54) rfl rfl rfl QNY.out (by rw [hsY]; kernel_rfl) (by rw [hsY]; rfl) hoY ?_)
      | fail)
    refine G2a.out.mono ?_
    rintro e wb ⟨v3, rfl, o3, bb⟩
    rw [GE2.out] at o3
    rw [GE2.out]
    have h7 := belowGo h7 bb
    obtain ⟨B2, d2, rfl, hj2⟩ := own_cap o3
    obtain ⟨V, hV⟩ : ∃ Z, Z = edC Ed.none ⟨(Ed.none).name.toArray⟩ (.slice B2 0 d2) := ⟨_, rfl⟩
    have hsV : V.size = 5 := by rw [hV]; rfl
    have hoV : V.all (·.oneCell') = true := by rw [hV]; simp [edC, Value.oneCell']
    rw [show edC (Ed.none, 4).1 ⟨(Ed.none, 4).1.name.toArray⟩ (.slice B2 (Ed.none, 4).1.seals.length d2) = V from hV.symm]
    have qnV := Blk.new wb 28 #[.int .i64 0, .string ⟨#[]⟩, .int .u64 0, .int .u32 0, .slice none 0 0]
    have bzV := row_below (belowAlloc (Below.refl wb.heap.size wb) (.cells #[.int .i64 0, .string ⟨#[]⟩, .int .u64 0, .int .u32 0, .slice none 0 0] 28)) (Nat.le_refl _) V
    have QZV := Lib.hid (qnV.row V)
    have QNV := Lib.hid qnV
    have BZV := Lib.hid bzV
    clear qnV bzV
    have QY2 := Lib.hid ((QZY.out.after bb).after BZV.out)
    have QX2 := Lib.hid (Q1.out.after (belowGo h7 BZV.out))
    have y2 := (((Y1.out.after BZY.out).after bb).after BZV.out)
    have h7 := belowGo h7 BZV.out
    have S2 := SM _ (belowGo HB.out h7) B1 d1 y2
    rw [← HY.out] at S2
    clear G2a o3 hj2 hV bb y2
    go_wp2_with (first
      | (refine wpList_storeB rfl 28 (.tmp 11) (.tmp 66) rfl rfl rfl QNV.out (by rw [hsV]; kernel_rfl) (by rw [hsV]; rfl) hoV ?_)
      | (refine wpList_value rfl (exec_load_blk rfl rfl QX2.out Try.underlying28 rfl (by rw [hzx]; kernel_rfl)) ?_)
      | (refine wpList_value rfl (exec_load_blk rfl rfl QY2.out Try.underlying28 rfl (by rw [hsY]; kernel_rfl)) ?_)
      | fail)
    refine S2.out.mono ?_
    rintro e wc ⟨rfl, bc⟩
    have h7 := belowGo h7 bc
    have R1C := Lib.hid (R1.out.after h7)
    have CL := Lib.hid (clone_any (edB a) A1 la c1 wc R1C.out (by omega))
    clear S2 bc QY2 QX2 QNV QZV BZV QZY QNY BZY HY Y1 R1K SM
    go_wp2_with (first
      | fail)
    refine CL.out.mono ?_
    rintro e wd ⟨v4, rfl, o4, bd⟩
    have h8 := belowGo h7 bd
    have r2d := R2.out.below (belowGo HB.out h8) (Nat.le_refl _)
    clear CL R1C
    go_wp2_with (first
      | (at_builtin; refine wpList_app eltU8 rfl (.tmp 82) (.tmp 83) rfl rfl o4 rfl r2d (bcells_one _) (by omega) (by unfold maxLen; omega) bd bd.size ?_; intro v5 we o5 be g5 x5; clear g5 x5; obtain ⟨A5, c5, rfl, hk5⟩ := own_cap o5)
      | fail)
    rw [← bcells_append] at o5
    have G5 := Lib.hid (getEd_any (edB a ++ l) A5 (la + m) c5 we hk5 (Rd.of_own o5))
    have h7 := belowGo h7 be
    clear o4 bd h8 r2d o5 be hk5
    refine G5.out.mono ?_
    rintro e wf ⟨v6, rfl, o6, bf⟩
    have h7 := belowGo h7 bf
    clear G5 bf Q1 HA
    by_cases hm1 : m = 0
    · have hl0 : l = [] := List.eq_nil_of_length_eq_zero (by rw [HLL.out, hm1])
      rw [GE3.out hl0] at o6
      rw [GE3.out hl0]
      have i1 : ¬ 0 < (m : Int) := by omega
      have HM1 := Lib.hid hm1
      have HL0 := Lib.hid hl0
      clear hm1 hl0
      obtain ⟨B3, d3, rfl, hj3⟩ := own_cap o6
      obtain ⟨U, hU⟩ : ∃ Z, Z = edC a ⟨(a).name.toArray⟩ (.slice B3 a.seals.length d3) := ⟨_, rfl⟩
      have hsU : U.size = 5 := by rw [hU]; rfl
      have hoU : U.all (·.oneCell') = true := by rw [hU]; simp [edC, Value.oneCell']
      rw [show edC (a, 0).1 ⟨(a, 0).1.name.toArray⟩ (.slice B3 (a, 0).1.seals.length d3) = U from hU.symm]
      have qnU := Blk.new wf 28 #[.int .i64 0, .string ⟨#[]⟩, .int .u64 0, .int .u32 0, .slice none 0 0]
      have bzU := row_below (belowAlloc (Below.refl wf.heap.size wf) (.cells #[.int .i64 0, .string ⟨#[]⟩, .int .u64 0, .int .u32 0, .slice none 0 0] 28)) (Nat.le_refl _) U
      have QZU := Lib.hid (qnU.row U)
      have QNU := Lib.hid qnU
      have BZU := Lib.hid bzU
      clear qnU bzU
      clear o6 hj3 hU
      have hb := belowGo HB.out (belowGo h7 BZU.out)
      go_wp2_with (first
        | (refine wpList_storeB rfl 28 (.tmp 13) (.tmp 86) rfl rfl rfl QNU.out (by rw [hsU]; kernel_rfl) (by rw [hsU]; rfl) hoU ?_)
        | fail)
      clear h7 HB QNU QZU BZU
      have G1 := GA _ hb
      clear GA
      refine G1.out.mono ?_
      rintro e wa ⟨v2, rfl, o2, ba⟩
      have hb := belowGo hb ba
      obtain ⟨A2, c2, rfl, hk2⟩ := own_cap o2
      have r2 := Rd.of_own o2
      have ex := fun y => rdEd_is (l := l) (d := y)
      have ee := fun z => rdEd_err (l := l) (e := z)
      clear o2 G1 ba
      cases hx : rdEd l with
      | error z =>
        have hge : getE l = (Ed.none, z) := by unfold getE; rw [hx]
        rw [hge] at r2 hk2
        rw [hge]
        have hz4 := ee z hx
        clear ex ee hx hge
        have r2 : Rd wa wa.heap.size 5 A2 0 (slCells []) := r2
        have SZ := fun W (h : Below wa.heap.size wa W) => Lib.hid (same_self Ed.none noneFits A2 0 c2 none 0 W rfl ((r2.below h (Nat.le_refl _)).more h.size) (Rd.nil_ _ _ _ _) (by omega))
        obtain ⟨Z, hZ⟩ : ∃ Z, Z = edC Ed.none ⟨Ed.none.name.toArray⟩ (.slice A2 0 c2) := ⟨_, rfl⟩
        have hsz : Z.size = 5 := by rw [hZ]; rfl
        have hoz : Z.all (·.oneCell') = true := by rw [hZ]; simp [edC, Value.oneCell']
        rw [← hZ] at SZ
        rw [show edC (Ed.none, z).1 ⟨(Ed.none, z).1.name.toArray⟩ (.slice A2 (Ed.none, z).1.seals.length c2) = Z from hZ.symm]
        have HB := Lib.hid hb
        clear hZ r2 hb hk2
        have qn := Blk.new wa 28 #[.int .i64 0, .string ⟨#[]⟩, .int .u64 0, .int .u32 0, .slice none 0 0]
        have bz := row_below (belowAlloc (Below.refl wa.heap.size wa) (.cells #[.int .i64 0, .string ⟨#[]⟩, .int .u64 0, .int .u32 0, .slice none 0 0] 28)) (Nat.le_refl _) Z
        have QZ := Lib.hid (qn.row Z)
        have QN := Lib.hid qn
        have BZ := Lib.hid bz
        clear qn bz
        rcases hz4 with rfl | rfl
        · have SZ1 := SZ _ BZ.out
          go_wp2_with (first
            | (refine wpList_storeB rfl 28 (.tmp 15) (.tmp 107) rfl rfl rfl QN.out (by rw [hsz]; kernel_rfl) (by rw [hsz]; rfl) hoz ?_)
            | (refine wpList_value rfl (exec_load_blk rfl rfl QZ.out Try.underlying28 rfl (by rw [hsz]; kernel_rfl)) ?_)
            | fail)

          refine SZ1.out.mono ?_
          rintro e wb ⟨rfl, bb⟩
          have hb := belowGo (belowGo HB.out BZ.out) bb
          go_wp2_with fail
          refine (wakes_any _).mono ?_
          rintro e wc ⟨rfl, bc⟩
          have hb := belowGo hb bc
          go_wp2_with fail
          exact bodyPost_ret (results_tmp rfl _ _ _) rfl ⟨rfl, hb⟩
        · have SZ1 := SZ _ BZ.out
          go_wp2_with (first
            | (refine wpList_storeB rfl 28 (.tmp 15) (.tmp 107) rfl rfl rfl QN.out (by rw [hsz]; kernel_rfl) (by rw [hsz]; rfl) hoz ?_)
            | (refine wpList_value rfl (exec_load_blk rfl rfl QZ.out Try.underlying28 rfl (by rw [hsz]; kernel_rfl)) ?_)
            | fail)

          refine SZ1.out.mono ?_
          rintro e wb ⟨rfl, bb⟩
          have hb := belowGo (belowGo HB.out BZ.out) bb
          go_wp2_with fail
          refine (wakes_any _).mono ?_
          rintro e wc ⟨rfl, bc⟩
          have hb := belowGo hb bc
          go_wp2_with fail
          exact bodyPost_ret (results_tmp rfl _ _ _) rfl ⟨rfl, hb⟩
      | ok y =>
        have hge : getE l = (y, 0) := by unfold getE; rw [hx]
        rw [hge] at r2 hk2
        rw [hge]
        obtain ⟨hyf, hym, hye⟩ := ex y hx
        clear ex ee hx hge
        have r2 : Rd wa wa.heap.size 5 A2 y.seals.length (slCells y.seals) := r2
        have hk2 : y.seals.length ≤ c2 := hk2
        have PY := fun W (h : Below wa.heap.size wa W) => Lib.hid (putEd_any y hyf A2 y.seals.length c2 W rfl ((r2.below h (Nat.le_refl _)).more h.size) hk2)
        have MY := fun W (h : Below wa.heap.size wa W) => Lib.hid (mayEd_any y hyf A2 y.seals.length c2 W rfl ((r2.below h (Nat.le_refl _)).more h.size) hk2)
        obtain ⟨Z, hZ⟩ : ∃ Z, Z = edC y ⟨y.name.toArray⟩ (.slice A2 y.seals.length c2) := ⟨_, rfl⟩
        have hsz : Z.size = 5 := by rw [hZ]; rfl
        have hoz : Z.all (·.oneCell') = true := by rw [hZ]; simp [edC, Value.oneCell']
        rw [← hZ] at PY MY
        rw [show edC (y, 0).1 ⟨(y, 0).1.name.toArray⟩ (.slice A2 (y, 0).1.seals.length c2) = Z from hZ.symm]
        have HB := Lib.hid hb
        have HYE := Lib.hid hye
        have HYM := Lib.hid hym
        clear hZ r2 hb hk2 hye hym
        have qn := Blk.new wa 28 #[.int .i64 0, .string ⟨#[]⟩, .int .u64 0, .int .u32 0, .slice none 0 0]
        have bz := row_below (belowAlloc (Below.refl wa.heap.size wa) (.cells #[.int .i64 0, .string ⟨#[]⟩, .int .u64 0, .int .u32 0, .slice none 0 0] 28)) (Nat.le_refl _) Z
        have QZ := Lib.hid (qn.row Z)
        have QN := Lib.hid qn
        have BZ := Lib.hid bz
        clear qn bz
        have P1 := PY _ BZ.out
        go_wp2_with (first
          | (refine wpList_storeB rfl 28 (.tmp 15) (.tmp 107) rfl rfl rfl QN.out (by rw [hsz]; kernel_rfl) (by rw [hsz]; rfl) hoz ?_)
          | (refine wpList_value rfl (exec_load_blk rfl rfl QZ.out Try.underlying28 rfl (by rw [hsz]; kernel_rfl)) ?_)
          | fail)

        refine P1.out.mono ?_
        rintro e wb ⟨v3, rfl, o3, b3⟩
        have py : putB y = l := by unfold putB; rw [HYM.out, ← HYE.out]; rfl
        rw [py, HLL.out] at o3
        rw [if_pos HYM.out]
        obtain ⟨A3, c3, rfl, hk3⟩ := own_cap o3
        have r3 := Rd.of_own o3
        have b5 := belowGo BZ.out b3
        have QY := Lib.hid (QZ.out.after b3)
        have M1 := MY wb b5
        rw [HYM.out] at M1
        clear o3 py P1 QZ QN PY MY b3 BZ hoz
        go_wp2_with (first
          | (refine wpList_value rfl (exec_load_blk rfl rfl QY.out Try.underlying28 rfl (by rw [hsz]; kernel_rfl)) ?_)
          | fail)
        refine M1.out.mono ?_
        rintro e wc ⟨rfl, bc⟩
        have hb := belowGo (belowGo HB.out b5) bc
        have E1 := Lib.hid (equal_any l l A3 m c3 A' m c' wc (r3.after bc) (R2.out.below hb (Nat.le_refl _)))
        rw [show (l == l) = true by simp] at E1
        clear r3 bc b5 HB QY M1
        go_wp2_with fail
        refine E1.out.mono ?_
        rintro e wd ⟨rfl, rfl⟩
        go_wp2_with fail
        refine (wakes_any _).mono ?_
        rintro e we ⟨rfl, be⟩
        have hb := belowGo hb be
        go_wp2_with fail
        exact bodyPost_ret (results_tmp rfl _ _ _) rfl ⟨rfl, hb⟩
    · have hl0 : l ≠ [] := fun e => hm1 (by rw [← HLL.out, e]; rfl)
      rw [GE4.out hl0] at o6
      rw [GE4.out hl0]
      have i1 : ¬ (m : Int) = 0 := by omega
      have i2 : ((m : Int) == 0) = false := by simp; omega
      obtain ⟨B3, d3, rfl, hj3⟩ := own_cap o6
      obtain ⟨U, hU⟩ : ∃ Z, Z = edC Ed.none ⟨(Ed.none).name.toArray⟩ (.slice B3 0 d3) := ⟨_, rfl⟩
      have hsU : U.size = 5 := by rw [hU]; rfl
      have hoU : U.all (·.oneCell') = true := by rw [hU]; simp [edC, Value.oneCell']
      rw [show edC (Ed.none, 5).1 ⟨(Ed.none, 5).1.name.toArray⟩ (.slice B3 (Ed.none, 5).1.seals.length d3) = U from hU.symm]
      have qnU := Blk.new wf 28 #[.int .i64 0, .string ⟨#[]⟩, .int .u64 0, .int .u32 0, .slice none 0 0]
      have bzU := row_below (belowAlloc (Below.refl wf.heap.size wf) (.cells #[.int .i64 0, .string ⟨#[]⟩, .int .u64 0, .int .u32 0, .slice none 0 0] 28)) (Nat.le_refl _) U
      have QZU := Lib.hid (qnU.row U)
      have QNU := Lib.hid qnU
      have BZU := Lib.hid bzU
      clear qnU bzU
      clear o6 hj3 hU
      have hb := belowGo HB.out (belowGo h7 BZU.out)
      go_wp2_with (first
        | (refine wpList_storeB rfl 28 (.tmp 13) (.tmp 86) rfl rfl rfl QNU.out (by rw [hsU]; kernel_rfl) (by rw [hsU]; rfl) hoU ?_)
        | fail)
      clear h7 HB QNU QZU BZU
      have G1 := GA _ hb
      clear GA
      refine G1.out.mono ?_
      rintro e wa ⟨v2, rfl, o2, ba⟩
      have hb := belowGo hb ba
      obtain ⟨A2, c2, rfl, hk2⟩ := own_cap o2
      have r2 := Rd.of_own o2
      have ex := fun y => rdEd_is (l := l) (d := y)
      have ee := fun z => rdEd_err (l := l) (e := z)
      clear o2 G1 ba
      cases hx : rdEd l with
      | error z =>
        have hge : getE l = (Ed.none, z) := by unfold getE; rw [hx]
        rw [hge] at r2 hk2
        rw [hge]
        have hz4 := ee z hx
        clear ex ee hx hge
        have r2 : Rd wa wa.heap.size 5 A2 0 (slCells []) := r2
        have SZ := fun W (h : Below wa.heap.size wa W) => Lib.hid (same_self Ed.none noneFits A2 0 c2 none 0 W rfl ((r2.below h (Nat.le_refl _)).more h.size) (Rd.nil_ _ _ _ _) (by omega))
        obtain ⟨Z, hZ⟩ : ∃ Z, Z = edC Ed.none ⟨Ed.none.name.toArray⟩ (.slice A2 0 c2) := ⟨_, rfl⟩
        have hsz : Z.size = 5 := by rw [hZ]; rfl
        have hoz : Z.all (·.oneCell') = true := by rw [hZ]; simp [edC, Value.oneCell']
        rw [← hZ] at SZ
        rw [show edC (Ed.none, z).1 ⟨(Ed.none, z).1.name.toArray⟩ (.slice A2 (Ed.none, z).1.seals.length c2) = Z from hZ.symm]
        have HB := Lib.hid hb
        clear hZ r2 hb hk2
        have qn := Blk.new wa 28 #[.int .i64 0, .string ⟨#[]⟩, .int .u64 0, .int .u32 0, .slice none 0 0]
        have bz := row_below (belowAlloc (Below.refl wa.heap.size wa) (.cells #[.int .i64 0, .string ⟨#[]⟩, .int .u64 0, .int .u32 0, .slice none 0 0] 28)) (Nat.le_refl _) Z
        have QZ := Lib.hid (qn.row Z)
        have QN := Lib.hid qn
        have BZ := Lib.hid bz
        clear qn bz
        rcases hz4 with rfl | rfl
        · have SZ1 := SZ _ BZ.out
          go_wp2_with (first
            | (refine wpList_storeB rfl 28 (.tmp 15) (.tmp 107) rfl rfl rfl QN.out (by rw [hsz]; kernel_rfl) (by rw [hsz]; rfl) hoz ?_)
            | (refine wpList_value rfl (exec_load_blk rfl rfl QZ.out Try.underlying28 rfl (by rw [hsz]; kernel_rfl)) ?_)
            | fail)

          refine SZ1.out.mono ?_
          rintro e wb ⟨rfl, bb⟩
          have hb := belowGo (belowGo HB.out BZ.out) bb
          go_wp2_with fail
          refine (wakes_any _).mono ?_
          rintro e wc ⟨rfl, bc⟩
          have hb := belowGo hb bc
          go_wp2_with fail
          exact bodyPost_ret (results_tmp rfl _ _ _) rfl ⟨rfl, hb⟩
        · have SZ1 := SZ _ BZ.out
          go_wp2_with (first
            | (refine wpList_storeB rfl 28 (.tmp 15) (.tmp 107) rfl rfl rfl QN.out (by rw [hsz]; kernel_rfl) (by rw [hsz]; rfl) hoz ?_)
            | (refine wpList_value rfl (exec_load_blk rfl rfl QZ.out Try.underlying28 rfl (by rw [hsz]; kernel_rfl)) ?_)
            | fail)

          refine SZ1.out.mono ?_
          rintro e wb ⟨rfl, bb⟩
          have hb := belowGo (belowGo HB.out BZ.out) bb
          go_wp2_with fail
          refine (wakes_any _).mono ?_
          rintro e wc ⟨rfl, bc⟩
          have hb := belowGo hb bc
          go_wp2_with fail
          exact bodyPost_ret (results_tmp rfl _ _ _) rfl ⟨rfl, hb⟩
      | ok y =>
        have hge : getE l = (y, 0) := by unfold getE; rw [hx]
        rw [hge] at r2 hk2
        rw [hge]
        obtain ⟨hyf, hym, hye⟩ := ex y hx
        clear ex ee hx hge
        have r2 : Rd wa wa.heap.size 5 A2 y.seals.length (slCells y.seals) := r2
        have hk2 : y.seals.length ≤ c2 := hk2
        have PY := fun W (h : Below wa.heap.size wa W) => Lib.hid (putEd_any y hyf A2 y.seals.length c2 W rfl ((r2.below h (Nat.le_refl _)).more h.size) hk2)
        have MY := fun W (h : Below wa.heap.size wa W) => Lib.hid (mayEd_any y hyf A2 y.seals.length c2 W rfl ((r2.below h (Nat.le_refl _)).more h.size) hk2)
        obtain ⟨Z, hZ⟩ : ∃ Z, Z = edC y ⟨y.name.toArray⟩ (.slice A2 y.seals.length c2) := ⟨_, rfl⟩
        have hsz : Z.size = 5 := by rw [hZ]; rfl
        have hoz : Z.all (·.oneCell') = true := by rw [hZ]; simp [edC, Value.oneCell']
        rw [← hZ] at PY MY
        rw [show edC (y, 0).1 ⟨(y, 0).1.name.toArray⟩ (.slice A2 (y, 0).1.seals.length c2) = Z from hZ.symm]
        have HB := Lib.hid hb
        have HYE := Lib.hid hye
        have HYM := Lib.hid hym
        clear hZ r2 hb hk2 hye hym
        have qn := Blk.new wa 28 #[.int .i64 0, .string ⟨#[]⟩, .int .u64 0, .int .u32 0, .slice none 0 0]
        have bz := row_below (belowAlloc (Below.refl wa.heap.size wa) (.cells #[.int .i64 0, .string ⟨#[]⟩, .int .u64 0, .int .u32 0, .slice none 0 0] 28)) (Nat.le_refl _) Z
        have QZ := Lib.hid (qn.row Z)
        have QN := Lib.hid qn
        have BZ := Lib.hid bz
        clear qn bz
        have P1 := PY _ BZ.out
        go_wp2_with (first
          | (refine wpList_storeB rfl 28 (.tmp 15) (.tmp 107) rfl rfl rfl QN.out (by rw [hsz]; kernel_rfl) (by rw [hsz]; rfl) hoz ?_)
          | (refine wpList_value rfl (exec_load_blk rfl rfl QZ.out Try.underlying28 rfl (by rw [hsz]; kernel_rfl)) ?_)
          | fail)

        refine P1.out.mono ?_
        rintro e wb ⟨v3, rfl, o3, b3⟩
        have py : putB y = l := by unfold putB; rw [HYM.out, ← HYE.out]; rfl
        rw [py, HLL.out] at o3
        rw [if_pos HYM.out]
        obtain ⟨A3, c3, rfl, hk3⟩ := own_cap o3
        have r3 := Rd.of_own o3
        have b5 := belowGo BZ.out b3
        have QY := Lib.hid (QZ.out.after b3)
        have M1 := MY wb b5
        rw [HYM.out] at M1
        clear o3 py P1 QZ QN PY MY b3 BZ hoz
        go_wp2_with (first
          | (refine wpList_value rfl (exec_load_blk rfl rfl QY.out Try.underlying28 rfl (by rw [hsz]; kernel_rfl)) ?_)
          | fail)
        refine M1.out.mono ?_
        rintro e wc ⟨rfl, bc⟩
        have hb := belowGo (belowGo HB.out b5) bc
        have E1 := Lib.hid (equal_any l l A3 m c3 A' m c' wc (r3.after bc) (R2.out.below hb (Nat.le_refl _)))
        rw [show (l == l) = true by simp] at E1
        clear r3 bc b5 HB QY M1
        go_wp2_with fail
        refine E1.out.mono ?_
        rintro e wd ⟨rfl, rfl⟩
        go_wp2_with fail
        refine (wakes_any _).mono ?_
        rintro e we ⟨rfl, be⟩
        have hb := belowGo hb be
        go_wp2_with fail
        exact bodyPost_ret (results_tmp rfl _ _ _) rfl ⟨rfl, hb⟩
end Go.Proofs.Ytedjolkkidciiaa
