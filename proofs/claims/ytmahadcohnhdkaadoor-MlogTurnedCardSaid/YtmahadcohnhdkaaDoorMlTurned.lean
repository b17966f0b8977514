/- MlogTurned: the walk. -/
import Derived.Test.YtmahadcohnhdkaaDoorMlBegins
import Derived.Test.YtmahadcohnhdkaaDoorMlTurnLaw
import Derived.Test.YtmahadcohnhdkaaDoorGB
namespace Go.Proofs.YtmahadcohnhdkaaDoor
open Go.RowKit
attribute [local go_sem] Oper.semAt_some

def TurnR (D : List Ed) (f8 i m en tn : Nat) : Prop := (m = 0 ∧ en = 0 ∧ tn = 16 ∧ (i = 0 ∨ f8 < 16)) ∨ (m < i ∧ en = endD D m ∧ tn = endD D (m + 1) ∧ en ≤ f8 ∧ (i = m + 1 ∨ f8 < tn))
theorem endD_zero (D : List Ed) : endD D 0 = 16 := by rw [endD_eq]; simp
theorem TurnR.stay {D : List Ed} {f8 i m en tn : Nat} (h : TurnR D f8 i m en tn) (h1 : f8 < endD D i) : TurnR D f8 (i + 1) m en tn := by
  have h0 := endD_zero D
  rcases h with ⟨h2, h3, h4, h5⟩ | ⟨h2, h3, h4, h5, h6⟩
  · refine .inl ⟨h2, h3, h4, .inr ?_⟩
    rcases h5 with h5 | h5
    · subst h5; omega
    · exact h5
  · refine .inr ⟨by omega, h3, h4, h5, .inr ?_⟩
    rcases h6 with h6 | h6
    · subst h6; omega
    · exact h6
theorem TurnR.go {D : List Ed} {f8 i : Nat} (h1 : endD D i ≤ f8) : TurnR D f8 (i + 1) i (endD D i) (endD D (i + 1)) := .inr ⟨by omega, rfl, rfl, h1, .inl rfl⟩

set_option maxRecDepth 100000 in
set_option maxHeartbeats 8000000 in
theorem turnedM_walk (l : List EdX) (A : Option Addr) (n c at_ by_ : Nat) (w : World) (hT : Tab w) (hn : l.length = n) (hr : Rd w w.heap.size 5 A n (exCells l)) (hf : ∀ x ∈ l, x.fit0 ∧ Rd w w.heap.size 5 x.A x.n (slCells x.d.seals)) (hat : at_ < 4294967296) (hby : by_ < 4294967296) :
    Calls Tryd.prog 6 #[.slice A n c, .int .u32 (at_ : Int), .int .u32 (by_ : Int)] w fun e w' => e = .returned (.bool true) ∧ Below w.heap.size w w' := by
  have HTL := Lib.hid hT.1
  have HT := Lib.hid hT
  have MY := Lib.hid (may_loop l A n c w hT hn hr hf)
  have HOK := Lib.hid (fun x (hx : x ∈ mayX (fewT l 12)) => (⟨fewT_ok (k := 12) hf x ((List.mem_filter.1 hx).1), (List.mem_filter.1 hx).2⟩ : x.ok w w.heap.size ∧ mayEd x.d = true))
  obtain ⟨N, hN⟩ : ∃ N, N = (mayX (fewT l 12)).length := ⟨_, rfl⟩
  have hN12 : N ≤ 12 := by
    have h1 := List.length_filter_le (fun x : EdX => mayEd x.d) (fewT l 12)
    have h2 := fewT_len l 12
    unfold mayX at hN
    omega
  unfold RetMay at MY
  generalize mayX (fewT l 12) = X at *
  have hall : (X.map EdX.d).all mayEd = true := List.all_eq_true.2 fun d hd => by
    obtain ⟨x, hx, rfl⟩ := List.mem_map.1 hd
    exact (HOK.out x hx).2
  have HD := Lib.hid (fun d (hd : d ∈ X.map EdX.d) => show d.fits ∧ mayEd d = true from by
    obtain ⟨x, hx, rfl⟩ := List.mem_map.1 hd
    exact ⟨(HOK.out x hx).1.1, (HOK.out x hx).2⟩)
  have HDL : Hid ((X.map EdX.d).length = N) := Lib.hid (by rw [List.length_map, hN])
  have hL16 := bytesM_len (X.map EdX.d)
  have hLm := frames_len hall
  have hEN : endD (X.map EdX.d) N = (bytesM (X.map EdX.d)).length := by unfold endD; rw [List.take_of_length_le (by rw [HDL.out]; exact Nat.le_refl _)]
  obtain ⟨nl, hnl⟩ : ∃ n, n = (bytesM (X.map EdX.d)).length := ⟨_, rfl⟩
  rw [HDL.out] at hLm
  rw [← hnl] at hEN
  rw [← hN, ← hnl] at MY
  have HEN := Lib.hid hEN
  have hnl1 : 16 ≤ nl := by omega
  have hnl2 : nl ≤ 200000 := by omega
  obtain ⟨ft, hft⟩ : ∃ f : Nat, f = at_ % (8 * nl) := ⟨_, rfl⟩
  have hftl : ft < 8 * nl := by rw [hft]; exact Nat.mod_lt _ (by omega)
  have eft : (at_ : Int) % (8 * (nl : Int)) = (ft : Int) := by rw [hft]; simp
  have HFT := Lib.hid eft
  have eb := or1_u32 by_ hby
  obtain ⟨M, hM⟩ : ∃ M, M = by_ / 2 * 2 + 1 := ⟨_, rfl⟩
  have hMl : M < 4294967296 := by omega
  have hM2 : M % 2 = 1 := by omega
  rw [← hM] at eb
  have HM2 := Lib.hid hM2
  have HEB := Lib.hid eb
  have HN := Lib.hid hN
  have HNL := Lib.hid hnl
  have hmono : ∀ j, endD (X.map EdX.d) j ≤ nl := fun j => by rw [HNL.out]; exact endD_le _ _
  have HMONO := Lib.hid hmono
  have HEZ := Lib.hid (endD_zero (X.map EdX.d))
  obtain ⟨f8, hf8⟩ : ∃ q : Nat, q = ft / 8 := ⟨_, rfl⟩
  have ef8 : (ft : Int) / 8 = (f8 : Int) := by omega
  have HF8 := Lib.hid hf8
  clear hT hn hr hf hall hL16 hLm hN hnl hM hM2 hft eft hEN hmono hf8 eb
  go_enter Tryd.func6, Tryd.ntmps6
  go_wp2_with fail
  refine MY.out.mono ?_
  rintro e w1 ⟨v1, v2, v3, rfl, o1, o2, o3, b1⟩
  obtain ⟨A1, c1, rfl, hc1⟩ := own_cap o1
  obtain ⟨g2, c2, rfl, hc2, hg2⟩ := own_ptr o2 (by omega)
  obtain ⟨A3, c3, rfl, hc3⟩ := own_cap o3
  have HB := Lib.hid b1
  have O1 : Hid (Ow _ _ _ _ _ _ _) := Lib.hid o1
  have O2 : Hid (Ow _ _ _ _ _ _ _) := Lib.hid o2
  have R3 := Lib.hid (Rd.of_own o3)
  clear MY o1 o2 o3 b1
  have HEBo := HEB.out
  go_upto_region 6 with fail
  rw [HFT.out]
  clear HEBo
  go_upto_region 7 with fail
  go_upto_block 0 with fail
  go_cut [11, 12, 13, 14] from 14 to 60 (fun v11 v12 v13 v14 wx => Below w1.heap.size w1 wx ∧ ∃ m en tn, TurnR (X.map EdX.d) f8 N m en tn ∧ v11 = .int .i64 (m : Int) ∧ v12 = .int .i64 (en : Int) ∧ v13 = .int .i64 (tn : Int) ∧ v14 = .int .i64 (N : Int))
  case first =>
    go_wp2_with fail
    go_loopw [11, 12, 13, 14] (fun v11 v12 v13 v14 wr => Below w1.heap.size w1 wr ∧ ∃ i m en tn, i ≤ N ∧ TurnR (X.map EdX.d) f8 i m en tn ∧ v11 = .int .i64 (m : Int) ∧ v12 = .int .i64 (en : Int) ∧ v13 = .int .i64 (tn : Int) ∧ v14 = .int .i64 (i : Int)) (fun _ _ _ i _ => N - (intOf i).toNat)
    case atStart => exact ⟨Below.refl _ _, 0, 0, 0, 16, Nat.zero_le _, .inl ⟨rfl, rfl, rfl, .inl rfl⟩, rfl, rfl, rfl, rfl⟩
    case round =>
      obtain ⟨hb, i, m, en, tn, hiN, htr, rfl, rfl, rfl, rfl⟩ := hrel
      have HBW := Lib.hid hb
      have HTR := Lib.hid htr
      clear htr hb
      by_cases hlt : i < N
      · have hji : (i : Int) < (N : Int) := by omega
        obtain ⟨p, off, rfl, hpl, hcell⟩ := (R3.out.after HBW.out).2.2 (by omega)
        have HC := Lib.hid (fun j (h : j < N) => hcell j _ (endC_get h))
        clear hcell
        obtain ⟨fr, hfr⟩ : ∃ q, q = endD (X.map EdX.d) i := ⟨_, rfl⟩
        have HFR := Lib.hid hfr
        clear hfr
        go_upto_if 45 with fail
        go_cut [15] from 45 to 50 (fun v15 wx => v15 = .int .i64 (fr : Int) ∧ wr = wx)
        case first =>
          by_cases h0 : i = 0
          · subst h0
            have hfr : fr = 16 := by rw [HFR.out, HEZ.out]
            subst hfr
            go_wp2_with fail
            go_meet
            case rel => exact ⟨rfl, rfl⟩
          · obtain ⟨j, rfl⟩ : ∃ j, i = j + 1 := ⟨i - 1, by omega⟩
            have hc := HC.out j (by omega)
            rw [← HFR.out] at hc
            have h0i : (0 : Int) < ((j + 1 : Nat) : Int) := by omega
            have hj1 : (j : Int) < (N : Int) := by omega
            have hsub : ((j + 1 : Nat) : Int) - 1 = (j : Int) := by omega
            go_wp2_with fail
            go_meet
            case rel => exact ⟨rfl, rfl⟩
        obtain ⟨rfl, hw⟩ := hcut
        subst hw
        by_cases hf : fr ≤ f8
        · have hfi : (fr : Int) ≤ (f8 : Int) := by omega
          have hc := HC.out i hlt
          obtain ⟨t2, ht2⟩ : ∃ q, q = endD (X.map EdX.d) (i + 1) := ⟨_, rfl⟩
          rw [← ht2] at hc
          have HT2 := Lib.hid ht2
          have hpl2 := hpl
          clear ht2 HC
          go_upto_region 14 with fail
          refine wp_region_plan (fun W => W = wr.drew) [.calms [0, 1, 2, 3, 4, 6, 7], .act 5, .calms [8]] (by kernel_rfl) (by rfl) (by kernel_rfl) (by kernel_rfl) rfl ?_
          have hcur : Below wr.heap.size wr wr.drew := ⟨rfl, rfl, rfl, Nat.le_refl _, fun _ _ => rfl⟩
          have hc := (hcur.cell (p := ⟨p, off + i, none⟩) hpl2).trans hc
          have HBW := Lib.hid (HBW.out.trans (hcur.mono HBW.out.size))
          clear hcur
          refine plan_calms (by simp [calmRow, need]; rfl) ?_
          generalize wr.drew = w3 at *
          go_wp2_with fail
          refine plan_last (by rfl) (by kernel_rfl) ?_
          go_wp2_with fail
          refine plan_calms (by simp [calmRow, need]; rfl) ?_
          go_wp2_with fail
          refine plan_end ?_
          go_wp2_with fail
          go_roundw
          case rel => exact ⟨HBW.out, i + 1, i, fr, t2, by omega, by rw [HFR.out, HT2.out]; exact TurnR.go (by rw [← HFR.out]; exact hf), rfl, rfl, rfl, by go_num⟩
          case measure => simp [intOf]; omega
        · have hfi : ¬ (fr : Int) ≤ (f8 : Int) := by omega
          go_wp2_with fail
          go_roundw
          case rel => exact ⟨HBW.out, i + 1, m, en, tn, by omega, HTR.out.stay (by rw [← HFR.out]; omega), rfl, rfl, rfl, by go_num⟩
          case measure => simp [intOf]; omega
      · obtain rfl : i = N := by omega
        have hji : ¬ (i : Int) < (i : Int) := by omega
        go_wp2_with fail
        go_meet
        case rel => exact ⟨HBW.out, m, en, tn, HTR.out, rfl, rfl, rfl, rfl⟩
  case rest =>
    obtain ⟨hb3, m, en, tn, htr, rfl, rfl, rfl, rfl⟩ := hcut
    have HBw := Lib.hid hb3
    have HB := Lib.hid (belowGo HB.out hb3)
    have O1 : Hid (Ow _ _ _ _ _ _ _) := Lib.hid (Ow.after O1.out hb3)
    have O2 : Hid (Ow _ _ _ _ _ _ _) := Lib.hid (Ow.after O2.out hb3)
    have hsum : ft < 8 * tn ∧ tn ≤ nl ∧ m ≤ N ∧ 16 ≤ tn ∧ ∀ (bl : List UInt8) (k' : Nat), Flip bl (bytesM (X.map EdX.d)) M ft k' → 1 ≤ k' → ft + k' ≤ 8 * tn → replayM bl = ((X.map EdX.d).take m, en, 23) := by
      have e0 := HEN.out
      have ez := HEZ.out
      have ef := HF8.out
      rcases htr with ⟨h1, h2, h3, h4⟩ | ⟨h1, h2, h3, h4, h5⟩
      · subst h1 h2 h3
        have hf : f8 < 16 := by
          rcases h4 with h4 | h4
          · subst h4; omega
          · exact h4
        refine ⟨by omega, hnl1, Nat.zero_le _, Nat.le_refl _, fun bl k' hF hk1 hk2 => ?_⟩
        rw [replay_headT hF HM2.out hMl hk1 (by omega), List.take_zero]
      · have hN1 := HMONO.out (m + 1)
        rw [← h3] at hN1
        have hft2 : f8 < tn := by
          rcases h5 with h5 | h5
          · subst h5; omega
          · exact h5
        refine ⟨by omega, hN1, by omega, by rw [h3, endD_eq]; omega, fun bl k' hF hk1 hk2 => ?_⟩
        have hj : m < (X.map EdX.d).length := by rw [HDL.out]; exact h1
        rw [h2]
        exact replay_turned HD.out hF HM2.out hMl hk1 hj (by rw [← h2]; omega) (by rw [← h3]; exact hk2)
    obtain ⟨s1, s2, s3, s4, s5⟩ := hsum
    have HLAW := Lib.hid s5
    clear s5 htr hb3
    have HBL : Hid (bcells (bytesM (X.map EdX.d)) = bcells (bytesM (X.map EdX.d)) ∧ (bytesM (X.map EdX.d)).length = nl) := Lib.hid ⟨rfl, HNL.out.symm⟩
    go_upto_region 15 with fail
    go_upto_block 2 with fail
    go_cut [16] from 16 to 91 (fun v16 wx => Below w.heap.size w wx ∧ Ow wx w.heap.size 31 5 (.slice A1 N c1) N (exCells X) ∧ ∃ k : Nat, 1 ≤ k ∧ ft + k ≤ 8 * tn ∧ v16 = .int .i64 (k : Int) ∧ ∃ bl : List UInt8, Flip bl (bytesM (X.map EdX.d)) M ft k ∧ Ow wx w.heap.size 5 1 (.slice (some ⟨g2, 0, none⟩) nl c2) nl (bcells bl))
    case first =>
      go_wp2_with fail
      go_loopw [16] (fun i wr => ∃ k : Nat, k ≤ 32 ∧ ft + k ≤ 8 * tn ∧ i = .int .i64 (k : Int) ∧ Below w.heap.size w wr ∧ Ow wr w.heap.size 31 5 (.slice A1 N c1) N (exCells X) ∧ ∃ bl : List UInt8, Flip bl (bytesM (X.map EdX.d)) M ft k ∧ Ow wr w.heap.size 5 1 (.slice (some ⟨g2, 0, none⟩) nl c2) nl (bcells bl)) (fun i _ => 32 - (intOf i).toNat)
      case atStart => exact ⟨0, by omega, by omega, rfl, HB.out, O1.out, _, Flip.zero _ _ _, O2.out⟩
      case round =>
        obtain ⟨k', hk, hkf, rfl, bz, oe, bl, HF, oz⟩ := hrel
        by_cases hin : k' < 32 ∧ ft + k' < 8 * tn
        · obtain ⟨h1, h2⟩ := hin
          have i2 : (ft : Int) + (k' : Int) < 8 * (tn : Int) := by omega
          have i1 : (k' : Int) < 32 := by omega
          have HBZ := Lib.hid bz
          have OE : Hid (Ow _ _ _ _ _ _ _) := Lib.hid oe
          have OZ : Hid (Ow _ _ _ _ _ _ _) := Lib.hid oz
          have HFF := Lib.hid HF
          clear bz oe oz HF
          go_upto_region 18 with fail
          obtain ⟨qq, hqq⟩ : ∃ q : Nat, q = M / 2 ^ k' := ⟨_, rfl⟩
          have eq1 : (M : Int) / 2 ^ k' = (qq : Int) := by rw [hqq]; simp
          have hql : qq < 4294967296 := by rw [hqq]; exact Nat.lt_of_le_of_lt (Nat.div_le_self _ _) hMl
          have ea := and1_u32 qq hql
          by_cases hbit : qq % 2 = 1
          · have HF2 := fun j b hj hb8 he => Lib.hid (HFF.out.set (by rw [← hqq]; exact hbit) j b hj hb8 he)
            rw [hbit] at ea
            clear hqq hbit
            go_upto_region 19 with fail
            obtain ⟨j, hj⟩ : ∃ j : Nat, j = (ft + k') / 8 := ⟨_, rfl⟩
            obtain ⟨bb, hbb⟩ : ∃ b : Nat, b = (ft + k') % 8 := ⟨_, rfl⟩
            have ej : ((ft : Int) + (k' : Int)) / 8 = (j : Int) := by omega
            have ebb : ((ft : Int) + (k' : Int)) % 8 = (bb : Int) := by omega
            have hjL : j < nl := by omega
            have hb8 : bb < 8 := by omega
            have hjl : j < bl.length := by rw [HFF.out.len, HBL.out.2]; omega
            have HF3 := HF2 j bb hjl hb8 (by omega)
            clear HF2
            clear hj hbb
            have hcur : Below wr.heap.size wr wr.drew := ⟨rfl, rfl, rfl, Nat.le_refl _, fun _ _ => rfl⟩
            have oz := Ow.after OZ.out hcur
            have OE : Hid (Ow _ _ _ _ _ _ _) := Lib.hid (Ow.after OE.out hcur)
            have rz := oz.rd
            have hcell := rz.cell rfl (by omega) (bcells_get hjl)
            rw [Nat.zero_add] at hcell
            have hfz := World.ownsRow.frozenAt oz j
            generalize bl[j]'hjl = u at *
            have ex := xor_bit u bb hb8
            obtain ⟨V, hV⟩ : ∃ V, V = UInt8.ofNat (u.toNat ^^^ 2 ^ bb) := ⟨_, rfl⟩
            rw [← hV] at ex HF3
            have HF2 := HF3
            clear hV HF3
            have hbz := belowGo HBZ.out hcur
            refine wp_region_plan (fun _ => True) [.calms [0, 1, 2, 3, 4, 5, 7, 8, 9, 10, 11], .act 6, .calms [12, 13], .act 14] (by kernel_rfl) (by rfl) (by kernel_rfl) (by kernel_rfl) trivial ?_
            generalize wr.drew = wd at *
            clear hcur
            refine plan_calms (by simp [calmRow, need, chk]; rfl) ?_
            go_wp2_with fail
            refine plan_last (by rfl) (by kernel_rfl) ?_
            go_wp2_with fail
            refine plan_calms (by simp [calmRow, need, chk]; rfl) ?_
            go_wp2_with fail
            refine plan_last (by rfl) (by kernel_rfl) ?_
            go_wp2_with fail
            refine plan_end ?_
            have hst := (World.ownsRow.stored oz j (.int .u8 (V.toNat : Int))).1
            rw [bset_eq] at hst
            have hbs := hbz.setCell (p := ⟨g2, j, none⟩) hg2 (.int .u8 (V.toNat : Int))
            have OE : Hid (Ow _ _ _ _ _ _ _) := Lib.hid (Ow.grownT OE.out oz (by decide) (grown_set wd ⟨g2, j, none⟩ (.int .u8 (V.toNat : Int))))
            have HBS := Lib.hid hbs
            have HST := Lib.hid hst
            clear rz hfz hcell oz hbz hbs hst
            generalize wd.setCell ⟨g2, j, none⟩ (.int .u8 (V.toNat : Int)) = we at *
            go_wp2_with fail
            go_roundw
            case rel => exact ⟨k' + 1, by omega, by omega, by go_num, HBS.out, OE.out, bl.set j V, HF2.out, HST.out⟩
            case measure => simp [intOf]; omega
          · have hbit : qq % 2 = 0 := by omega
            have HF2 := Lib.hid (HFF.out.skip (by rw [← hqq]; exact hbit))
            rw [hbit] at ea
            clear hqq hbit
            go_wp2_with fail
            go_roundw
            case rel => exact ⟨k' + 1, by omega, by omega, by go_num, HBZ.out, OE.out, bl, HF2.out, OZ.out⟩
            case measure => simp [intOf]; omega
        · have hk1 : 1 ≤ k' := by omega
          have HBZ := Lib.hid bz
          have OE : Hid (Ow _ _ _ _ _ _ _) := Lib.hid oe
          have OZ : Hid (Ow _ _ _ _ _ _ _) := Lib.hid oz
          have HFF := Lib.hid HF
          clear bz oe oz HF
          by_cases h32 : k' < 32
          · have i1 : (k' : Int) < 32 := by omega
            have i2 : ¬ ((ft : Int) + (k' : Int) < 8 * (tn : Int)) := by omega
            clear hin
            go_wp2_with fail
            go_meet
            case rel => exact ⟨HBZ.out, OE.out, k', hk1, hkf, rfl, bl, HFF.out, OZ.out⟩
          · have i1 : ¬ ((k' : Int) < 32) := by omega
            clear hin
            go_wp2_with fail
            go_meet
            case rel => exact ⟨HBZ.out, OE.out, k', hk1, hkf, rfl, bl, HFF.out, OZ.out⟩
    obtain ⟨hbx, oe, k', hk1, hkf, rfl, bl, HF, oz⟩ := hcut
    have HB := Lib.hid hbx
    have R1 := Lib.hid (Rd.of_own oe)
    have hrp := HLAW.out bl k' HF hk1 hkf
    have RP := Lib.hid (replay_any bl (some ⟨g2, 0, none⟩) nl c2 wc (HT.out.below HB.out HTL.out) hc2 (by omega) (Rd.of_own oz))
    unfold RetReplay at RP
    rw [hrp] at RP
    clear hrp hbx oe oz HF HLAW O1 O2
    go_wp2_with fail
    refine RP.out.mono ?_
    rintro e w5 ⟨v5, X5, rfl, hx5, o5, hxo, b5⟩
    have hX5 : X5.length = m := by
      have := congrArg List.length hx5
      rw [List.length_map, List.length_take, HDL.out] at this
      omega
    rw [hX5] at o5
    obtain ⟨A5, c5, rfl, hc5⟩ := own_cap o5
    have R5 := Lib.hid (Rd.of_own o5)
    have HX5 := Lib.hid hX5
    have HM5 := Lib.hid hx5
    have HXO := Lib.hid hxo
    have HB0 := Lib.hid b5
    have HB := Lib.hid (belowGo HB.out b5)
    clear RP o5 hxo b5 hX5 hx5
    go_wp2_with fail
    go_loopw [20] (fun i wr => ∃ j : Nat, j ≤ m ∧ i = .int .i64 (j : Int) ∧ Below w5.heap.size w5 wr) (fun i _ => m - (intOf i).toNat)
    case atStart => exact ⟨0, Nat.zero_le _, rfl, Below.refl _ _⟩
    case round =>
      obtain ⟨j, hj, rfl, hb⟩ := hrel
      have HBR := Lib.hid hb
      clear hb
      by_cases hlt : j < m
      · have hji : (j : Int) < (m : Int) := by omega
        obtain ⟨p, off, rfl, hpl, hcell⟩ := R5.out.2.2 (by omega)
        obtain ⟨p', off', rfl, hpl', hcell'⟩ := R1.out.2.2 (by omega)
        obtain ⟨x, hx⟩ : ∃ x, X5[j]? = some x := ⟨X5[j]'(by rw [HX5.out]; exact hlt), List.getElem?_eq_getElem _⟩
        obtain ⟨y, hy⟩ : ∃ y, X[j]? = some y := ⟨X[j]'(by rw [← HN.out]; omega), List.getElem?_eq_getElem _⟩
        have hxy : x.d = y.d := by
          have := congrArg (fun l : List Ed => l[j]?) HM5.out
          rw [List.getElem?_map, hx, List.getElem?_take, if_pos hlt, List.getElem?_map, hy] at this
          simpa using this
        have hax := exAt hcell hx
        have hay := exAt hcell' hy
        have xo := HXO.out x (List.mem_of_getElem? hx)
        have yo := (HOK.out y (List.mem_of_getElem? hy)).1.at HB.out
        have hm200 := (mayEd_b200 (HOK.out y (List.mem_of_getElem? hy)).2).2
        rw [← hxy] at hm200
        obtain ⟨d, Ax, nx, cx⟩ := x
        obtain ⟨d', Ay, ny, cy⟩ := y
        have hxy : d = d' := hxy
        subst hxy
        obtain ⟨xf, xl, xc, xr⟩ := xo
        obtain ⟨-, yl, yc, yr⟩ := yo
        have xl : d.seals.length = nx := xl
        have yl : d.seals.length = ny := yl
        have hm200 : d.seals.length ≤ 200 := hm200
        have HAX := Lib.hid (fun W (h : Below w5.heap.size w5 W) => hax.after hpl h)
        have HAY := Lib.hid (fun W (h : Below w5.heap.size w5 W) => hay.after hpl' (belowGo HB0.out h))
        have SM := Lib.hid (fun W (h : Below w5.heap.size w5 W) => same_self d xf Ax nx cx Ay ny cy W xl yl (((Rd.of_own xr).below h (Nat.le_refl _)).more h.size) ((yr.below h (Nat.le_refl _)).more h.size) (by omega))
        clear hm200 hcell hcell' hx hy hax hay xf xl xc xr yl yc yr hpl hpl'
        go_upto_region 26 with fail
        have hcur : Below wr.heap.size wr wr.drew := ⟨rfl, rfl, rfl, Nat.le_refl _, fun _ _ => rfl⟩
        have HBR := Lib.hid (HBR.out.trans (hcur.mono HBR.out.size))
        refine wp_region_plan (fun W => Below w5.heap.size w5 W) [.calms [0, 1, 2, 4, 5, 6], .read 3, .read 7, .act 8, .calms [9]] (by kernel_rfl) (by rfl) (by kernel_rfl) (by kernel_rfl) HBR.out ?_
        clear hcur
        refine plan_calms (by simp [calmRow, need]; rfl) ?_
        generalize wr.drew = w6 at *
        go_wp2_with fail
        refine plan_read (by rfl) (.agg (edC d ⟨d.name.toArray⟩ (.slice Ax nx cx))) (by rfl) (fun W hW => exec_load_mid rfl rfl (HAX.out W hW) Tryd.underlying31 rfl (by kernel_rfl)) ?_
        refine plan_read (by rfl) (.agg (edC d ⟨d.name.toArray⟩ (.slice Ay ny cy))) (by rfl) (fun W hW => exec_load_mid rfl rfl (HAY.out W hW) Tryd.underlying31 rfl (by kernel_rfl)) ?_
        refine plan_last (by rfl) (by kernel_rfl) ?_
        go_wp2_with fail
        refine (SM.out w6 HBR.out).mono ?_
        rintro e w7 ⟨rfl, b7⟩
        have HBR := Lib.hid (belowGo HBR.out b7)
        clear SM HAX HAY b7
        go_wp2_with fail
        refine plan_calms (by simp [calmRow, need]; rfl) ?_
        go_wp2_with fail
        refine plan_end ?_
        go_wp2_with fail
        go_roundw
        case rel => exact ⟨j + 1, by omega, by go_num, HBR.out⟩
        case measure => simp [intOf]; omega
      · obtain rfl : j = m := by omega
        have hji : ¬ (j : Int) < (j : Int) := by omega
        have HB := Lib.hid (belowGo HB.out HBR.out)
        have KN := Lib.hid (knowsM_any wr (HT.out.below HB.out HTL.out))
        go_wp2_with fail
        refine KN.out.mono ?_
        rintro e w8 ⟨rfl, b8⟩
        have HB := Lib.hid (belowGo HB.out b8)
        clear KN b8
        go_wp2_with fail
        exact bodyPost_ret (results_tmp rfl _ _ _) rfl ⟨rfl, HB.out⟩
end Go.Proofs.YtmahadcohnhdkaaDoor
