/- MlogBegins: the walk. -/
import Derived.Test.YtmahadcohnhdkaaDoorMlMay2
import Derived.Test.YtmahadcohnhdkaaDoorMlBegLaw
import Derived.Test.YtmahadcohnhdkaaDoorMl5
import Derived.Test.YtmahadcohnhdkaaDoorEdSame
import Derived.Deep.CutBlock
namespace Go.Proofs.YtmahadcohnhdkaaDoor
open Go.RowKit
attribute [local go_sem] Oper.semAt_some

theorem EdX.ok.at {x : EdX} {w W : World} (h : x.ok w w.heap.size) (hb : Below w.heap.size w W) : x.ok W W.heap.size := ⟨h.1, h.2.1, h.2.2.1, (h.2.2.2.below hb (Nat.le_refl _)).more hb.size⟩
theorem mayEd_b200 {d : Ed} (h : mayEd d = true) : d.name.length ≤ 32 ∧ d.seals.length ≤ 200 := by
  unfold mayEd at h
  simp only [Bool.and_eq_true] at h
  obtain ⟨⟨⟨⟨⟨⟨⟨⟨_, _⟩, _⟩, h1⟩, _⟩, _⟩, _⟩, h2⟩, _⟩ := h
  refine ⟨?_, by simpa using h2⟩
  split at h1
  · simp at h1; omega
  · simp at h1; simp [h1]
theorem exec_conv0 {P : Program} {w : World} {ρ : Operand → Value} {o : Oper} {s d : TypeId} {x : Operand} {v u : Value} (ho : o.op = .convert s d x) (hx : ρ x = v) (h : (convert s d v).run P w = .ok u w) : (execOp ρ o).run P w = .ok (.value u) w := by
  unfold execOp
  rw [ho]
  simp [hx, h]
theorem same_self (d : Ed) (hd : d.fits) (A : Option Addr) (n c : Nat) (A' : Option Addr) (n' c' : Nat) (w : World) (hln : d.seals.length = n) (hln' : d.seals.length = n') (r : Rd w w.heap.size 5 A n (slCells d.seals)) (r' : Rd w w.heap.size 5 A' n' (slCells d.seals)) (hn : n ≤ 1000000) :
    Calls Tryd.prog 17 #[.agg (edC d ⟨d.name.toArray⟩ (.slice A n c)), .agg (edC d ⟨d.name.toArray⟩ (.slice A' n' c'))] w fun e w' => e = .returned (.bool true) ∧ Below w.heap.size w w' :=
  (same_any d d hd hd A n c A' n' c' w hln hln' r r' hn).mono fun _ _ h => ⟨by rw [h.1, decide_eq_true rfl], h.2⟩
theorem endC_get {X : List EdX} {N j : Nat} (h : j < N) : (endC X N)[j]? = some (.int .i64 ((endD (X.map EdX.d) (j + 1) : Nat) : Int)) := by
  unfold endC endD
  rw [List.getElem?_map, List.getElem?_range h, Option.map_some, List.map_take]

set_option maxRecDepth 100000 in
set_option maxHeartbeats 8000000 in
theorem begins_walk (l : List EdX) (A : Option Addr) (n c cut : Nat) (w : World) (hT : Tab w) (hn : l.length = n) (hr : Rd w w.heap.size 5 A n (exCells l)) (hf : ∀ x ∈ l, x.fit0 ∧ Rd w w.heap.size 5 x.A x.n (slCells x.d.seals)) (hcut : cut < 65536) :
    Calls Tryd.prog 5 #[.slice A n c, .int .u16 (cut : Int)] w fun e w' => e = .returned (.bool true) ∧ Below w.heap.size w w' := by
  have HTL := Lib.hid hT.1
  have HT := Lib.hid hT
  have MY := Lib.hid (may_loop l A n c w hT hn hr hf)
  have HOK := Lib.hid (fun x (hx : x ∈ mayX (fewT l 12)) => (⟨fewT_ok (k := 12) hf x ((List.mem_filter.1 hx).1), (List.mem_filter.1 hx).2⟩ : x.ok w w.heap.size ∧ mayEd x.d = true))
  obtain ⟨N, hN⟩ : ∃ N, N = (mayX (fewT l 12)).length := ⟨_, rfl⟩
  have hN12 : N ≤ 12 := by
    have h1 := List.length_filter_le (fun x : EdX => mayEd x.d) (fewT l 12)
    have h2 := fewT_len l 12
    unfold mayX at hN
    omega
  unfold RetMay at MY
  generalize mayX (fewT l 12) = X at *
  have hall : (X.map EdX.d).all mayEd = true := List.all_eq_true.2 fun d hd => by
    obtain ⟨x, hx, rfl⟩ := List.mem_map.1 hd
    exact (HOK.out x hx).2
  have HD := Lib.hid (fun d (hd : d ∈ X.map EdX.d) => show d.fits ∧ mayEd d = true from by
    obtain ⟨x, hx, rfl⟩ := List.mem_map.1 hd
    exact ⟨(HOK.out x hx).1.1, (HOK.out x hx).2⟩)
  have HDL : Hid ((X.map EdX.d).length = N) := Lib.hid (by rw [List.length_map, hN])
  have hL16 := bytesM_len (X.map EdX.d)
  have hLm := frames_len hall
  obtain ⟨nl, hnl⟩ : ∃ n, n = (bytesM (X.map EdX.d)).length := ⟨_, rfl⟩
  rw [HDL.out] at hLm
  rw [← hN, ← hnl] at MY
  have hnl1 : 16 ≤ nl := by omega
  have hnl2 : nl ≤ 200000 := by omega
  obtain ⟨k, hk⟩ : ∃ k, k = cut % (nl + 1) := ⟨_, rfl⟩
  have hkl : k ≤ nl := by have := Nat.mod_lt cut (show 0 < nl + 1 by omega); omega
  have hki : (cut : Int) % ((nl : Int) + 1) = (k : Int) := by rw [hk]; simp
  have HKI := Lib.hid hki
  have HN := Lib.hid hN
  have HNL := Lib.hid hnl
  have HALL := Lib.hid hall
  clear hT hn hr hf hall hL16 hLm hk hki hN hnl
  go_enter Tryd.func5, Tryd.ntmps5
  go_wp2_with fail
  refine MY.out.mono ?_
  rintro e w1 ⟨v1, v2, v3, rfl, o1, o2, o3, b1⟩
  obtain ⟨A1, c1, rfl, hc1⟩ := own_cap o1
  obtain ⟨A2, c2, rfl, hc2⟩ := own_cap o2
  obtain ⟨A3, c3, rfl, hc3⟩ := own_cap o3
  have HB := Lib.hid b1
  have R1 := Lib.hid (Rd.of_own o1)
  have R2 := Lib.hid (Rd.of_own o2)
  have R3 := Lib.hid (Rd.of_own o3)
  have HOK1 := Lib.hid (fun x hx => (HOK.out x hx).1.at b1)
  have BB := Lib.hid (bytesM_any X A1 N c1 w1 (HT.out.below HB.out HTL.out) HN.out.symm (by omega) R1.out HOK1.out)
  unfold RetBytes at BB
  rw [HALL.out, if_pos rfl, show bytesP (X.map EdX.d) = bytesM (X.map EdX.d) from by unfold bytesP; rw [HALL.out, if_pos rfl], ← HNL.out] at BB
  clear MY o1 o2 o3 b1
  go_wp2_with fail
  refine BB.out.mono ?_
  rintro e w2 ⟨v4, rfl, o4, b4⟩
  obtain ⟨A4, c4, rfl, hc4⟩ := own_cap o4
  have HB1 := Lib.hid b4
  have HB := Lib.hid (belowGo HB.out b4)
  have r4 := Rd.of_own o4
  have f1 : (convert 32 9 (.slice A4 nl c4)).run Tryd.prog w2 = .ok (.string ⟨(bytesM (X.map EdX.d)).toArray⟩) w2 := run_conv (P := Tryd.prog) Tryd.underlying32 Tryd.underlying5 Tryd.underlying9 c4 r4
  have f2 : (convert 32 9 (.slice A2 nl c2)).run Tryd.prog w2 = .ok (.string ⟨(bytesM (X.map EdX.d)).toArray⟩) w2 := run_conv (P := Tryd.prog) Tryd.underlying32 Tryd.underlying5 Tryd.underlying9 c2 (R2.out.after b4)
  obtain ⟨S, hS⟩ : ∃ S : ByteArray, S = ⟨(bytesM (X.map EdX.d)).toArray⟩ := ⟨_, rfl⟩
  rw [← hS] at f1 f2
  clear BB o4 b4 r4 hS
  go_upto_region 6 with fail
  rw [HKI.out]
  clear f1 f2
  go_upto_region 7 with fail
  go_upto_block 0 with fail
  have R3 := Lib.hid (R3.out.after HB1.out)
  go_cut [11, 12, 13] from 13 to 71 (fun v11 v12 v13 wx => Below w2.heap.size w2 wx ∧ ∃ M, M ≤ N ∧ (M = 0 ∨ endD (X.map EdX.d) M ≤ k) ∧ (M = N ∨ k < endD (X.map EdX.d) (M + 1)) ∧ v11 = .int .i64 (M : Int) ∧ v12 = .int .i64 ((endD (X.map EdX.d) M : Nat) : Int) ∧ v13 = .int .i64 (M : Int))
  case first =>
    go_wp2_with fail
    go_loopw [11, 12, 13] (fun v11 v12 v13 wr => Below w2.heap.size w2 wr ∧ ∃ M, M ≤ N ∧ (M = 0 ∨ endD (X.map EdX.d) M ≤ k) ∧ v11 = .int .i64 (M : Int) ∧ v12 = .int .i64 ((endD (X.map EdX.d) M : Nat) : Int) ∧ v13 = .int .i64 (M : Int)) (fun _ _ i _ => N - (intOf i).toNat)
    case atStart => exact ⟨Below.refl _ _, 0, Nat.zero_le _, .inl rfl, rfl, by rw [endD_eq]; simp, rfl⟩
    case round =>
      obtain ⟨hb, M, hMN, hMk, rfl, rfl, rfl⟩ := hrel
      by_cases hlt : M < N
      · have hji : (M : Int) < (N : Int) := by omega
        obtain ⟨p, off, rfl, hpl, hcell⟩ := (R3.out.after hb).2.2 (by omega)
        have hc := hcell M _ (endC_get hlt)
        clear hcell
        obtain ⟨en, hen⟩ : ∃ q, q = endD (X.map EdX.d) (M + 1) := ⟨_, rfl⟩
        rw [← hen] at hc
        have HEN := Lib.hid hen
        have HBW := Lib.hid hb
        by_cases hk1 : en ≤ k
        · have hki1 : (en : Int) ≤ (k : Int) := by omega
          clear hen hb
          go_upto_region 10 with fail
          refine wp_region_plan (fun W => W = wr.drew) [.calms [0, 1, 2, 3, 4, 6], .act 5, .calms [7]] (by kernel_rfl) (by rfl) (by kernel_rfl) (by kernel_rfl) rfl ?_
          have hcur : Below wr.heap.size wr wr.drew := ⟨rfl, rfl, rfl, Nat.le_refl _, fun _ _ => rfl⟩
          have hc := (hcur.cell (p := ⟨p, off + M, none⟩) hpl).trans hc
          have HBW := Lib.hid (HBW.out.trans (hcur.mono HBW.out.size))
          clear hcur
          refine plan_calms (by simp [calmRow, need, chk]; rfl) ?_
          generalize wr.drew = w3 at *
          go_wp2_with fail
          refine plan_last (by rfl) (by kernel_rfl) ?_
          go_wp2_with fail
          refine plan_calms (by simp [calmRow, need]; rfl) ?_
          go_wp2_with fail
          refine plan_end ?_
          go_wp2_with fail
          go_roundw
          case rel => exact ⟨HBW.out, M + 1, hlt, .inr (by rw [← HEN.out]; exact hk1), by go_num, by rw [HEN.out], by go_num⟩
          case measure => simp [intOf]; omega
        · have hki1 : ¬ (en : Int) ≤ (k : Int) := by omega
          clear hen hb
          go_wp2_with fail
          go_meet
          case rel => exact ⟨HBW.out, M, hMN, hMk, .inr (by rw [← HEN.out]; omega), rfl, rfl, rfl⟩
      · obtain rfl : M = N := by omega
        have hji : ¬ (M : Int) < (M : Int) := by omega
        have HBW := Lib.hid hb
        clear hb
        go_wp2_with fail
        go_meet
        case rel => exact ⟨HBW.out, M, Nat.le_refl _, hMk, .inl rfl, rfl, rfl, rfl⟩
  case rest =>
    obtain ⟨hb3, M, hMN, hMk, hMe, rfl, rfl, rfl⟩ := hcut
    have HB2 := Lib.hid (belowGo HB1.out hb3)
    have HB := Lib.hid (belowGo HB.out hb3)
    have RC := replay_cut HD.out (k := k) (M := M) (by rw [← HNL.out]; exact hkl) (by rw [HDL.out]; exact hMN) hMk (by rw [HDL.out]; exact hMe)
    have hTK := bytesM_take (X.map EdX.d) M
    have hEL : endD (X.map EdX.d) M ≤ nl := by rw [HNL.out]; exact endD_le _ _
    have hE16 : 16 ≤ endD (X.map EdX.d) M := by rw [endD_eq]; omega
    obtain ⟨en, hen⟩ : ∃ q, q = endD (X.map EdX.d) M := ⟨_, rfl⟩
    rw [← hen] at RC hEL hE16 hTK hMk ⊢
    have HEN := Lib.hid hen
    have HTK := Lib.hid hTK
    have HRC := Lib.hid RC
    clear hen hTK RC hb3
    obtain ⟨wy, hwy⟩ : ∃ q : Nat, q = if k = en then 0 else 22 := ⟨_, rfl⟩
    obtain ⟨e2, he2⟩ : ∃ q : Nat, q = if k < 16 then 0 else en := ⟨_, rfl⟩
    rw [← hwy, ← he2] at HRC
    have HWY := Lib.hid hwy
    have HE2 := Lib.hid he2
    clear hwy he2
    go_upto_if 74 with fail
    go_cut [14] from 74 to 74 (fun v14 wx => v14 = .int .i64 (wy : Int) ∧ wc = wx)
    case first =>
      by_cases hke : k = en
      · have hki : (en : Int) = (k : Int) := by omega
        go_wp2_with fail
        go_meet
        case rel => exact ⟨by rw [HWY.out, if_pos hke]; rfl, rfl⟩
      · have hki : ¬ (en : Int) = (k : Int) := by omega
        go_wp2_with fail
        go_meet
        case rel => exact ⟨by rw [HWY.out, if_neg hke]; rfl, rfl⟩
    obtain ⟨rfl, hw⟩ := hcut
    subst hw
    go_upto_if 76 with fail
    go_cut [12] from 76 to 76 (fun v12 wx => v12 = .int .i64 (e2 : Int) ∧ wc = wx)
    case first =>
      by_cases hke : k < 16
      · have hki : (k : Int) < 16 := by omega
        go_wp2_with fail
        go_meet
        case rel => exact ⟨by rw [HE2.out, if_pos hke]; rfl, rfl⟩
      · have hki : ¬ (k : Int) < 16 := by omega
        go_wp2_with fail
        go_meet
        case rel => exact ⟨by rw [HE2.out, if_neg hke], rfl⟩
    obtain ⟨rfl, hw⟩ := hcut
    subst hw
    have R2c := Lib.hid (R2.out.after HB2.out)
    have RP := Lib.hid (replay_any ((bytesM (X.map EdX.d)).take k) A2 k c2 wc (HT.out.below HB.out HTL.out) (by omega) (by omega) (R2c.out.btake hkl))
    unfold RetReplay at RP
    rw [HRC.out] at RP
    have hkc : (k : Int) ≤ (c2 : Int) := by omega
    go_wp2_with fail
    refine RP.out.mono ?_
    rintro e w5 ⟨v5, X5, rfl, hx5, o5, hxo, b5⟩
    have hX5 : X5.length = M := by
      have := congrArg List.length hx5
      rw [List.length_map, List.length_take, HDL.out] at this
      omega
    rw [hX5] at o5
    obtain ⟨A5, c5, rfl, hc5⟩ := own_cap o5
    have R5 := Lib.hid (Rd.of_own o5)
    have HX5 := Lib.hid hX5
    have HM5 := Lib.hid hx5
    have HXO := Lib.hid hxo
    have HB2 := Lib.hid (belowGo HB2.out b5)
    have HB := Lib.hid (belowGo HB.out b5)
    clear RP HRC o5 hxo b5 hkc hX5 hx5
    go_wp2_with fail
    go_loopw [18] (fun i wr => ∃ j : Nat, j ≤ M ∧ i = .int .i64 (j : Int) ∧ Below w5.heap.size w5 wr) (fun i _ => M - (intOf i).toNat)
    case atStart => exact ⟨0, Nat.zero_le _, rfl, Below.refl _ _⟩
    case round =>
      obtain ⟨j, hj, rfl, hb⟩ := hrel
      have HBR := Lib.hid hb
      clear hb
      by_cases hlt : j < M
      · have hji : (j : Int) < (M : Int) := by omega
        obtain ⟨p, off, rfl, hpl, hcell⟩ := R5.out.2.2 (by omega)
        obtain ⟨p', off', rfl, hpl', hcell'⟩ := R1.out.2.2 (by omega)
        obtain ⟨x, hx⟩ : ∃ x, X5[j]? = some x := ⟨X5[j]'(by rw [HX5.out]; exact hlt), List.getElem?_eq_getElem _⟩
        obtain ⟨y, hy⟩ : ∃ y, X[j]? = some y := ⟨X[j]'(by rw [← HN.out]; omega), List.getElem?_eq_getElem _⟩
        have hxy : x.d = y.d := by
          have := congrArg (fun l : List Ed => l[j]?) HM5.out
          rw [List.getElem?_map, hx, List.getElem?_take, if_pos hlt, List.getElem?_map, hy] at this
          simpa using this
        have hax := exAt hcell hx
        have hay := exAt hcell' hy
        have xo := HXO.out x (List.mem_of_getElem? hx)
        have yo := HOK1.out y (List.mem_of_getElem? hy)
        have hm200 := (mayEd_b200 (HOK.out y (List.mem_of_getElem? hy)).2).2
        rw [← hxy] at hm200
        obtain ⟨d, Ax, nx, cx⟩ := x
        obtain ⟨d', Ay, ny, cy⟩ := y
        have hxy : d = d' := hxy
        subst hxy
        obtain ⟨xf, xl, xc, xr⟩ := xo
        obtain ⟨-, yl, yc, yr⟩ := yo
        have xl : d.seals.length = nx := xl
        have yl : d.seals.length = ny := yl
        have hm200 : d.seals.length ≤ 200 := hm200
        have HAX := Lib.hid (fun W (h : Below w5.heap.size w5 W) => hax.after hpl h)
        have HAY := Lib.hid (fun W (h : Below w5.heap.size w5 W) => hay.after hpl' (belowGo HB2.out h))
        have SM := Lib.hid (fun W (h : Below w5.heap.size w5 W) => same_self d xf Ax nx cx Ay ny cy W xl yl (((Rd.of_own xr).below h (Nat.le_refl _)).more h.size) ((yr.below (belowGo HB2.out h) (Nat.le_refl _)).more (belowGo HB2.out h).size) (by omega))
        clear hm200 hcell hcell' hx hy hax hay xf xl xc xr yl yc yr hpl hpl'
        go_upto_region 22 with fail
        have hcur : Below wr.heap.size wr wr.drew := ⟨rfl, rfl, rfl, Nat.le_refl _, fun _ _ => rfl⟩
        have HBR := Lib.hid (HBR.out.trans (hcur.mono HBR.out.size))
        refine wp_region_plan (fun W => Below w5.heap.size w5 W) [.calms [0, 1, 2, 4, 5, 6], .read 3, .read 7, .act 8, .calms [9]] (by kernel_rfl) (by rfl) (by kernel_rfl) (by kernel_rfl) HBR.out ?_
        clear hcur
        refine plan_calms (by simp [calmRow, need]; rfl) ?_
        generalize wr.drew = w6 at *
        go_wp2_with fail
        refine plan_read (by rfl) (.agg (edC d ⟨d.name.toArray⟩ (.slice Ax nx cx))) (by rfl) (fun W hW => exec_load_mid rfl rfl (HAX.out W hW) Tryd.underlying31 rfl (by kernel_rfl)) ?_
        refine plan_read (by rfl) (.agg (edC d ⟨d.name.toArray⟩ (.slice Ay ny cy))) (by rfl) (fun W hW => exec_load_mid rfl rfl (HAY.out W hW) Tryd.underlying31 rfl (by kernel_rfl)) ?_
        refine plan_last (by rfl) (by kernel_rfl) ?_
        go_wp2_with fail
        refine (SM.out w6 HBR.out).mono ?_
        rintro e w7 ⟨rfl, b7⟩
        have HBR := Lib.hid (belowGo HBR.out b7)
        clear SM HAX HAY b7
        go_wp2_with fail
        refine plan_calms (by simp [calmRow, need]; rfl) ?_
        go_wp2_with fail
        refine plan_end ?_
        go_wp2_with fail
        go_roundw
        case rel => exact ⟨j + 1, by omega, by go_num, HBR.out⟩
        case measure => simp [intOf]; omega
      · obtain rfl : j = M := by omega
        have hji : ¬ (j : Int) < (j : Int) := by omega
        have HB := Lib.hid (belowGo HB.out HBR.out)
        have HB2 := Lib.hid (belowGo HB2.out HBR.out)
        have hall5 : (X5.map EdX.d).all mayEd = true := List.all_eq_true.2 fun d hd => by
          rw [HM5.out] at hd
          exact (HD.out d (List.mem_of_mem_take hd)).2
        have BB := Lib.hid (bytesM_any X5 A5 j c5 wr (HT.out.below HB.out HTL.out) HX5.out (by omega) ((R5.out.below HBR.out (Nat.le_refl _)).more HBR.out.size) (fun x hx => by
          have xo := HXO.out x hx
          exact ⟨xo.1, xo.2.1, xo.2.2.1, ((Rd.of_own xo.2.2.2).below HBR.out (Nat.le_refl _)).more HBR.out.size⟩))
        unfold RetBytes at BB
        rw [hall5, if_pos rfl, show bytesP (X5.map EdX.d) = bytesM ((X.map EdX.d).take j) from by unfold bytesP; rw [hall5, if_pos rfl, HM5.out], show (bytesM ((X.map EdX.d).take j)).length = en from HEN.out.symm] at BB
        clear hall5
        go_wp2_with fail
        refine BB.out.mono ?_
        rintro e w6 ⟨v6, rfl, o6, b6⟩
        obtain ⟨A6, c6, rfl, -⟩ := own_cap o6
        have HB := Lib.hid (belowGo HB.out b6)
        have HB2 := Lib.hid (belowGo HB2.out b6)
        have R6 := Lib.hid (Rd.of_own o6)
        clear BB o6 b6
        go_upto_region 25 with fail
        have hcur : Below w6.heap.size w6 w6.drew := ⟨rfl, rfl, rfl, Nat.le_refl _, fun _ _ => rfl⟩
        have HB := Lib.hid (belowGo HB.out hcur)
        have R6 := Lib.hid (R6.out.after hcur)
        have R2c := Lib.hid (R2.out.after (belowGo HB2.out hcur))
        have KN := Lib.hid (knowsM_any w6.drew (HT.out.below HB.out HTL.out))
        clear hcur
        by_cases hk16 : k < 16
        · have hki : (k : Int) < 16 := by omega
          refine wp_region_plan (fun W => W = w6.drew) [.calms [0, 1, 2, 3, 4, 5, 6, 8, 9, 10], .read 7, .read 11, .read 12, .calms [13, 14, 15], .act 16, .calms [17, 18]] (by kernel_rfl) (by rfl) (by kernel_rfl) (by kernel_rfl) rfl ?_
          generalize w6.drew = w7 at *
          refine plan_calms (by simp [calmRow, need, chk]; rfl) ?_
          go_wp2_with fail
          refine plan_skip2 (some 126) (by rfl) (by rfl) (by rfl) ?_
          refine plan_skip2 (some 130) (by rfl) (by rfl) (by rfl) ?_
          refine plan_skip2 (some 131) (by rfl) (by rfl) (by rfl) ?_
          refine plan_calms (by simp [calmRow, need]; rfl) ?_
          go_wp2_with fail
          refine plan_last (by rfl) (by kernel_rfl) ?_
          go_wp2_with fail
          refine KN.out.mono ?_
          rintro e w8 ⟨rfl, b8⟩
          have HB := Lib.hid (belowGo HB.out b8)
          clear KN b8
          go_wp2_with fail
          refine plan_calms (by simp [calmRow, need]; rfl) ?_
          go_wp2_with fail
          refine plan_end ?_
          go_wp2_with fail
          exact bodyPost_ret (results_tmp rfl _ _ _) rfl ⟨rfl, HB.out⟩
        · have hki : ¬ (k : Int) < 16 := by omega
          obtain rfl : e2 = en := by rw [HE2.out, if_neg hk16]
          have hek : (e2 : Int) ≤ (c2 : Int) := by omega
          refine wp_region_plan (fun W => W = w6.drew) [.calms [0, 1, 2, 3, 4, 5, 6, 8, 9, 10], .read 7, .act 11, .act 12, .calms [13, 14, 15], .act 16, .calms [17, 18]] (by kernel_rfl) (by rfl) (by kernel_rfl) (by kernel_rfl) rfl ?_
          generalize w6.drew = w7 at *
          have rc := R2c.out.btake (k := e2) hEL
          rw [HTK.out] at rc
          have f2 : (convert 32 9 (.slice A2 e2 c2)).run Tryd.prog w7 = .ok (.string ⟨(bytesM ((X.map EdX.d).take j)).toArray⟩) w7 := run_conv (P := Tryd.prog) Tryd.underlying32 Tryd.underlying5 Tryd.underlying9 c2 rc
          have f1 := Lib.hid (run_conv (P := Tryd.prog) Tryd.underlying32 Tryd.underlying5 Tryd.underlying9 c6 R6.out)
          obtain ⟨S2, hS2⟩ : ∃ S : ByteArray, S = ⟨(bytesM ((X.map EdX.d).take j)).toArray⟩ := ⟨_, rfl⟩
          rw [← hS2] at f1 f2
          clear rc hS2
          refine plan_calms (by simp [calmRow, need, chk]; rfl) ?_
          go_wp2_with fail
          refine plan_read (by rfl) (.string S2) (by rfl) (fun W hW => exec_conv0 rfl rfl (by rw [hW]; exact f1.out)) ?_
          refine plan_act (by rfl) ?_
          go_wp2_with fail
          refine ⟨trivial, ?_⟩
          refine plan_last (by rfl) (by kernel_rfl) ?_
          go_wp2_with fail
          refine plan_calms (by simp [calmRow, need]; rfl) ?_
          go_wp2_with fail
          refine plan_last (by rfl) (by kernel_rfl) ?_
          go_wp2_with fail
          refine KN.out.mono ?_
          rintro e w8 ⟨rfl, b8⟩
          have HB := Lib.hid (belowGo HB.out b8)
          clear KN b8
          go_wp2_with fail
          refine plan_calms (by simp [calmRow, need]; rfl) ?_
          go_wp2_with fail
          refine plan_end ?_
          go_wp2_with fail
          exact bodyPost_ret (results_tmp rfl _ _ _) rfl ⟨rfl, HB.out⟩
end Go.Proofs.YtmahadcohnhdkaaDoor
