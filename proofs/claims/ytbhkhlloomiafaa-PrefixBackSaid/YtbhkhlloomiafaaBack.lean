/- What the law PrefixBack comes to: true, for every row of numbers, cut and bytes. -/
import Derived.Test.YtbhkhlloomiafaaBackLaw
import Derived.Test.YtbhkhlloomiafaaPre6
import Derived.Test.YtbhkhlloomiafaaSched
namespace Go.Proofs.Ytbhkhlloomiafaa
open Go.RowKit

theorem own_cap {w : World} {base : Nat} {e : TypeId} {size : Nat} {v : Value} {n : Nat} {xs : List Value} (h : w.ownsRow base e size v n xs) : ∃ A c, v = .slice A n c ∧ n ≤ c := by
  rcases h.2 with ⟨rfl, rfl⟩ | ⟨g, cap, cur, rfl, hb, hh, hnc, hcm, _⟩
  · exact ⟨_, _, rfl, Nat.le_refl _⟩
  · exact ⟨_, _, rfl, hnc⟩
theorem put_nil (x : Nat) (w : World) (hx : x < 18446744073709551616) :
    Calls Try.prog 10 #[.slice none 0 0, .int .u64 (x : Int)] w (RetOwn w 5 1 (psize x) (bcells (pform x))) := by
  have := put_any [] none 0 0 x hx w (Rd.nil_ _ _ _ none) (by omega)
  rw [List.nil_append, Nat.zero_add] at this
  exact this
def allF (l : List Nat) : List UInt8 := l.flatMap pform
theorem Rd.btake {w : World} {B n : Nat} {A : Option Addr} {l : List UInt8} (h : Rd w B 1 A n (bcells l)) {k : Nat} (hk : k ≤ n) : Rd w B 1 A k (bcells (l.take k)) := by
  have := h.take hk
  rw [Nat.mul_one] at this
  unfold bcells at *
  rw [List.map_take]
  exact this
theorem Rd.bdrop {w : World} {B n b off : Nat} {l : List UInt8} (h : Rd w B 1 (some ⟨b, off, none⟩) n (bcells l)) {k : Nat} (hk : k ≤ n) : Rd w B 1 (some ⟨b, off + k, none⟩) (n - k) (bcells (l.drop k)) := by
  have := h.drop hk
  rw [Nat.mul_one] at this
  unfold bcells at *
  rw [List.map_drop]
  exact this
theorem allF_len : ∀ l : List Nat, (allF l).length ≤ 9 * l.length
  | [] => by simp [allF]
  | x :: l => by
    have h := allF_len l
    have e : allF (x :: l) = pform x ++ allF l := rfl
    have := psize_le x
    rw [e, List.length_append, pform_len, List.length_cons]
    omega
theorem allF_snoc (l : List Nat) {k : Nat} (hk : k < l.length) : allF (l.take (k + 1)) = allF (l.take k) ++ pform (l.getD k 0) := by
  have e : l.getD k 0 = l[k] := by simp [List.getD, hk]
  rw [List.take_succ_eq_append_getElem hk, e]
  unfold allF
  rw [List.flatMap_append, List.flatMap_singleton]
theorem allF_split (l : List Nat) {k : Nat} (hk : k < l.length) : allF l = allF (l.take k) ++ (pform (l.getD k 0) ++ allF (l.drop (k + 1))) := by
  have : l = l.take k ++ (l.getD k 0 :: l.drop (k + 1)) := by
    simp [List.getD, hk]
  conv => lhs; rw [this]
  simp [allF]

theorem allF_at (l : List Nat) (k j : Nat) (hj : j < k) (hk : k ≤ l.length) : ∃ R, allF (l.take k) = allF (l.take j) ++ (pform (l.getD j 0) ++ R) := by
  have h := allF_split (l.take k) (k := j) (by rw [List.length_take]; omega)
  have e : (l.take k).getD j 0 = l.getD j 0 := by simp [List.getD, hj]
  rw [List.take_take, Nat.min_eq_left (by omega), e] at h
  exact ⟨_, h⟩

set_option maxRecDepth 100000 in
set_option maxHeartbeats 4000000 in
theorem back_walk (l : List Nat) (A : Option Addr) (n c : Nat) (cut : Nat) (hcut : cut < 65536) (l2 : List UInt8) (A2 : Option Addr) (n2 c2 : Nat) (w : World) (hl : l.length = n) (hlt : ∀ k, l.getD k 0 < 18446744073709551616) (hnc : n ≤ c) (hnc2 : n2 ≤ c2)
    (h : Rd w w.heap.size 1 A n (l.map fun (x : Nat) => Value.int .u64 (x : Int))) (h2 : Rd w w.heap.size 1 A2 n2 (bcells l2)) :
    Calls Try.prog 3 #[.slice A n c, .int .u16 (cut : Int), .slice A2 n2 c2] w fun e w' => e = .returned (.bool true) ∧ Below w.heap.size w w' := by
  have hmx := h.2.1
  unfold maxLen at hmx
  have HW := fun w => Lib.hid (wakes_any w)
  obtain ⟨kk, hkk⟩ : ∃ kk, kk = min n 30 := ⟨_, rfl⟩
  have hmin : min (n : Int) 30 = (kk : Int) := by omega
  have hk30 : kk ≤ 30 := by omega
  have hkn : kk ≤ n := by omega
  clear hkk
  have hg : ∀ w', Below w.heap.size w w' → ∀ j, j < kk → ∃ b off, A = some ⟨b, off, none⟩ ∧ b < w.heap.size ∧ w'.cell? ⟨b, off + j, none⟩ = some (.int .u64 (l.getD j 0 : Int)) := fun w' hb j hj => by
    obtain ⟨b, off, e, hbk, hc⟩ := h.2.2 (by omega)
    refine ⟨b, off, e, hbk, (hb.cell (p := ⟨b, off + j, none⟩) hbk).trans (hc j _ ?_)⟩
    simp [List.getD, show j < l.length by omega]
  have H := Lib.hid h
  have HL := Lib.hid hl
  clear h hl
  go_enter Try.func3, Try.ntmps3
  go_wp2_with fail
  refine (HW w).out.mono ?_
  rintro e w1 ⟨rfl, b1⟩
  go_wp2
  go_loopw [7, 35] (fun v i wr => ∃ k : Nat, k ≤ kk ∧ i = .int .i64 k ∧ Below w.heap.size w wr ∧ ∃ A' c', v = .slice A' (allF (l.take k)).length c' ∧ (allF (l.take k)).length ≤ c' ∧ Rd wr wr.heap.size 1 A' (allF (l.take k)).length (bcells (allF (l.take k)))) (fun _ i _ => kk - (intOf i).toNat)
  case atStart => exact ⟨0, Nat.zero_le _, rfl, b1, none, 0, rfl, Nat.le_refl _, Rd.nil_ _ _ _ none⟩
  case round =>
    obtain ⟨k, hk, rfl, hb, A', c', rfl, hc', hr⟩ := hrel
    by_cases hlk : k < kk
    · obtain ⟨b, off, rfl, hbk, hcell⟩ := hg wr hb k hlk
      have hx := hlt k
      have hlen := allF_len (l.take k)
      have hlen' : (l.take k).length ≤ 30 := by rw [List.length_take]; omega
      have HS := Lib.hid (allF_snoc l (show k < l.length by have := HL.out; omega))
      generalize l.getD k 0 = x at *
      have HP := Lib.hid (put_any (allF (l.take k)) A' _ c' x hx wr hr (by omega))
      have HZ := fun w => Lib.hid (size_at x x (psize x) w rfl hx rfl)
      have hz9 := psize_le x
      generalize hF : allF (l.take k) = F at *
      clear hF hg
      go_wp2_with fail
      refine HP.out.mono ?_
      rintro e w2 ⟨v2, rfl, o2, b2⟩
      obtain ⟨A2', c2', rfl, z2⟩ := own_cap o2
      have r2 := own_rd o2
      have r1 := hr.after b2
      have hb := belowGo hb b2
      go_wp2_with fail
      refine (HZ w2).out.mono ?_
      rintro e w3 ⟨rfl, b3⟩
      have r2 := r2.after b3
      have r1 := r1.after b3
      have hb := belowGo hb b3
      clear b2 b3 o2 hr
      have HE := Lib.hid (equal_at _ F A2' F.length c2' A' F.length c' true w3 (by rw [List.take_left]; exact beq_self_eq_true _) (r2.btake (Nat.le_add_right _ _)) r1)
      go_wp2_with fail
      refine HE.out.mono ?_
      rintro e w4 ⟨rfl, b4⟩
      have r2 := r2.after b4
      have hb := belowGo hb b4
      clear HE r1 b4
      go_wp2
      go_roundw
      case rel =>
        refine ⟨k + 1, by omega, by go_num, hb, A2', c2', ?_⟩
        rw [HS.out, List.length_append, pform_len]
        exact ⟨rfl, z2, r2⟩
      case measure => simp [intOf]; omega
    · obtain rfl : k = kk := by omega
      have hlen := allF_len (l.take k)
      have hlen' : (l.take k).length ≤ 30 := by rw [List.length_take]; omega
      have HF := Lib.hid (fun j (hj : j < k) => allF_at l k j hj (by have := HL.out; omega))
      generalize hF : allF (l.take k) = F at *
      obtain ⟨N, hN⟩ : ∃ N, N = F.length := ⟨_, rfl⟩
      rw [← hN] at hc' hlen hr ⊢
      have HN := Lib.hid hN
      clear hN
      obtain ⟨en, hen⟩ : ∃ en, en = cut % (N + 1) := ⟨_, rfl⟩
      have hen1 : en ≤ N := by have := Nat.mod_lt cut (show N + 1 > 0 by omega); omega
      have hrem : (cut : Int) % ((N : Int) + 1) = (en : Int) := by rw [hen]; simp
      have HEN := Lib.hid hen
      clear hen
      have i1 : (en : Int) ≤ (c' : Int) := by omega
      have i2 : (0 : Int) ≤ (en : Int) := by omega
      have i3 : en ≤ c' := by omega
      go_wp2
      simp only [hrem]
      have i4 : A' = none → N = 0 := fun e => by
        subst e
        rcases Nat.eq_zero_or_pos N with h0 | h0
        · exact h0
        · obtain ⟨_, _, e, _⟩ := hr.2.2 h0; cases e
      cases A'
      all_goals
        go_quiet (fail)
        have br := below_drewN (Below.refl wr.heap.size wr) nq
        have hrq : Rd (wr.drewN nq) (wr.drewN nq).heap.size 1 _ N (bcells F) := hr
        have hbq := belowGo hb br
        clear hr hb br
        generalize wr.drewN nq = wq at *
        go_wp2
        go_loopw [12, 72] (fun a i wz => ∃ j : Nat, j ≤ k ∧ i = .int .i64 j ∧ a = .int .i64 ((allF (l.take j)).length : Nat) ∧ Below wq.heap.size wq wz) (fun _ i _ => k - (intOf i).toNat)
        case atStart => exact ⟨0, Nat.zero_le _, rfl, rfl, Below.refl _ _⟩
        case round =>
          obtain ⟨j, hj, rfl, rfl, hbz⟩ := hrel
          by_cases hjk : j < k
          · obtain ⟨b, off, rfl, hbk, hcell⟩ := hg wr (belowGo hbq hbz) j hjk
            have hx := hlt j
            obtain ⟨R, hR⟩ := HF.out j hjk
            have HS := Lib.hid (show allF (l.take (j + 1)) = allF (l.take j) ++ pform (l.getD j 0) from allF_snoc l (by have := HL.out; omega))
            generalize l.getD j 0 = x at *
            have hxp := psize_pos x
            have hz9 := psize_le x
            have hNl : N = (allF (l.take j)).length + psize x + R.length := by rw [HN.out, hR, List.length_append, List.length_append, pform_len]; omega
            first
              | (exfalso; obtain ⟨_, _, e, _⟩ := hrq.2.2 (by omega); cases e; done)
              | (obtain ⟨b', off', e, hbk', hcell'⟩ := hrq.2.2 (by omega)
                 cases e
                 clear hcell' i4
                 have r1 := (hrq.after hbz).bdrop (k := (allF (l.take j)).length) (by omega)
                 rw [hR, List.drop_left] at r1
                 generalize hG : allF (l.take j) = G at *
                 have a1 : (G.length : Int) ≤ (N : Int) := by omega
                 have a2 : G.length ≤ N := by omega
                 have a3 : (G.length : Int) ≤ (c' : Int) := by omega
                 have a4 : G.length < c' := by omega
                 have HG := Lib.hid (get_at _ _ _ (c' - G.length) x (psize x) 0 x (psize x) 0 wr (getP_form x hx R) rfl rfl rfl (by omega) r1)
                 have hN2 : G.length + psize x ≤ N := by omega
                 clear hNl
                 have HZ := fun w => Lib.hid (size_at x x (psize x) w rfl hx rfl)
                 have e1 : ((x : Int) != (x : Int)) = false := by simp
                 have e2 : ((psize x : Int) != (psize x : Int)) = false := by simp
                 go_wp2_with fail
                 refine HG.out.mono ?_
                 rintro e w5 ⟨rfl, b5⟩
                 have hbz := belowGo hbz b5
                 go_wp2_with fail
                 refine (HZ w5).out.mono ?_
                 rintro e w6 ⟨rfl, b6⟩
                 have hbz := belowGo hbz b6
                 clear b5 b6 r1 HG
                 have HR := Lib.hid hR
                 clear hR
                 by_cases hge : G.length ≤ en
                 · have r3 := ((hrq.after hbz).btake hen1).bdrop hge
                   rw [HR.out, List.drop_take, List.drop_left] at r3
                   have a5 : (G.length : Int) ≤ (en : Int) := by omega
                   by_cases hwh : psize x ≤ en - G.length
                   · have a6 : (G.length : Int) + (psize x : Int) ≤ (en : Int) := by omega
                     have HG := Lib.hid (get_at _ _ _ (c' - G.length) x (psize x) 0 x (psize x) 0 w6 (getP_whole x hx R _ hwh) rfl rfl rfl (by omega) r3)
                     go_wp2_with fail
                     refine HG.out.mono ?_
                     rintro e w7 ⟨rfl, b7⟩
                     have hbz := belowGo hbz b7
                     go_wp2
                     go_roundw
                     case rel => exact ⟨j + 1, by omega, by go_num, by rw [HS.out, List.length_append, pform_len]; simp, hbz⟩
                     case measure => simp [intOf]; omega
                   · have a6 : ¬ (G.length : Int) + (psize x : Int) ≤ (en : Int) := by omega
                     have HG := Lib.hid (get_at _ _ _ (c' - G.length) 0 0 4 0 0 4 w6 (getP_cut x R _ (by omega)) rfl rfl rfl (by omega) r3)
                     go_wp2_with fail
                     refine HG.out.mono ?_
                     rintro e w7 ⟨rfl, b7⟩
                     have hbz := belowGo hbz b7
                     go_wp2
                     go_roundw
                     case rel => exact ⟨j + 1, by omega, by go_num, by rw [HS.out, List.length_append, pform_len]; simp, hbz⟩
                     case measure => simp [intOf]; omega
                 · have a5 : ¬ (G.length : Int) ≤ (en : Int) := by omega
                   go_wp2
                   go_roundw
                   case rel => exact ⟨j + 1, by omega, by go_num, by rw [HS.out, List.length_append, pform_len]; simp, hbz⟩
                   case measure => simp [intOf]; omega)
          · obtain rfl : j = k := by omega
            have hG : (allF (l.take j)).length = N := by rw [hF, HN.out]
            rw [hG]
            have hbe := belowGo hbq hbz
            have r2 := h2.below hbe (Nat.le_refl _)
            have r2 := r2.more hbe.size
            have HA := getP_any l2
            obtain ⟨x, y, z, hxyz⟩ : ∃ x y z, getP l2 = (x, y, z) := ⟨_, _, _, rfl⟩
            have HG := Lib.hid (get_at l2 A2 n2 c2 x y z x y z wr hxyz rfl rfl rfl hnc2 r2)
            rw [hxyz] at HA
            clear hxyz
            simp only at HA
            clear hbz hbq hrq HF hG
            have HPN := fun hx w => Lib.hid (put_nil x w hx)
            go_wp2_with fail
            refine HG.out.mono ?_
            rintro e w5 ⟨rfl, b5⟩
            have hbe := belowGo hbe b5
            have r2 := r2.after b5
            have hl2 : l2.length = n2 := by have := r2.1; rw [bcells_len] at this; omega
            clear b5 HG
            have e1 : ((N : Int) == (N : Int)) = true := by simp
            rcases HA with ⟨h0, hy, hx, hp⟩ | ⟨hz, h0, h1⟩
            · subst h0
              have rt := r2.btake (k := y) (by omega)
              rw [← hp] at rt
              have i1 : (y : Int) ≤ (n2 : Int) := by omega
              have i2 : (y : Int) ≤ (c2 : Int) := by omega
              have i3 : y ≤ c2 := by omega
              have HE := fun w A n c A' n' c' (h : Rd w w.heap.size 1 A n (bcells (pform x))) (h' : Rd w w.heap.size 1 A' n' (bcells (pform x))) => Lib.hid (equal_at (pform x) (pform x) A n c A' n' c' true w (beq_self_eq_true _) h h')
              clear hp
              have rt0 : Rd w5 w5.heap.size 1 A2 y (bcells (pform x)) := rt
              go_wp2_with fail
              have rd : Rd w5.drew w5.drew.heap.size 1 A2 y (bcells (pform x)) := rt
              have hbd : Below w.heap.size w w5.drew := ⟨hbe.os, hbe.tape, hbe.output, hbe.size, hbe.block⟩
              clear rt rt0 r2 hbe
              refine wp_region_sched [(0, true), (1, false), (2, false), (3, false), (4, false), (5, false), (6, false), (7, false), (8, true), (10, true), (11, true), (12, true), (9, false), (13, false), (14, false), (15, false), (16, false), (17, false), (18, false), (19, false), (20, false), (21, false), (22, false), (23, false), (24, false), (25, false), (26, false), (27, false), (28, false), (29, false), (30, false), (31, false), (32, false), (33, false), (34, false), (35, false)] (by kernel_rfl) (by rfl) (by kernel_rfl) (by kernel_rfl) (by simp only [build, need, List.map_nil, List.nil_append, List.getElem?_toArray, List.getElem?_cons_zero, List.getElem?_cons_succ, if_true, if_false, Bool.false_eq_true]; rfl) ?_
              generalize w5.drew = wd at *
              go_wp2_with fail
              refine (HPN hx wd).out.mono ?_
              rintro e wp ⟨vp, rfl, op, bp⟩
              obtain ⟨Ap, cp, rfl⟩ := own_slice op
              have rp := own_rd op
              have rd := rd.after bp
              have hbd := belowGo hbd bp
              clear op bp
              go_wp2_with fail
              refine (HE wp _ _ _ _ _ _ rp rd).out.mono ?_
              rintro e wr ⟨rfl, br⟩
              have hbd := belowGo hbd br
              clear rp rd br
              go_wp2_with fail
              refine (HW wr).out.mono ?_
              rintro e wu ⟨rfl, bu⟩
              go_wp2
              go_ret
              exact ⟨rfl, belowGo hbd bu⟩
            · have hbd : Below w.heap.size w w5.drew := ⟨hbe.os, hbe.tape, hbe.output, hbe.size, hbe.block⟩
              clear r2 hbe hl2
              subst h0
              subst h1
              rcases hz with rfl | rfl
              all_goals
                go_wp2_with fail
                refine wp_region_sched [(0, true), (1, false), (2, false), (3, false), (4, false), (5, false), (6, false), (7, false), (8, true), (10, true), (11, true), (12, true), (9, false), (13, false), (14, false), (15, false), (16, false), (17, false), (18, false), (19, false), (20, false), (21, false), (22, false), (23, false), (24, false), (25, false), (26, false), (27, false), (28, false), (29, false), (30, false), (31, false), (32, false), (33, false), (34, false), (35, false)] (by kernel_rfl) (by rfl) (by kernel_rfl) (by kernel_rfl) (by simp only [build, need, List.map_nil, List.nil_append, List.getElem?_toArray, List.getElem?_cons_zero, List.getElem?_cons_succ, if_true, if_false, Bool.false_eq_true]; rfl) ?_
                generalize w5.drew = wd at *
                go_wp2_with fail
                refine (HW wd).out.mono ?_
                rintro e wu ⟨rfl, bu⟩
                go_wp2
                go_ret
                exact ⟨rfl, belowGo hbd bu⟩
end Go.Proofs.Ytbhkhlloomiafaa
