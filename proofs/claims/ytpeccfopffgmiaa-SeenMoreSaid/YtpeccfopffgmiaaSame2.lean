/- What the law SeenSame comes to: true, for any steps and numbers that are read. -/
import Derived.Test.YtpeccfopffgmiaaSame1
import Derived.Test.YtpeccfopffgmiaaSameLaw
namespace Go.Proofs.Ytpeccfopffgmiaa
open Go.RowKit

theorem versGo_may : ∀ (l : List Stp) (q : Int), 0 ≤ q → (∀ v ∈ l, 0 ≤ v.1 ∧ v.1 ≤ 255) → q + 256 * l.length ≤ 1099511627776 → mayFrom q (versGo q l) = true
  | [], _, _, _, _ => rfl
  | v :: r, q, h0, hw, hq => by
    have hv := hw v List.mem_cons_self
    rw [List.length_cons] at hq
    show mayFrom q ((q + (1 + v.1), if v.2 then 2 else 1) :: versGo (q + (1 + v.1)) r) = true
    rw [mayFrom_step, versGo_may r _ (by omega) (fun u hu => hw u (List.mem_cons_of_mem _ hu)) (by omega)]
    simp only [Bool.and_true, Bool.and_eq_true, decide_eq_true_eq]
    refine ⟨⟨by omega, by omega⟩, ?_⟩
    cases v.2 <;> rfl
theorem versGo_len : ∀ (l : List Stp) (q : Int), (versGo q l).length = l.length
  | [], _ => rfl
  | v :: r, q => by show (versGo _ r).length + 1 = _; rw [versGo_len r]; rfl
theorem verL_may {l : List Stp} (hw : ∀ v ∈ l, 0 ≤ v.1 ∧ v.1 ≤ 255) : mayB (verL l) = true :=
  versGo_may _ 0 (by omega) (fun v hv => hw v (List.mem_of_mem_take hv)) (by have := List.length_take_le 40 l; omega)
theorem verL_len (l : List Stp) : (verL l).length ≤ 40 := by unfold verL; rw [versGo_len, List.length_take]; omega

theorem getD_kept {l : List Ver} (h : mayB l = true) (at_ : List Int) {i : Nat} (hi : i < l.length) : (keptL l at_).getD i false = keptAt l at_ i := by
  unfold keptL
  rw [if_pos h]
  simp [List.getD, hi]
theorem only_sub {l : List Ver} (h : mayB l = true) (at_ : List Int) (but : Int) (M : Nat → Bool) (hM : ∀ i, i < l.length → M i = (keptAt l at_ i && (i : Int) != but)) : onlyL l (keptL l at_) but = subL l M l.length := by
  unfold onlyL onlyTo subL
  rw [keptL_len h, Nat.min_self]
  congr 1
  apply List.filter_congr
  intro i hi
  have hi' : i < l.length := by simpa using hi
  rw [hM i hi']
  unfold onlyP
  rw [getD_kept h at_ hi']
theorem only_all {l : List Ver} (h : mayB l = true) (at_ : List Int) : onlyL l (keptL l at_) (-1) = subL l (keptAt l at_) l.length :=
  only_sub h at_ _ _ (fun i _ => by rw [show ((i : Int) != -1) = true by rw [bne_iff_ne]; omega, Bool.and_true])
theorem only_less {l : List Ver} (h : mayB l = true) (at_ : List Int) (j : Nat) : onlyL l (keptL l at_) j = subL l (fun i => keptAt l at_ i && decide (i ≠ j)) l.length :=
  only_sub h at_ _ _ (fun i _ => by
    congr 1
    rw [Bool.eq_iff_iff]
    simp only [decide_eq_true_eq, bne_iff_ne]
    omega)
theorem saysV_sub {l : List Ver} (h : mayB l = true) (s : Int) (M : Nat → Bool) : saysV (subL l M l.length) s = saysOf l (lastM l M s) := says_sub h s M
theorem saysV_all {l : List Ver} (h : mayB l = true) (s : Int) : saysV l s = saysOf l (lastM l (fun _ => true) s) := by
  have := saysV_sub h s (fun _ => true); rwa [subL_all] at this
theorem there_all {l : List Ver} (h : mayB l = true) (s : Int) : thereB l s = thereOf l (lastM l (fun _ => true) s) := by
  have := there_sub h s (fun _ => true); rwa [subL_all] at this
theorem same_says {l : List Ver} {at_ : List Int} (h : mayB l = true) {s : Int} (hs : s ∈ at_) : saysV (onlyL l (keptL l at_) (-1)) s = saysV l s ∧ thereB (onlyL l (keptL l at_) (-1)) s = thereB l s := by
  rw [only_all h, saysV_sub h, saysV_all h, there_sub h, there_all h]
  exact lastM_kept h hs
theorem same_needed {l : List Ver} {at_ : List Int} (h : mayB l = true) {i : Nat} (hi : i < l.length) (hk : keptAt l at_ i = true) :
    (at_.any fun s => saysV (onlyL l (keptL l at_) i) s != saysV l s) = true ∨ (kindAt l i = 2 ∧ lastKind l at_ i = 2) := by
  have h1 := kept_needed h hi hk
  have e : (at_.any fun s => saysV (onlyL l (keptL l at_) i) s != saysV l s) = (at_.any fun s => saysOf l (lastM l (fun j => keptAt l at_ j && decide (j ≠ i)) s) != saysOf l (lastM l (fun _ => true) s)) := by
    congr 1
    funext s
    rw [only_less h, saysV_sub h, saysV_all h]
  rw [e]; exact h1
theorem same_may {l : List Ver} (h : mayB l = true) (at_ : List Int) : mayB (onlyL l (keptL l at_) (-1)) = true := by
  rw [only_all h]; exact (may_iff _).2 (subL_rising ((may_iff l).1 h) _ (Nat.le_refl _))
theorem same_few {l : List Ver} (h : mayB l = true) (at_ : List Int) : (onlyL l (keptL l at_) (-1)).length ≤ at_.length := by
  rw [only_all h]; exact kept_few _
theorem onlyL_len (l : List Ver) (m : List Bool) (but : Int) : (onlyL l m but).length ≤ l.length := Nat.le_trans (onlyTo_len _ _ _ _) (Nat.min_le_left _ _)

set_option maxHeartbeats 4000000 in
set_option maxRecDepth 100000 in
theorem same_walk (l : List Stp) (A : Option Addr) (n c : Nat) (at_ : List Int) (A' : Option Addr) (n' c' : Nat) (w : World) (hn : l.length = n) (hn' : at_.length = n') (hwf : ∀ v ∈ l, 0 ≤ v.1 ∧ v.1 ≤ 255) (hc' : n' ≤ c')
    (h : Rd w w.heap.size 2 A n (scells l)) (h' : Rd w w.heap.size 1 A' n' (at_.map (.int .u64))) :
    Calls Try.prog 4 #[.slice A n c, .slice A' n' c'] w fun e w' => e = .returned (.bool true) ∧ Below w.heap.size w w' := by
  go_enter Try.func4, Try.ntmps4
  have R := h
  have Q := h'
  have R := R
  have Q := Q
  have hb := (Below.refl w.heap.size w)
  have k1 := versions_any l A n c _ hn hwf R
  have K1 := Lib.hid k1
  clear k1
  go_wp2_with fail
  refine K1.out.mono ?_
  rintro e w1 ⟨v1, rfl, o1, b1⟩
  obtain ⟨A1, c1, rfl⟩ := own_slice o1
  clear K1
  have R := R.after b1
  have Q := Q.after b1
  have hb := belowGo hb b1
  have V := own_rd o1
  have HM := Lib.hid (verL_may hwf)
  have hall := verL_len l
  clear o1 R h h' hwf hn
  generalize verL l = all at *
  have Q := Q.take (Nat.min_le_left n' 20)
  have hmin := min_int n' 20 (M := 20) rfl
  have HL' := Lib.hid (show (at_.take (min n' 20)).length = min n' 20 by rw [List.length_take]; omega)
  rw [Nat.mul_one, ← List.map_take] at Q
  have hk20 : min n' 20 ≤ 20 := Nat.min_le_right _ _
  have hkn : min n' 20 ≤ n' := Nat.min_le_left _ _
  clear hn'
  generalize at_.take (min n' 20) = at1 at *
  generalize min n' 20 = k' at *
  go_wp2_with fail
  clear hmin
  have hn' := HL'.out
  have HLM := Lib.hid (keptL_len HM.out at1)
  have HKM := Lib.hid (same_may HM.out at1)
  have HF := Lib.hid (same_few HM.out at1)
  have HS := Lib.hid (fun s hs => same_says (at_ := at1) (s := s) HM.out hs)
  have HN := Lib.hid (fun i hi hk => same_needed (at_ := at1) (i := i) HM.out hi hk)
  clear HL'
  have V := V
  have Q := Q
  have hb := hb
  have k2 := kept_any all A1 all.length c1 at1 A' k' c' _ rfl (by omega) hn' V Q
  rw [HLM.out] at k2
  have K2 := Lib.hid k2
  clear k2
  refine K2.out.mono ?_
  rintro e w2 ⟨v2, rfl, o2, b2⟩
  obtain ⟨A2, c2, rfl⟩ := own_slice o2
  clear K2
  have V := V.after b2
  have Q := Q.after b2
  have hb := belowGo hb b2
  have M := own_rd o2
  have V := V
  have Q := Q
  have M := M
  have hb := hb
  have k3 := only_any all A1 all.length c1 (keptL all at1) A2 all.length c2 (-1) _ rfl (by omega) HLM.out (by omega) V M
  have K3 := Lib.hid k3
  clear k3
  go_wp2_with fail
  refine K3.out.mono ?_
  rintro e w3 ⟨v3, rfl, o3, b3⟩
  obtain ⟨A3, c3, rfl⟩ := own_slice o3
  clear K3
  have V := V.after b3
  have Q := Q.after b3
  have M := M.after b3
  have hb := belowGo hb b3
  have K := own_rd o3
  have V := V
  have Q := Q
  have M := M
  have K := K
  have hb := hb
  have k4 := may_any (onlyL all (keptL all at1) (-1)) A3 (onlyL all (keptL all at1) (-1)).length c3 _ rfl K
  rw [HKM.out] at k4
  have K4 := Lib.hid k4
  clear k4
  go_wp2_with fail
  refine K4.out.mono ?_
  rintro e w4 ⟨rfl, b4⟩
  clear K4
  have V := V.after b4
  have Q := Q.after b4
  have M := M.after b4
  have K := K.after b4
  have hb := belowGo hb b4
  have hkl := onlyL_len all (keptL all at1) (-1)
  have hkf := HF.out
  rw [hn'] at hkf
  have HA := Lib.hid hn'
  clear HKM HF o2 o3 hn'
  generalize hkept : onlyL all (keptL all at1) (-1) = kept at *
  clear hkept
  have hd : decide (k' < kept.length) = false := decide_eq_false (by omega)
  go_wp2
  obtain ⟨wo, hwo⟩ : ∃ wo : World, wo = w4 := ⟨_, rfl⟩
  subst hwo
  go_loopw [48] (fun i wz => ∃ j : Nat, j ≤ k' ∧ i = .int .i64 j ∧ Below wo.heap.size wo wz) (fun i _ => k' - (intOf i).toNat)
  case atStart => exact ⟨0, Nat.zero_le _, rfl, Below.refl _ _⟩
  case round =>
    obtain ⟨j, hj, rfl, hbo⟩ := hrel
    have V := V.after hbo
    have M := M.after hbo
    have K := K.after hbo
    have Q := Q.after hbo
    by_cases hlt : j < k'
    · obtain ⟨b, off, rfl, hblk, hcell⟩ := Q.2.2 (by omega)
      have hja : j < at1.length := by rw [HA.out]; omega
      have cs : wr.cell? ⟨b, off + j, none⟩ = some (.int .u64 at1[j]) := hcell j _ (by simp [hja])
      have HS1 := Lib.hid (HS.out _ (List.getElem_mem hja)).1
      have HS2 := Lib.hid (HS.out _ (List.getElem_mem hja)).2
      generalize at1[j] = s at *
      clear hcell
      have V := V
      have M := M
      have K := K
      have Q := Q
      have hb := (Below.refl wr.heap.size wr)
      have k11 := says_any kept A3 kept.length c3 s _ rfl (by omega) K
      rw [HS1.out] at k11
      have K11 := Lib.hid k11
      clear k11
      go_wp2_with fail
      refine K11.out.mono ?_
      rintro e w11 ⟨rfl, b11⟩
      clear K11
      have V := V.after b11
      have M := M.after b11
      have K := K.after b11
      have Q := Q.after b11
      have hb := belowGo hb b11
      have V := V
      have M := M
      have K := K
      have Q := Q
      have hb := hb
      have k12 := says_any all A1 all.length c1 s _ rfl (by omega) V
      have K12 := Lib.hid k12
      clear k12
      go_wp2_with fail
      refine K12.out.mono ?_
      rintro e w12 ⟨rfl, b12⟩
      clear K12
      have V := V.after b12
      have M := M.after b12
      have K := K.after b12
      have Q := Q.after b12
      have hb := belowGo hb b12
      have V := V
      have M := M
      have K := K
      have Q := Q
      have hb := hb
      have k13 := there_any kept A3 kept.length c3 s _ rfl (by omega) K
      rw [HS2.out] at k13
      have K13 := Lib.hid k13
      clear k13
      go_wp2_with fail
      refine K13.out.mono ?_
      rintro e w13 ⟨rfl, b13⟩
      clear K13
      have V := V.after b13
      have M := M.after b13
      have K := K.after b13
      have Q := Q.after b13
      have hb := belowGo hb b13
      have V := V
      have M := M
      have K := K
      have Q := Q
      have hb := hb
      have k14 := there_any all A1 all.length c1 s _ rfl (by omega) V
      have K14 := Lib.hid k14
      clear k14
      go_wp2_with fail
      refine K14.out.mono ?_
      rintro e w14 ⟨rfl, b14⟩
      clear K14
      have V := V.after b14
      have M := M.after b14
      have K := K.after b14
      have Q := Q.after b14
      have hb := belowGo hb b14
      go_wp2
      go_roundw
      case rel => exact ⟨j + 1, by omega, by go_num, belowGo hbo hb⟩
      case measure => simp [intOf]; omega
    · obtain rfl : k' = j := by omega
      have hbw := belowGo hb hbo
      have HEQ := Lib.hid (List.take_of_length_le (l := at1) (i := k') (by rw [HA.out]; omega))
      clear hb hbo K HS hd hkf hkl hc'
      go_wp2
      obtain ⟨wp, hwp⟩ : ∃ wp : World, wp = wr := ⟨_, rfl⟩
      subst hwp
      have VO := Lib.hid V
      have MO := Lib.hid M
      have QO := Lib.hid Q
      clear V M Q
      go_loopw [10, 11] (fun lk i wz => ∃ t : Nat, t ≤ all.length ∧ i = .int .i64 t ∧ lk = .int .i64 (lastKind all at1 t) ∧ Below wp.heap.size wp wz) (fun _ i _ => all.length - (intOf i).toNat)
      case atStart => exact ⟨0, Nat.zero_le _, rfl, rfl, Below.refl _ _⟩
      case round =>
        obtain ⟨t, ht, rfl, rfl, hbo⟩ := hrel
        have V := VO.out.after hbo
        have M := MO.out.after hbo
        have Q := QO.out.after hbo
        by_cases hlt : t < all.length
        · obtain ⟨b2, off2, rfl, hblk2, hcell2⟩ := M.2.2 (by omega)
          have hgk : (keptL all at1)[t]? = some (keptAt all at1 t) := by
            have h1 := getD_kept HM.out at1 hlt
            have h2 : t < (keptL all at1).length := by rw [HLM.out]; exact hlt
            rw [List.getElem?_eq_getElem h2, ← h1]; simp [List.getD, h2]
          have cm : wr.cell? ⟨b2, off2 + t, none⟩ = some (.bool (keptAt all at1 t)) := hcell2 t _ (by rw [List.getElem?_map, hgk]; rfl)
          clear hcell2 hgk
          cases hk : keptAt all at1 t with
          | false =>
            rw [hk] at cm
            have HL2 := Lib.hid (lastKind_no hk)
            clear hk
            generalize lastKind all at1 t = lk at *
            go_wp2
            go_roundw
            case rel => exact ⟨t + 1, by omega, by go_num, by rw [HL2.out], hbo⟩
            case measure => simp [intOf]; omega
          | true =>
            rw [hk] at cm
            have HL2 := Lib.hid (lastKind_yes hk)
            have HN2 := Lib.hid (HN.out t hlt hk)
            clear hk
            generalize lastKind all at1 t = lk at *
            have V := V
            have M := M
            have Q := Q
            have hb := (Below.refl wr.heap.size wr)
            have k20 := only_any all A1 all.length c1 (keptL all at1) _ all.length c2 t _ rfl (by omega) HLM.out (by omega) V M
            have K20 := Lib.hid k20
            clear k20
            go_wp2_with fail
            refine K20.out.mono ?_
            rintro e w20 ⟨v20, rfl, o20, b20⟩
            obtain ⟨A20, c20, rfl⟩ := own_slice o20
            clear K20
            have V := V.after b20
            have M := M.after b20
            have Q := Q.after b20
            have hb := belowGo hb b20
            have L := own_rd o20
            have hll := onlyL_len all (keptL all at1) (t : Int)
            generalize hless : onlyL all (keptL all at1) (t : Int) = less at *
            clear hless o20
            have hbq := belowGo hbo hb
            have LO := Lib.hid L
            have VQ := Lib.hid V
            have QQ := Lib.hid Q
            obtain ⟨wi, hwi⟩ : ∃ wi : World, wi = w20 := ⟨_, rfl⟩
            subst hwi
            clear L V Q M hb hbo
            go_wp2
            go_loopw [13, 86] (fun d i wz => ∃ u : Nat, u ≤ k' ∧ i = .int .i64 u ∧ d = .bool ((at1.take u).any fun s => saysV less s != saysV all s) ∧ Below wi.heap.size wi wz) (fun _ i _ => k' - (intOf i).toNat)
            case atStart => exact ⟨0, Nat.zero_le _, rfl, rfl, Below.refl _ _⟩
            case round =>
              obtain ⟨u, hu, rfl, rfl, hbi⟩ := hrel
              have V := VQ.out.after hbi
              have L := LO.out.after hbi
              have Q := QQ.out.after hbi
              by_cases hlt3 : u < k'
              · obtain ⟨b3, off3, rfl, hblk3, hcell3⟩ := Q.2.2 (by omega)
                have hja : u < at1.length := by rw [HA.out]; omega
                have cs : wr.cell? ⟨b3, off3 + u, none⟩ = some (.int .u64 at1[u]) := hcell3 u _ (by simp [hja])
                have HT := Lib.hid (show (at1.take (u + 1)).any (fun s => saysV less s != saysV all s) = ((at1.take u).any (fun s => saysV less s != saysV all s) || (saysV less at1[u] != saysV all at1[u])) by
                  rw [List.take_succ_eq_append_getElem hja, List.any_append]; simp)
                generalize at1[u] = s at *
                clear hcell3
                cases hD : (at1.take u).any (fun s => saysV less s != saysV all s) with
                | true =>
                  rw [hD] at HT
                  clear hD
                  go_wp2
                  go_roundw
                  case rel => exact ⟨u + 1, by omega, by go_num, by rw [HT.out]; rfl, hbi⟩
                  case measure => simp [intOf]; omega
                | false =>
                  rw [hD] at HT
                  clear hD
                  obtain ⟨wq, hwq⟩ : ∃ wq : World, wq = wr := ⟨_, rfl⟩
                  subst hwq
                  have V := V
                  have L := L
                  have Q := Q
                  have hb := (Below.refl wq.heap.size wq)
                  have k31 := says_any less A20 less.length c20 s _ rfl (by omega) L
                  have K31 := Lib.hid k31
                  clear k31
                  go_wp2_with fail
                  refine K31.out.mono ?_
                  rintro e w31 ⟨rfl, b31⟩
                  clear K31
                  have V := V.after b31
                  have L := L.after b31
                  have Q := Q.after b31
                  have hb := belowGo hb b31
                  have V := V
                  have L := L
                  have Q := Q
                  have hb := hb
                  have k32 := says_any all A1 all.length c1 s _ rfl (by omega) V
                  have K32 := Lib.hid k32
                  clear k32
                  go_wp2_with fail
                  refine K32.out.mono ?_
                  rintro e w32 ⟨rfl, b32⟩
                  clear K32
                  have V := V.after b32
                  have L := L.after b32
                  have Q := Q.after b32
                  have hb := belowGo hb b32
                  generalize saysV less s = x1 at *
                  generalize saysV all s = x2 at *
                  go_wp2
                  go_roundw
                  case rel => exact ⟨u + 1, by omega, by go_num, by rw [HT.out]; simp, belowGo hbi hb⟩
                  case measure => simp [intOf]; omega
              · obtain rfl : k' = u := by omega
                have HN3 := HN2.out
                have e := HEQ.out
                rw [e]
                clear e
                obtain ⟨b1, off1, rfl, hblk1, hcell1⟩ := V.2.2 (by omega)
                have ck : wr.cell? ⟨b1, off1 + t * 2 + 1, none⟩ = some (.int .i64 (kindAt all t)) := hcell1 _ _ (vcells_k hlt)
                have hti : (t : Int) < (all.length : Int) := by omega
                generalize kindAt all t = y at *
                generalize (at1.any fun s => saysV less s != saysV all s) = D at *
                clear hcell1 HN2
                cases D with
                | true =>
                  clear HN3
                  go_wp2
                  go_roundw
                  case rel => exact ⟨t + 1, by omega, by go_num, by rw [HL2.out], belowGo hbq hbi⟩
                  case measure => simp [intOf]; omega
                | false =>
                  obtain ⟨hy, hlk⟩ : y = 2 ∧ lk = 2 := by
                    rcases HN3 with h | h
                    · cases h
                    · exact h
                  clear HN3
                  subst hy
                  subst hlk
                  go_wp2
                  go_roundw
                  case rel => exact ⟨t + 1, by omega, by go_num, by rw [HL2.out], belowGo hbq hbi⟩
                  case measure => simp [intOf]; omega
        · obtain rfl : t = all.length := by omega
          have hk := Lib.hid (knows_any wr)
          go_wp2_with fail
          refine hk.out.mono ?_
          rintro e wz ⟨rfl, bz⟩
          go_wp2
          go_ret
          exact ⟨rfl, belowGo (belowGo hbw hbo) bz⟩
end Go.Proofs.Ytpeccfopffgmiaa
