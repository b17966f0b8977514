/- What the law SeenTells comes to: true, for any versions and numbers that are read. -/
import Derived.Test.YtpeccfopffgmiaaSeen7
import Derived.Test.YtpeccfopffgmiaaTake
import Derived.BigRegion
import Derived.Deep.RegionHeld3
namespace Go.Proofs.Ytpeccfopffgmiaa
open Go.RowKit

theorem Try.infoRef : (Try.prog.info? 27).map (fun i => (i.zero, i.size, i.bytes)) = some (some (.agg #[.int .u64 0, .int .i64 0]), 2, 16) := by kernel_rfl
theorem eltRef : Elt Try.prog 24 27 (.agg #[.int .u64 0, .int .i64 0]) 2 16 := ⟨Try.underlying24, Try.infoRef, rfl, by omega⟩
theorem vcells_take (l : List Ver) (k : Nat) : vcells (l.take k) = (vcells l).take (k * 2) := flatMap_take _ 2 (fun _ => rfl) l k
theorem vcells_snoc {l : List Ver} {k : Nat} (hk : k < l.length) : vcells (l.take (k + 1)) = vcells (l.take k) ++ #[Value.int .u64 (seqAt l k), Value.int .i64 (kindAt l k)].toList := by
  rw [List.take_succ_eq_append_getElem hk, seqAt_eq hk, kindAt_eq hk]
  unfold vcells
  rw [List.flatMap_append]
  simp

set_option maxHeartbeats 2000000 in
set_option maxRecDepth 100000 in
theorem tells_walk (l : List Ver) (A : Option Addr) (n c : Nat) (at_ : List Int) (A' : Option Addr) (n' c' : Nat) (w : World) (hn : l.length = n) (hn' : at_.length = n') (hc : n ≤ c) (hc' : n' ≤ c') (hcm : c ≤ maxLen) (hcm' : c' ≤ maxLen)
    (h : Rd w w.heap.size 2 A n (vcells l)) (h' : Rd w w.heap.size 1 A' n' (at_.map (.int .u64))) :
    Calls Try.prog 3 #[.slice A n c, .slice A' n' c'] w fun e w' => e = .returned (.bool true) ∧ Below w.heap.size w w' := by
  unfold maxLen at hcm hcm'
  have H := Lib.hid (h.take (Nat.min_le_left n 40))
  have H' := Lib.hid (h'.take (Nat.min_le_left n' 20))
  clear h h'
  go_enter Try.func3, Try.ntmps3
  go_wp2
  go_quiet (fail)
  have m1 := min_toNat n 40 (M := 40) rfl
  have m2 := min_toNat n' 20 (M := 20) rfl
  rw [m1, m2]
  have HL := Lib.hid (show (l.take (min n 40)).length = min n 40 by rw [List.length_take]; omega)
  have HL' := Lib.hid (show (at_.take (min n' 20)).length = min n' 20 by rw [List.length_take]; omega)
  rw [← vcells_take] at H
  rw [Nat.mul_one, ← List.map_take] at H'
  have hk40 : min n 40 ≤ 40 := Nat.min_le_right _ _
  have hk20 : min n' 20 ≤ 20 := Nat.min_le_right _ _
  clear m1 m2
  generalize l.take (min n 40) = l1 at *
  generalize at_.take (min n' 20) = at1 at *
  generalize min n 40 = k at *
  generalize min n' 20 = k' at *
  generalize (if (40 : Int) < ↑n then (40 : Int) else ↑n) = z1
  generalize (if (20 : Int) < ↑n' then (20 : Int) else ↑n') = z2
  go_wp2
  go_loopw [5, 6] (fun v i wr => ∃ j : Nat, j ≤ k ∧ i = .int .i64 j ∧ wr.ownsRow w.heap.size 27 2 v j (vcells (l1.take j)) ∧ Below w.heap.size w wr) (fun _ i _ => k - (intOf i).toNat)
  case atStart => exact ⟨0, Nat.zero_le _, rfl, World.ownsRow_nil _ _ _ _, below_drewN (Below.refl _ _) _⟩
  case round =>
    obtain ⟨j, hj, rfl, hrow, hB⟩ := hrel
    have h := H.out
    have h' := H'.out
    have hn := HL.out
    have hn' := HL'.out
    by_cases hlt : j < k
    · obtain ⟨b, off, rfl, hblk, hcell⟩ := h.2.2 (by omega)
      have hjl : j < l1.length := by omega
      have c0 : wr.cell? ⟨b, off + j * 2, none⟩ = some (.int .u64 (seqAt l1 j)) := (hB.cell (p := ⟨b, off + j * 2, none⟩) hblk).trans (hcell _ _ (vcells_s hjl))
      have c1 : wr.cell? ⟨b, off + j * 2 + 1, none⟩ = some (.int .i64 (kindAt l1 j)) := (hB.cell (p := ⟨b, off + j * 2 + 1, none⟩) hblk).trans (hcell _ _ (vcells_k hjl))
      have HS := Lib.hid (vcells_snoc hjl)
      generalize seqAt l1 j = x at *
      generalize kindAt l1 j = y at *
      clear hcell hn hn'
      have hs := hB.size
      go_wp2_with (at_builtin; refine wpList_push eltRef rfl (.tmp 33) (.tmp 38) rfl (W := wr) rfl hrow rfl rfl (by simp [Value.oneCell']) (by omega) (by unfold maxLen; omega) hB hs ?_; intro v' w' hown' hb' _ _)
      go_roundw
      case rel => exact ⟨j + 1, by omega, by go_num, by rw [HS.out]; exact hown', hb'⟩
      case measure => simp [intOf]; omega
    · obtain ⟨rfl⟩ : k = j := by omega
      have HL2 := HL.out
      rw [List.take_of_length_le (by omega)] at hrow
      obtain ⟨Av, cv, rfl⟩ := own_slice hrow
      have V := own_rd hrow
      have R := (h.below hB (Nat.le_refl _)).more hB.size
      have Q := (h'.below hB (Nat.le_refl _)).more hB.size
      have hB0 := hB
      clear h h' hrow hB HL2
      have R := R
      have Q := Q
      have V := V
      have hb := hB0
      have k1 := seen_any l1 A k c at1 A' k' c' _ hn (by omega) hn' R Q
      have K1 := Lib.hid k1
      clear k1
      go_wp2_with fail
      refine K1.out.mono ?_
      rintro e w1 ⟨v1, rfl, o1, b1⟩
      obtain ⟨A1, c1, rfl⟩ := own_slice o1
      clear K1
      have R := R.after b1
      have Q := Q.after b1
      have V := V.after b1
      have hb := belowGo hb b1
      have RA := own_rd o1
      have R := R
      have Q := Q
      have V := V
      have RA := RA
      have hb := hb
      have k2 := refSeen_any l1 Av k cv at1 A' k' c' _ hn (by omega) hn' V Q
      have K2 := Lib.hid k2
      clear k2
      go_wp2_with fail
      refine K2.out.mono ?_
      rintro e w2 ⟨v2, rfl, o2, b2⟩
      obtain ⟨A2, c2, rfl⟩ := own_slice o2
      clear K2
      have R := R.after b2
      have Q := Q.after b2
      have V := V.after b2
      have RA := RA.after b2
      have hb := belowGo hb b2
      have RB := own_rd o2
      have R := R
      have Q := Q
      have V := V
      have RA := RA
      have RB := RB
      have hb := hb
      have k3 := kept_any l1 A k c at1 A' k' c' _ hn (by omega) hn' R Q
      have K3 := Lib.hid k3
      clear k3
      go_wp2_with fail
      refine K3.out.mono ?_
      rintro e w3 ⟨v3, rfl, o3, b3⟩
      obtain ⟨A3, c3, rfl⟩ := own_slice o3
      clear K3
      have R := R.after b3
      have Q := Q.after b3
      have V := V.after b3
      have RA := RA.after b3
      have RB := RB.after b3
      have hb := belowGo hb b3
      have RC := own_rd o3
      have R := R
      have Q := Q
      have V := V
      have RA := RA
      have RB := RB
      have RC := RC
      have hb := hb
      have k4 := refKept_any l1 Av k cv at1 A' k' c' _ hn (by omega) hn' V Q
      have K4 := Lib.hid k4
      clear k4
      go_wp2_with fail
      refine K4.out.mono ?_
      rintro e w4 ⟨v4, rfl, o4, b4⟩
      obtain ⟨A4, c4, rfl⟩ := own_slice o4
      clear K4
      have R := R.after b4
      have Q := Q.after b4
      have V := V.after b4
      have RA := RA.after b4
      have RB := RB.after b4
      have RC := RC.after b4
      have hb := belowGo hb b4
      have RD := own_rd o4
      have R := R
      have Q := Q
      have V := V
      have RA := RA
      have RB := RB
      have RC := RC
      have RD := RD
      have hb := hb
      have k5 := may_any l1 A k c _ hn R
      have K5 := Lib.hid k5
      clear k5
      go_wp2_with fail
      refine K5.out.mono ?_
      rintro e w5 ⟨rfl, b5⟩
      clear K5
      have R := R.after b5
      have Q := Q.after b5
      have V := V.after b5
      have RA := RA.after b5
      have RB := RB.after b5
      have RC := RC.after b5
      have RD := RD.after b5
      have hb := belowGo hb b5
      have R := R
      have Q := Q
      have V := V
      have RA := RA
      have RB := RB
      have RC := RC
      have RD := RD
      have hb := hb
      have k6 := (refMay_any l1 Av k cv _ hn V).mono (fun _ _ h => (⟨h.1, below_of_drewN h.2⟩ : _ ∧ Below w5.heap.size _ _))
      have K6 := Lib.hid k6
      clear k6
      go_wp2_with fail
      refine K6.out.mono ?_
      rintro e w6 ⟨rfl, b6⟩
      clear K6
      have R := R.after b6
      have Q := Q.after b6
      have V := V.after b6
      have RA := RA.after b6
      have RB := RB.after b6
      have RC := RC.after b6
      have RD := RD.after b6
      have hb := belowGo hb b6
      have HNK := Lib.hid (show (keptL l1 at1).length = (seenL l1 at1).length by unfold keptL seenL; split <;> simp)
      clear hc hc' hcm hcm'
      generalize seenL l1 at1 = sl at *
      generalize keptL l1 at1 = kl at *
      have hsl := RA.2.1
      unfold maxLen at hsl
      go_wp2
      go_loopw [11] (fun i wz => ∃ j : Nat, j ≤ sl.length ∧ i = .int .i64 j ∧ ∃ q, wz = w6.drewN q) (fun i _ => sl.length - (intOf i).toNat)
      case atStart => exact ⟨0, Nat.zero_le _, rfl, 0, rfl⟩
      case round =>
        obtain ⟨j, hj, rfl, q, rfl⟩ := hrel
        by_cases hlt : j < sl.length
        · have hlk : j < kl.length := by have := HNK.out; omega
          obtain ⟨b1, f1, rfl, _, hc1⟩ := RA.2.2 (by omega)
          obtain ⟨b2, f2, rfl, _, hc2⟩ := RB.2.2 (by omega)
          obtain ⟨b3, f3, rfl, _, hc3⟩ := RC.2.2 (by omega)
          obtain ⟨b4, f4, rfl, _, hc4⟩ := RD.2.2 (by omega)
          have d1 : w6.cell? ⟨b1, f1 + j, none⟩ = some (.bool sl[j]) := hc1 _ _ (by simp [hlt])
          have d2 : w6.cell? ⟨b2, f2 + j, none⟩ = some (.bool sl[j]) := hc2 _ _ (by simp [hlt])
          have d3 : w6.cell? ⟨b3, f3 + j, none⟩ = some (.bool kl[j]) := hc3 _ _ (by simp [hlk])
          have d4 : w6.cell? ⟨b4, f4 + j, none⟩ = some (.bool kl[j]) := hc4 _ _ (by simp [hlk])
          have i1 : (j : Int) < (sl.length : Int) := by omega
          have i2 : (j : Int) < (kl.length : Int) := by omega
          generalize sl[j] = x at *
          generalize kl[j] = y at *
          clear hc1 hc2 hc3 hc4
          go_wp2
          go_quiet (fail)
          go_wp2
          go_roundw
          case rel => exact ⟨j + 1, by omega, by go_num, by first | exact ⟨_, rfl⟩ | exact ⟨_, World.drewN_drewN _ _ _⟩⟩
          case measure => simp [intOf]; omega
        · obtain rfl : j = sl.length := by omega
          go_wp2
          obtain ⟨wo, hwo⟩ : ∃ wo : World, wo = w6.drewN q := ⟨_, rfl⟩
          have R' : Rd wo wo.heap.size 2 A k (vcells l1) := by rw [hwo]; exact R
          have Q' : Rd wo wo.heap.size 1 A' k' (at1.map (.int .u64)) := by rw [hwo]; exact Q
          have V' : Rd wo wo.heap.size 2 Av k (vcells l1) := by rw [hwo]; exact V
          have hb' : Below w.heap.size w wo := by rw [hwo]; exact below_drewN hb _
          rw [← hwo]
          clear hwo RA RB RC RD R Q V hb
          go_loopw [12] (fun i wz => ∃ j : Nat, j ≤ k' ∧ i = .int .i64 j ∧ Below wo.heap.size wo wz) (fun i _ => k' - (intOf i).toNat)
          case atStart => exact ⟨0, Nat.zero_le _, rfl, Below.refl _ _⟩
          case round =>
            obtain ⟨j, hj, rfl, hbo⟩ := hrel
            have R := R'.after hbo
            have Q := Q'.after hbo
            have V := V'.after hbo
            by_cases hlt : j < k'
            · obtain ⟨b, off, rfl, hblk, hcell⟩ := Q.2.2 (by omega)
              have hja : j < at1.length := by omega
              have cs : wr.cell? ⟨b, off + j, none⟩ = some (.int .u64 at1[j]) := hcell j _ (by simp [hja])
              have Hm := Q'.2.1
              unfold maxLen at Hm
              generalize at1[j] = s at *
              clear hcell
              have n1 := Lib.hid (newest_any l1 A k c s wr hn (by omega) R)
              go_wp2_with fail
              refine n1.out.mono ?_
              rintro e wa ⟨rfl, ba⟩
              have Ra := R.after ba
              have Va := V.after ba
              have cs2 : wa.cell? ⟨b, off + j, none⟩ = some (.int .u64 s) := (ba.cell (p := ⟨b, off + j, none⟩) hblk).trans cs
              have n2 := Lib.hid (refNewest_any l1 Av k cv s wa hn (by omega) Va)
              clear R V Q cs
              go_wp2_with fail
              refine n2.out.mono ?_
              rintro e wb ⟨rfl, qb, rfl⟩
              have Rb : Rd (wa.drewN qb) (wa.drewN qb).heap.size 2 A k (vcells l1) := Ra
              have Vb : Rd (wa.drewN qb) (wa.drewN qb).heap.size 2 Av k (vcells l1) := Va
              have cs3 : (wa.drewN qb).cell? ⟨b, off + j, none⟩ = some (.int .u64 s) := cs2
              have hbw : b < (wa.drewN qb).heap.size := Nat.lt_of_lt_of_le hblk ba.size
              have hbb := belowGo hbo (Below.trans ba (below_drewN (Below.refl _ _) qb) : Below wr.heap.size wr (wa.drewN qb))
              generalize wa.drewN qb = wb at *
              generalize newK l1 s = nk at *
              generalize newIs l1 s = ni at *
              clear cs2 n1 n2 ba Ra Va hbo
              go_wp2_with fail
              go_region_held3 (fun w' => w'.cell? ⟨b, off + j, none⟩ = some (.int .u64 s)) (first | exact cs8 | exact cs3) (first | (go_at_call 15; refine (there_any l1 A k c s _ hn (by omega) (by exact Rb)).mono ?_; rintro e w8 ⟨rfl, b8⟩; have b9 := below_of wb b8; have V8 := Vb.after b9; have cs8 := (b9.cell (p := ⟨b, off + j, none⟩) hbw).trans cs3) | (go_at_call 16; refine (refThere_any l1 Av k cv s _ hn (by omega) (by first | exact V8 | exact Vb)).mono ?_; rintro e w9 ⟨rfl, q9, rfl⟩))
              go_wp2
              go_roundw
              case rel => exact ⟨j + 1, by omega, by go_num, below_drewN (belowGo hbb b9) _⟩
              case measure => simp [intOf]; omega
            · obtain rfl : j = k' := by omega
              have hk := Lib.hid (knows_any wr)
              go_wp2_with fail
              refine hk.out.mono ?_
              rintro e wz ⟨rfl, bz⟩
              go_wp2
              go_ret
              exact ⟨rfl, belowGo (belowGo hb' hbo) bz⟩
end Go.Proofs.Ytpeccfopffgmiaa
