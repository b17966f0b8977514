/- What the law PrefixCalls comes to: true, for every bytes, number and size. -/
import Derived.Test.YtbhkhlloomiafaaRef4
import Derived.Test.YtbhkhlloomiafaaPre6
namespace Go.Proofs.Ytbhkhlloomiafaa
open Go.RowKit

theorem xor_255 (x : Nat) (h : x < 256) : bits BinOp.xor IntKind.u8 (x : Int) 255 = ((255 - x : Nat) : Int) := by
  have all : ∀ j : Fin 256, bits BinOp.xor IntKind.u8 (j.val : Int) 255 = ((255 - j.val : Nat) : Int) := by decide +kernel
  exact all ⟨x, h⟩

set_option maxRecDepth 100000 in
set_option maxHeartbeats 4000000 in
theorem calls_walk (l0 : List UInt8) (A : Option Addr) (n0 c : Nat) (x : Nat) (hx : x < 18446744073709551616) (s : Int) (w : World) (hnc : n0 ≤ c) (h0 : Rd w w.heap.size 1 A n0 (bcells l0)) :
    Calls Try.prog 7 #[.slice A n0 c, .int .u64 (x : Int), .int .i64 s] w fun e w' => e = .returned (.bool true) ∧ Below w.heap.size w w' := by
  obtain ⟨n, hn⟩ : ∃ n, n = min n0 40 := ⟨_, rfl⟩
  have hmin : min (n0 : Int) 40 = (n : Int) := by omega
  have hn40 : n ≤ 40 := by omega
  have hnn : n ≤ n0 := by omega
  have hmx := h0.2.1
  unfold maxLen at hmx
  have h := h0.btake' hnn
  clear hn h0
  generalize l0.take n = l at *
  have i1 : (n : Int) ≤ (c : Int) := by omega
  have i2 : n ≤ c := by omega
  have hln : l.length = n := by have := h.1; rw [bcells_len] at this; omega
  have HLN := Lib.hid hln
  have HO := Lib.hid (rown_any l A n c w h (by omega))
  have hk1 := psize_pos x
  have hk9 := psize_le x
  obtain ⟨m, hm⟩ : ∃ m, m = n + psize x := ⟨_, rfl⟩
  have hm1 : 1 ≤ m := by omega
  have hm100 : m ≤ 100 := by omega
  have HM := Lib.hid hm
  clear hln hm
  go_enter Try.func7, Try.ntmps7
  go_wp2_with fail
  refine HO.out.mono ?_
  rintro e w1 ⟨v1, rfl, o1, b1⟩
  obtain ⟨A1, c1, rfl, z1⟩ := own_cap' o1
  have ro := own_rd o1
  have rb := (h.below b1 (Nat.le_refl _)).more b1.size
  have hb := b1
  clear HO o1 b1
  have K1 := Lib.hid (get_any l A1 n c1 w1 z1 ro)
  go_wp2_with fail
  refine K1.out.mono ?_
  rintro e w1 ⟨rfl, rfl⟩
  have K2 := Lib.hid (rget_any l A n c w1 i2 rb)
  clear K1
  generalize getP l = gp at *
  obtain ⟨g1, g2, g3⟩ := gp
  simp only at K2 ⊢
  go_wp2_with fail
  refine K2.out.mono ?_
  rintro e w2 ⟨rfl, b2⟩
  have ro := ro.after b2
  have rb := rb.after b2
  have hb := belowGo hb b2
  clear K2 b2
  have K3 := Lib.hid (fixed_any l A1 n c1 x hx s w2 ro (by omega))
  go_wp2_with fail
  refine K3.out.mono ?_
  rintro e w3 ⟨v3, rfl, o3, b3⟩
  obtain ⟨A3, c3, rfl⟩ := own_slice o3
  have r3 := own_rd o3
  have ro := ro.after b3
  have rb := rb.after b3
  have hb := belowGo hb b3
  clear K3 b3 o3
  have K4 := Lib.hid (rfixed_any l A n c x hx s w3 rb (by omega))
  go_wp2_with fail
  refine K4.out.mono ?_
  rintro e w4 ⟨v4, rfl, o4, b4⟩
  obtain ⟨A4, c4, rfl⟩ := own_slice o4
  have r4 := own_rd o4
  have ro := ro.after b4
  have rb := rb.after b4
  have r3 := r3.after b4
  have hb := belowGo hb b4
  clear K4 b4 o4
  generalize hfb : fixedB l x s = fb at *
  clear hfb
  generalize fixedE x s = fe at *
  have K5 := Lib.hid (read_any l A1 n c1 s w4 ro)
  go_wp2_with fail
  refine K5.out.mono ?_
  rintro e w4 ⟨rfl, rfl⟩
  have K6 := Lib.hid (rread_any l A n c s w4 rb)
  clear K5
  go_wp2_with fail
  refine K6.out.mono ?_
  rintro e w4 ⟨rfl, rfl⟩
  clear K6
  generalize readN l s = rn at *
  generalize readE l s = re at *
  have K7 := Lib.hid (narrow_any x hx s w4)
  go_wp2_with fail
  refine K7.out.mono ?_
  rintro e w4 ⟨rfl, rfl⟩
  have K8 := Lib.hid (rnarrow_any x hx s w4)
  clear K7
  generalize narrowN x s = nn at *
  generalize narrowE x s = ne at *
  go_wp2_with fail
  refine K8.out.mono ?_
  rintro e w5 ⟨rfl, b5⟩
  have ro := ro.after b5
  have rb := rb.after b5
  have r3 := r3.after b5
  have r4 := r4.after b5
  have hb := belowGo hb b5
  clear K8 b5
  have K9 := Lib.hid (equal_at fb fb A3 fb.length c3 A4 fb.length c4 true w5 (beq_self_eq_true _) r3 r4)
  clear r3 r4
  go_wp2_with fail
  refine K9.out.mono ?_
  rintro e w6 ⟨rfl, b6⟩
  have ro := ro.after b6
  have rb := rb.after b6
  have hb := belowGo hb b6
  clear K9 b6
  have ro6 := ro
  have rb6 := rb
  have hb6 := hb
  have K10 := Lib.hid (put_any l A1 n c1 x hx w6 ro (by omega))
  rw [← HM.out] at K10
  go_wp2_with fail
  refine K10.out.mono ?_
  rintro e w7 ⟨v7, rfl, o7, b7⟩
  obtain ⟨g7, c7, rfl, z7, hg7⟩ := own_ptr o7 (by omega)
  have r7 := own_rd o7
  have ro := ro.after b7
  have rb := rb.after b7
  have hb := belowGo hb b7
  clear K10
  have K11 := Lib.hid (rput_any l A n c x hx w7 rb (by omega))
  rw [← HM.out] at K11
  go_wp2_with fail
  refine K11.out.mono ?_
  rintro e w8 ⟨v8, rfl, o8, b8⟩
  obtain ⟨A8, c8, rfl⟩ := own_slice o8
  have r8 := own_rd o8
  have ro := ro.after b8
  have rb := rb.after b8
  have r7 := r7.after b8
  have o7 := Ow.after o7 b8
  have hb := belowGo hb b8
  clear K11 o8
  generalize hpl : l ++ pform x = pl at *
  have K12 := Lib.hid (equal_at pl pl _ m c7 A8 m c8 true w8 (beq_self_eq_true _) r7 r8)
  clear r7 r8
  go_wp2_with fail
  refine K12.out.mono ?_
  rintro e w9 ⟨rfl, b9⟩
  have ro := ro.after b9
  have rb := rb.after b9
  have o7 := Ow.after o7 b9
  have hb := belowGo hb b9
  clear K12
  have K13 := Lib.hid (size_at x x (psize x) w9 rfl hx rfl)
  go_wp2_with fail
  refine K13.out.mono ?_
  rintro e wa ⟨rfl, ba⟩
  have ro := ro.after ba
  have rb := rb.after ba
  have o7 := Ow.after o7 ba
  have hb := belowGo hb ba
  clear K13
  have K14 := Lib.hid (rshortest_any x hx wa)
  go_wp2_with fail
  refine K14.out.mono ?_
  rintro e wb ⟨vb, rfl, ob, bb⟩
  obtain ⟨Ab, cb, rfl⟩ := own_slice ob
  have ro := ro.after bb
  have rb := rb.after bb
  have o7 := Ow.after o7 bb
  have hb := belowGo hb bb
  have hbz : Below w6.heap.size w6 wb := belowGo (belowGo (belowGo (belowGo b7 b8) b9) ba) bb
  clear K14 ob
  go_wp2_with fail
  have hw64 : -9223372036854775808 ≤ wrap64 (x : Int) ∧ wrap64 (x : Int) < 9223372036854775808 := by unfold wrap64; omega
  have K15 := Lib.hid (fold_any (wrap64 (x : Int)) hw64.1 hw64.2 wb)
  refine K15.out.mono ?_
  rintro e wb ⟨rfl, rfl⟩
  have K16 := Lib.hid (rfold_any (wrap64 (x : Int)) hw64.1 hw64.2 wb)
  clear K15
  go_wp2_with fail
  refine K16.out.mono ?_
  rintro e wb ⟨rfl, rfl⟩
  have K17 := Lib.hid (unfold_any x hx wb)
  clear K16
  go_wp2_with fail
  refine K17.out.mono ?_
  rintro e wb ⟨rfl, rfl⟩
  have K18 := Lib.hid (runfold_any x hx wb)
  clear K17
  generalize unfoldN x = un at *
  go_wp2_with fail
  refine K18.out.mono ?_
  rintro e wb ⟨rfl, rfl⟩
  clear K18 hw64
  go_wp2
  have hplm : ∃ zs : List UInt8, zs.length = m ∧ wb.ownsRow w6.heap.size 5 1 (.slice (some ⟨g7, 0, none⟩) m c7) m (bcells zs) := ⟨pl, by rw [← hpl, List.length_append, pform_len, HLN.out]; exact HM.out.symm, o7⟩
  clear o7 hpl
  go_loopw [166] (fun i wr => ∃ j : Nat, j ≤ m ∧ i = .int .i64 (j : Int) ∧ (∃ zs : List UInt8, zs.length = m ∧ wr.ownsRow w6.heap.size 5 1 (.slice (some ⟨g7, 0, none⟩) m c7) m (bcells zs)) ∧ Below w6.heap.size wb wr) (fun i _ => m - (intOf i).toNat)
  case atStart => exact ⟨0, Nat.zero_le _, rfl, hplm, Below.refl _ _⟩
  case round =>
    obtain ⟨j, hj, rfl, ⟨zs, hzl, hrow⟩, hbw⟩ := hrel
    by_cases hlt : j < m
    · have hc := hrow.cellAt j (by omega)
      rw [bcells_get (by omega)] at hc
      have hf := hrow.frozenAt j
      have hzj : (zs[j]'(by omega)).toNat < 256 := (zs[j]'(by omega)).toNat_lt
      have hst := hrow.stored j (.int .u8 ((255 - (zs[j]'(by omega)).toNat : Nat) : Int))
      have hset : (bcells zs).set j (.int .u8 ((255 - (zs[j]'(by omega)).toNat : Nat) : Int)) = bcells (zs.set j (UInt8.ofNat (255 - (zs[j]'(by omega)).toNat))) := by
        unfold bcells
        rw [List.map_set]
        congr 2
        simp only [UInt8.toNat_ofNat']
        omega
      rw [hset] at hst
      have hxo := xor_255 _ hzj
      have hbs := hbw.setCell (p := ⟨g7, j, none⟩) hg7 (.int .u8 ((255 - (zs[j]'(by omega)).toNat : Nat) : Int))
      have HST := Lib.hid hst.1
      have hzl' : (zs.set j (UInt8.ofNat (255 - (zs[j]'(by omega)).toNat))).length = m := by rw [List.length_set]; exact hzl
      generalize zs.set j (UInt8.ofNat (255 - (zs[j]'(by omega)).toNat)) = zt at *
      clear hst hset
      generalize (zs[j]'(by omega)).toNat = y0 at *
      have HZL := Lib.hid hzl'
      clear hzl' hzl hrow
      go_wp2
      go_roundw
      case rel => exact ⟨j + 1, by omega, by go_num, ⟨zt, HZL.out, HST.out⟩, hbs⟩
      case measure => simp [intOf]; omega
    · obtain rfl : j = m := by omega
      have hsz : w6.heap.size ≤ wr.heap.size := Nat.le_trans hbz.size hbw.size
      have hbr := hbz.trans hbw
      have ro := ro6.after hbr
      have rb := rb6.after hbr
      have hb := belowGo hb6 hbr
      have KE := Lib.hid (equal_at l l A1 n c1 A n c true wr (beq_self_eq_true _) ro rb)
      clear ro rb ro6 rb6
      go_wp2_with fail
      refine KE.out.mono ?_
      rintro e wx ⟨rfl, bx⟩
      have hb := belowGo hb bx
      have KW := Lib.hid (wakes_any wx)
      go_wp2_with fail
      refine KW.out.mono ?_
      rintro e wy ⟨rfl, by_⟩
      go_wp2
      go_ret
      exact ⟨rfl, belowGo hb by_⟩
end Go.Proofs.Ytbhkhlloomiafaa
