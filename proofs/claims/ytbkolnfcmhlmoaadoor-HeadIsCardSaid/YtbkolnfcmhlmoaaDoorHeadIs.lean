/- HeadIs, the walk. -/
import Derived.Test.YtbkolnfcmhlmoaaDoorHeadIsLaw
import Derived.Test.YtbkolnfcmhlmoaaDoorHead3
import Derived.Test.YtbkolnfcmhlmoaaDoorOpenB
import Derived.Deep.DeepCutAuto
import Derived.Lib.MinMax
import Derived.Laws.OwnMore
namespace Go.Proofs.YtbkolnfcmhlmoaaDoor
open Go.RowKit

theorem or1_u32 (a : Nat) (ha : a < 4294967296) : bits .or .u32 (a : Int) 1 = ((a / 2 * 2 + 1 : Nat) : Int) := by
  have h1 : (BitVec.ofInt 32 (a : Int)).toNat = a := by
    rw [BitVec.ofInt_natCast, BitVec.toNat_ofNat]; exact Nat.mod_eq_of_lt (by omega)
  show IntKind.u32.wrap ((BitVec.ofInt 32 (a : Int) ||| BitVec.ofInt 32 1).toNat : Int) = _
  rw [BitVec.toNat_or, h1, show (BitVec.ofInt 32 1).toNat = 1 from rfl, or1_nat, IntKind.wrap_u32]
  omega
theorem max_u32 (a : Nat) (ha : a < 4294967296) : bits .and .u32 (a : Int) 16777215 = ((a % 16777216 : Nat) : Int) := by
  have := bits_and_u32_nat a 16777215 ha (by omega)
  rw [show (16777215 : Nat) = 2 ^ 24 - 1 from rfl, Nat.and_two_pow_sub_one_eq_mod] at this
  exact this
theorem and1_u32 (a : Nat) (ha : a < 4294967296) : bits .and .u32 (a : Int) 1 = ((a % 2 : Nat) : Int) := by
  have := bits_and_u32_nat a 1 ha (by omega)
  rw [Nat.and_one_is_mod] at this
  exact this

theorem bits_xor_u8_nat (a b : Nat) (ha : a < 256) (hb : b < 256) : bits .xor .u8 (a : Int) (b : Int) = ((a ^^^ b : Nat) : Int) := by
  have hx : a ^^^ b < 2 ^ 8 := Nat.xor_lt_two_pow (by omega) (by omega)
  have h1 : (BitVec.ofInt 8 (a : Int)).toNat = a := by
    rw [BitVec.ofInt_natCast, BitVec.toNat_ofNat]; exact Nat.mod_eq_of_lt (by omega)
  have h2 : (BitVec.ofInt 8 (b : Int)).toNat = b := by
    rw [BitVec.ofInt_natCast, BitVec.toNat_ofNat]; exact Nat.mod_eq_of_lt (by omega)
  show IntKind.u8.wrap ((BitVec.ofInt 8 (a : Int) ^^^ BitVec.ofInt 8 (b : Int)).toNat : Int) = _
  rw [BitVec.toNat_xor, h1, h2, IntKind.wrap_u8]
  omega
theorem xor_bit (u : UInt8) (b : Nat) (hb : b < 8) : bits .xor .u8 (u.toNat : Int) (2 ^ b % 256) = ((UInt8.ofNat (u.toNat ^^^ 2 ^ b)).toNat : Int) := by
  have h8 : (2 : Nat) ^ b < 2 ^ 8 := Nat.pow_lt_pow_right (by decide) hb
  have h1 := u.toNat_lt
  have hx : u.toNat ^^^ 2 ^ b < 2 ^ 8 := Nat.xor_lt_two_pow h1 h8
  have e : ((2 : Int) ^ b % 256) = ((2 ^ b : Nat) : Int) := by
    rw [← Nat.mod_eq_of_lt h8]
    simp
  rw [e, bits_xor_u8_nat _ _ h1 h8, UInt8.toNat_ofNat', Nat.mod_eq_of_lt hx]
theorem bset_eq (l : List UInt8) (j : Nat) (V : UInt8) : (bcells l).set j (.int .u8 (V.toNat : Int)) = bcells (l.set j V) := by unfold bcells; rw [List.map_set]
theorem exec_min {P : Program} {w : World} {ρ : Operand → Value} {o : Oper} {x y : Operand} {ts : Array TypeId} {vx vy v : Value} (ho : o.op = .call { callee := .builtin .min, args := #[x, y], argTypes := ts }) (hx : ρ x = vx) (hy : ρ y = vy) (h : (Builtin.min_ ts o.type #[vx, vy]).run P w = .ok v w) : (execOp ρ o).run P w = .ok (.value v) w := by
  unfold execOp
  rw [ho]
  simp [resolve, invoke, builtin, hx, hy, h]

set_option maxRecDepth 10000 in
set_option maxHeartbeats 2000000 in
theorem is_walk (I : Nat) (bl : List UInt8) (A : Option Addr) (n c : Nat) (at_ : Nat) (by_ : Nat) (o0 o1 : Nat) (w : World) (hT : Tab w) (hI : I < 4294967296) (hat : at_ < 256) (hby : by_ < 4294967296) (ho0 : o0 < 4294967296) (ho1 : o1 < 4294967296)
    (hln : bl.length = n) (hr : Rd w w.heap.size 1 A n (bcells bl)) (hnc : n ≤ c) :
    Calls Tryd.prog 4 #[.int .u32 (I : Int), .slice A n c, .int .u8 (at_ : Int), .int .u32 (by_ : Int), .agg #[.int .u32 (o0 : Int), .int .u32 (o1 : Int)]] w fun e w' => e = .returned (.bool true) ∧ Below w.heap.size w w' := by
  have hmx := hr.2.1
  unfold maxLen at hmx
  have e0 := max_u32 I hI
  obtain ⟨id, hid⟩ : ∃ i, i = I % 16777216 := ⟨_, rfl⟩
  have hidl : id < 16777216 := by omega
  rw [← hid] at e0
  clear hid
  obtain ⟨kd, hkd⟩ : ∃ k : Nat, k = if id = 0 then 2 else 1 := ⟨_, rfl⟩
  have hk2 : kd = 1 ∨ kd = 2 := by rw [hkd]; split <;> simp
  have hmay : mayH (kd : Int) id = true := by unfold mayH; rw [hkd]; split <;> simp <;> omega
  have HP := Lib.hid (putH_yes kd id id rfl (by omega) hmay)
  have HKD := Lib.hid hkd
  have HMAY := Lib.hid hmay
  have HLN := Lib.hid hln
  clear hkd hmay hln
  go_enter Tryd.func4, Tryd.ntmps4
  go_upto_if 29 with (fail)
  have q9 := Blk.new w 37 #[.int .u32 (o0 : Int), .int .u32 (o1 : Int)]
  have hr1 := hr.allocs (.cells #[.int .u32 (o0 : Int), .int .u32 (o1 : Int)] 37)
  have hT1 := hT.alloc (.cells #[.int .u32 (o0 : Int), .int .u32 (o1 : Int)] 37)
  have hb1 := (Below.refl w.heap.size w).alloc (Nat.le_refl _) (.cells #[.int .u32 (o0 : Int), .int .u32 (o1 : Int)] 37)
  obtain ⟨g9, hg9⟩ : ∃ g, g = w.heap.size := ⟨_, rfl⟩
  rw [← hg9] at q9 ⊢
  clear hg9 hr hT
  generalize w.alloc (.cells #[.int .u32 (o0 : Int), .int .u32 (o1 : Int)] 37) = w1 at *
  go_cut [11] (fun v11 wx => v11 = .int .i64 (kd : Int) ∧ wx = w1)
  case first =>
    by_cases h0 : id = 0
    · have i1 : ((id : Int) == 0) = true := by simp [h0]
      have ek : kd = 2 := by rw [HKD.out, if_pos h0]
      clear h0
      go_wp2
      go_meet
      case rel => exact ⟨by rw [ek]; rfl, rfl⟩
    · have i1 : ((id : Int) == 0) = false := by simp [h0]
      have ek : kd = 1 := by rw [HKD.out, if_neg h0]
      clear h0
      go_wp2
      go_meet
      case rel => exact ⟨by rw [ek]; rfl, rfl⟩
  case rest =>
    obtain ⟨rfl, rfl⟩ := hcut
    go_wp2_with fail
    refine (HP.out _ hT1).mono ?_
    rintro e w2 ⟨v2, rfl, o2, b2⟩
    obtain ⟨g2, c2, rfl, hc2, _⟩ := own_ptr o2 (by omega)
    have r2 := own_rd o2
    have hr2 := hr1.after b2
    have hT2 := hT1.after b2
    have q9 := q9.after b2
    have hb2 := hb1.trans (b2.mono hb1.size)
    clear HP o2 b2 hr1 hT1 hb1
    have hBL : (headB (kd : Int) id).length = 16 := headB_len _ _
    have G1 : ∀ (k c' : Nat) (W : World), k < 16 → Tab W → k ≤ c' → Rd W W.heap.size 1 (some ⟨g2, 0, none⟩) k (bcells ((headB (kd : Int) id).take k)) → Hid (Calls Tryd.prog 8 #[.slice (some ⟨g2, 0, none⟩) k c'] W (RetHead 0 0 22 W)) := fun k c' W hk hT hnc h => Lib.hid (by
      have := getH_any _ _ _ _ W hT hnc h
      rwa [headGet_short (by rw [List.length_take, hBL]; omega)] at this)
    have GB := Lib.hid (fun r => headGet_put HMAY.out r)
    generalize hB : headB (kd : Int) id = B at *
    have HB := Lib.hid hB
    have HBL := Lib.hid hBL
    clear hB hBL
    go_wp2_with fail
    go_loopw [14, 15, 16, 17] (fun i _ _ _ wr => ∃ k : Nat, k ≤ 16 ∧ i = .int .i64 (k : Int) ∧ Below w2.heap.size w2 wr) (fun i _ _ _ _ => 16 - (intOf i).toNat)
    case atStart => exact ⟨0, by omega, rfl, Below.refl _ _⟩
    case round =>
      obtain ⟨k, hk, rfl, hbr⟩ := hrel
      by_cases hlt : k < 16
      · have HG := fun c' hc => G1 k c' wr hlt (hT2.after hbr) hc ((r2.after hbr).btake (by omega))
        unfold RetHead at HG
        clear G1
        have i1 : (k : Int) ≤ (c2 : Int) := by omega
        go_wp2_with fail
        refine (HG _ (by omega)).out.mono ?_
        rintro e w3 ⟨rfl, b3⟩
        go_wp2_with fail
        go_roundw
        case rel => exact ⟨k + 1, by omega, by go_num, belowGo hbr b3⟩
        case measure => simp [intOf]; omega
      · obtain rfl : k = 16 := by omega
        clear G1
        have hr3 := hr2.after hbr
        have r3 := r2.after hbr
        have hT3 := hT2.after hbr
        have q9 := q9.after hbr
        have hb3 := hb2.trans (hbr.mono hb2.size)
        obtain ⟨m, hm⟩ : ∃ m : Nat, m = min n 50 := ⟨_, rfl⟩
        have hmin : ∀ W, (Builtin.min_ #[3, 3] 3 #[.int .i64 (n : Int), .int .i64 50]).run Tryd.prog W = .ok (.int .i64 (m : Int)) W := fun W => by
          rw [Lib.run_min_ints, hm]
          simp
          omega
        have HMIN := Lib.hid hmin
        have hmn : m ≤ n := by omega
        have hm50 : m ≤ 50 := by omega
        clear hm hmin
        have rm := hr3.btake hmn
        obtain ⟨T, hTT⟩ : ∃ T, T = bl.take m := ⟨_, rfl⟩
        rw [← hTT] at rm
        have HTL : T.length = m := by rw [hTT, List.length_take, HLN.out]; omega
        clear hTT hr2 r2 hT2 hbr hb2 hr3 HLN
        have im1 : (m : Int) ≤ (c : Int) := by omega
        go_wp2_with fail
        have hcur : Below wr.heap.size wr wr.drew := ⟨rfl, rfl, rfl, Nat.le_refl _, fun _ _ => rfl⟩
        refine wp_region_plan (fun _ => True) [.calms [0, 2, 3, 4], .read 5, .calms [6], .act 1, .act 7, .calms [8]] (by kernel_rfl) (by rfl) (by kernel_rfl) (by kernel_rfl) trivial ?_
        have r3 := r3.after hcur
        have rm := rm.after hcur
        have hT3 := hT3.after hcur
        have q9 := q9.after hcur
        have hb3 := hb3.trans (hcur.mono hb3.size)
        clear hcur
        generalize wr.drew = w3 at *
        refine plan_calms (by simp [calmRow, need]; rfl) ?_
        go_wp2_with fail
        refine plan_read (by rfl) (.int .i64 (m : Int)) (by rfl) (fun W _ => exec_min rfl rfl rfl (HMIN.out W)) ?_
        refine plan_calms (by simp [calmRow, need]; rfl) ?_
        go_wp2_with fail
        have oN : w3.ownsRow w3.heap.size 5 1 (.slice none 0 0) 0 [] := World.ownsRow_nil _ _ _ _
        refine plan_act (by rfl) ?_
        refine wpList_app eltU8 rfl (.const (.slice none 0 0)) (.tmp 57) rfl rfl oN rfl r3 (bcells_one B) (by omega) (by unfold maxLen; omega) (Below.refl _ _) (Nat.le_refl _) ?_
        intro v1 u1 oM d1 x1 x2
        clear x1 x2
        have oM : u1.ownsRow w3.heap.size 5 1 v1 16 (bcells B) := by simpa using oM
        refine plan_next trivial (plan_last (by rfl) (by kernel_rfl) ?_)
        refine wpList_app eltU8 rfl (.tmp 58) (.tmp 63) rfl rfl oM rfl (rm.below d1 (Nat.le_refl _)) (bcells_one T) (by omega) (by unfold maxLen; omega) d1 d1.size ?_
        intro v2 u2 o2 d2 x1 x2
        clear x1 x2
        refine plan_done (plan_calms (by simp [calmRow, need]; rfl) ?_)
        go_wp2_with fail
        refine plan_end ?_
        rw [← bcells_append] at o2
        have hAL : (B ++ T).length = 16 + m := by rw [List.length_append, HBL.out, HTL]
        obtain ⟨g5, c5, rfl, hc5, hg5⟩ := own_ptr o2 (by omega)
        have r5 := own_rd o2
        have hT5 := hT3.after d2
        have hp3 : 0 < w3.heap.size := hT3.1
        have q9 := q9.after d2
        have GA0 := GB.out T
        have HAL := Lib.hid hAL
        have HTL := Lib.hid HTL
        have HGE : Hid (w3.heap.size ≤ g5) := Lib.hid hg5
        have C0 := fun W k i Z hT h hZ => Lib.hid (checkH_at (B ++ T) (some ⟨g5, 0, none⟩) (16 + m) c5 k i (i : Int) Z rfl W hT hc5 h hZ)
        have HG := Lib.hid (getH_any (B ++ T) (some ⟨g5, 0, none⟩) (16 + m) c5 u2 hT5 hc5 r5)
        rw [GA0] at HG
        have cA : chkH (B ++ T) kd id = 0 := by unfold chkH; rw [GA0]; simp
        have GA := Lib.hid GA0
        have CA := fun W h1 h2 => C0 W kd id 0 h1 h2 (by rw [cA]; rfl)
        clear cA GA0 hAL hg5 r3 rm d1 oM oN
        unfold RetHead at HG
        go_wp2_with fail
        refine HG.out.mono ?_
        rintro e w6 ⟨rfl, b6⟩
        have o6 : Ow _ _ _ _ _ _ _ := Ow.after o2 b6
        have r6 := o6.rd
        have hT6 := hT5.after b6
        have q9 := q9.after b6
        have hbA := hb3.trans ((d2.trans (b6.mono d2.size)).mono hb3.size)
        clear HG r5 o2 hT5 b6 d2
        go_wp2_with fail
        refine (CA _ hT6 r6).out.mono ?_
        rintro e w7 ⟨rfl, b7⟩
        have o7 := o6.after b7
        have r7 := o7.rd
        have hT7 := hT6.after b7
        have q9 := q9.after b7
        have hb7 := hbA.trans (b7.mono hbA.size)
        clear CA r6 o6 hT6 b7 hbA
        go_wp2_with fail
        have hcur : Below w7.heap.size w7 w7.drew := ⟨rfl, rfl, rfl, Nat.le_refl _, fun _ _ => rfl⟩
        have qc := q9.after hcur
        refine wp_region_plan (fun W => Blk W g9 37 #[.int .u32 (o0 : Int), .int .u32 (o1 : Int)]) [.calms [0, 4], .read 1, .calms [2, 3, 6], .act 5, .calms [7]] (by kernel_rfl) (by rfl) (by kernel_rfl) (by kernel_rfl) qc ?_
        have o8 := o7.after hcur
        have r8 := o8.rd
        have hT8 := hT7.after hcur
        have hb8 := hb7.trans (hcur.mono hb7.size)
        clear q9 o7 r7 hT7 hb7 hcur
        generalize w7.drew = w8 at *
        refine plan_calms (by simp [calmRow, need]; rfl) ?_
        go_wp2_with fail
        refine plan_read (by rfl) (.int .u32 (o0 : Int)) (by rfl) (fun W hW => exec_load rfl rfl (by kernel_rfl) (hW.cell 0)) ?_
        obtain ⟨kk, hkk⟩ : ∃ k : Nat, k = o0 % 4 := ⟨_, rfl⟩
        have ek : (o0 : Int) % 4 = (kk : Int) := by omega
        have hk4 : kk < 4 := by omega
        clear hkk
        refine plan_calms (by simp [calmRow, need, chk]; rfl) ?_
        go_wp2_with fail
        refine plan_act (by rfl) ?_
        have qx := qc.cell 1
        go_wp2_with fail
        refine ⟨qc, plan_calms (by simp [calmRow, need]; rfl) ?_⟩
        go_wp2_with fail
        refine plan_end ?_
        go_upto_region 19 with (fail)
        clear qx ek qc
        have hTU := hT8
        go_cut [109] from 96 to 108 (fun v wx => v = .bool false ∧ Below w8.heap.size w8 wx)
        case first =>
          by_cases e1 : kd = kk
          · subst e1
            by_cases e2 : id = o1
            · subst e2
              have HC := Lib.hid (C0 w8 kd id 0 hT8 r8 (by unfold chkH; rw [GA.out]; simp))
              go_wp2_with fail
              refine HC.out.mono ?_
              rintro e w9 ⟨rfl, b9⟩
              go_wp2_with fail
              go_meet
              case rel => exact ⟨rfl, b9⟩
            · have HC := Lib.hid (C0 w8 kd o1 23 hT8 r8 (by unfold chkH; rw [GA.out]; simp [e2]))
              have i2 : ((o1 : Int) == (id : Int)) = false := by simp; omega
              clear e2
              go_wp2_with fail
              refine HC.out.mono ?_
              rintro e w9 ⟨rfl, b9⟩
              go_wp2_with fail
              go_meet
              case rel => exact ⟨rfl, b9⟩
          · have HC := Lib.hid (C0 w8 kk o1 23 hT8 r8 (by unfold chkH; rw [GA.out, if_pos ⟨rfl, fun h => e1 (by have := h.1; simp only at this; omega)⟩]; rfl))
            have i2 : ((kk : Int) == (kd : Int)) = false := by simp; omega
            clear e1
            go_wp2_with fail
            refine HC.out.mono ?_
            rintro e w9 ⟨rfl, b9⟩
            go_wp2_with fail
            go_meet
            case rel => exact ⟨rfl, b9⟩
        case rest =>
          obtain ⟨rfl, b9⟩ := hcut
          have o9 := o8.after b9
          have hT9 := hT8.after b9
          have hb9 := hb8.trans (b9.mono hb8.size)
          clear o8 r8 hT8 hb8 b9 hTU C0 GA
          have hw3 : w3.heap.size ≤ wc.heap.size := by have h1 := o9.hi g5 rfl; have h2 := HGE.out; omega
          have eb := or1_u32 by_ hby
          obtain ⟨M, hM⟩ : ∃ M, M = by_ / 2 * 2 + 1 := ⟨_, rfl⟩
          have hMl : M < 4294967296 := by omega
          have hM2 : M % 2 = 1 := by omega
          rw [← hM] at eb
          clear hM
          have HM2 := Lib.hid hM2
          obtain ⟨ft, hft⟩ : ∃ f : Nat, f = at_ % 128 := ⟨_, rfl⟩
          have eft : (at_ : Int) % 128 = (ft : Int) := by omega
          have hftl : ft < 128 := by omega
          clear hft hM2
          go_wp2_with fail
          rw [eft]
          clear eb eft
          go_loopw [25] (fun i wr => ∃ k : Nat, k ≤ 32 ∧ ft + k ≤ 128 ∧ i = .int .i64 (k : Int) ∧ Below w3.heap.size wc wr ∧ ∃ l : List UInt8, Flip l (B ++ T) M ft k ∧ Ow wr w3.heap.size 5 1 (.slice (some ⟨g5, 0, none⟩) (16 + m) c5) (16 + m) (bcells l)) (fun i _ => 32 - (intOf i).toNat)
          case atStart => exact ⟨0, by omega, by omega, rfl, Below.refl _ _, B ++ T, Flip.zero _ _ _, o9⟩
          case round =>
            obtain ⟨k, hk, hkf, rfl, bz, l, HF, oz⟩ := hrel
            by_cases hin : k < 32 ∧ ft + k < 128
            · obtain ⟨h1, h2⟩ := hin
              have i2 : (ft : Int) + (k : Int) < 128 := by omega
              have i1 : (k : Int) < 32 := by omega
              go_upto_region 26 with (fail)
              obtain ⟨q, hq⟩ : ∃ q : Nat, q = M / 2 ^ k := ⟨_, rfl⟩
              have eq1 : (M : Int) / 2 ^ k = (q : Int) := by rw [hq]; simp
              have hql : q < 4294967296 := by rw [hq]; exact Nat.lt_of_le_of_lt (Nat.div_le_self _ _) hMl
              have ea := and1_u32 q hql
              by_cases hbit : q % 2 = 1
              · have HF2 := fun j b hj hb8 he => Lib.hid (HF.set (by rw [← hq]; exact hbit) j b hj hb8 he)
                rw [hbit] at ea
                clear hq hbit
                go_wp2_with fail
                obtain ⟨j, hj⟩ : ∃ j : Nat, j = (ft + k) / 8 := ⟨_, rfl⟩
                obtain ⟨b, hb⟩ : ∃ b : Nat, b = (ft + k) % 8 := ⟨_, rfl⟩
                have ej : ((ft : Int) + (k : Int)) / 8 = (j : Int) := by omega
                have eb : ((ft : Int) + (k : Int)) % 8 = (b : Int) := by omega
                have hj16 : j < 16 := by omega
                have hb8 : b < 8 := by omega
                have hjl : j < l.length := by rw [HF.len, HAL.out]; omega
                have HF3 := HF2 j b hjl hb8 (by omega)
                clear HF2
                clear hj hb
                have hcur : Below wr.heap.size wr wr.drew := ⟨rfl, rfl, rfl, Nat.le_refl _, fun _ _ => rfl⟩
                have oz := Ow.after oz hcur
                have rz := oz.rd
                have hcell := rz.cell rfl (by omega) (bcells_get hjl)
                rw [Nat.zero_add] at hcell
                have hfz := World.ownsRow.frozenAt oz j
                generalize l[j]'hjl = u at *
                have ex := xor_bit u b hb8
                obtain ⟨V, hV⟩ : ∃ V, V = UInt8.ofNat (u.toNat ^^^ 2 ^ b) := ⟨_, rfl⟩
                rw [← hV] at ex HF3
                have HF2 := HF3
                clear hV HF3
                have hbz := bz.trans (hcur.mono (Nat.le_trans hw3 bz.size))
                refine wp_region_plan (fun _ => True) [.calms [0, 1, 2, 3, 4, 5, 7, 8, 9, 10, 11], .act 6, .calms [12, 13], .act 14] (by kernel_rfl) (by rfl) (by kernel_rfl) (by kernel_rfl) trivial ?_
                generalize wr.drew = wd at *
                clear hcur
                refine plan_calms (by simp [calmRow, need, chk]; rfl) ?_
                go_wp2_with fail
                refine plan_last (by rfl) (by kernel_rfl) ?_
                go_wp2_with fail
                refine plan_calms (by simp [calmRow, need, chk]; rfl) ?_
                go_wp2_with fail
                refine plan_last (by rfl) (by kernel_rfl) ?_
                go_wp2_with fail
                refine plan_end ?_
                have hst := (World.ownsRow.stored oz j (.int .u8 (V.toNat : Int))).1
                rw [bset_eq] at hst
                have hbs := hbz.setCell (p := ⟨g5, j, none⟩) HGE.out (.int .u8 (V.toNat : Int))
                clear rz hfz hcell oz hbz
                generalize wd.setCell ⟨g5, j, none⟩ (.int .u8 (V.toNat : Int)) = we at *
                go_wp2_with fail
                go_roundw
                case rel => exact ⟨k + 1, by omega, by omega, by go_num, hbs, l.set j V, HF2.out, hst⟩
                case measure => simp [intOf]; omega
              · have hbit : q % 2 = 0 := by omega
                have HF2 := Lib.hid (HF.skip (by rw [← hq]; exact hbit))
                rw [hbit] at ea
                clear hq hbit
                go_wp2_with fail
                go_roundw
                case rel => exact ⟨k + 1, by omega, by omega, by go_num, bz, l, HF2.out, oz⟩
                case measure => simp [intOf]; omega
            · have hk1 : 1 ≤ k := by omega
              have G := HF.get HB.out HM2.out hMl hk1 hk hkf
              have hTr := hT9.below bz hp3
              have hbz := hb9.trans (bz.mono hb3.size)
              have HG := Lib.hid (getH_any l (some ⟨g5, 0, none⟩) (16 + m) c5 wr hTr hc5 oz.rd)
              rw [G] at HG
              unfold RetHead at HG
              have cZ : chkH l kd id = 23 := by unfold chkH; rw [G]; simp
              have HC := fun W hT h => Lib.hid (checkH_at l (some ⟨g5, 0, none⟩) (16 + m) c5 kd id (id : Int) 23 rfl W hT hc5 h (by rw [cZ]; rfl))
              clear G cZ HF bz
              by_cases h32 : k < 32
              · have i1 : (k : Int) < 32 := by omega
                have i2 : ¬ ((ft : Int) + (k : Int) < 128) := by omega
                clear hin
                go_wp2_with fail
                refine HG.out.mono ?_
                rintro e y1 ⟨rfl, by1⟩
                have oz := oz.after by1
                have hTr := hTr.after by1
                have hbz := belowGo hbz by1
                clear HG by1
                go_wp2_with fail
                refine (HC _ hTr oz.rd).out.mono ?_
                rintro e y2 ⟨rfl, by2⟩
                have hTr := hTr.after by2
                have hbz := belowGo hbz by2
                clear HC by2 oz
                go_wp2_with fail
                refine (knows_any _ hTr).mono ?_
                rintro e y3 ⟨rfl, by3⟩
                have hbz := belowGo hbz by3
                clear by3
                go_wp2_with fail
                go_ret
                exact ⟨rfl, hbz⟩
              · have i1 : ¬ ((k : Int) < 32) := by omega
                clear hin
                go_wp2_with fail
                refine HG.out.mono ?_
                rintro e y1 ⟨rfl, by1⟩
                have oz := oz.after by1
                have hTr := hTr.after by1
                have hbz := belowGo hbz by1
                clear HG by1
                go_wp2_with fail
                refine (HC _ hTr oz.rd).out.mono ?_
                rintro e y2 ⟨rfl, by2⟩
                have hTr := hTr.after by2
                have hbz := belowGo hbz by2
                clear HC by2 oz
                go_wp2_with fail
                refine (knows_any _ hTr).mono ?_
                rintro e y3 ⟨rfl, by3⟩
                have hbz := belowGo hbz by3
                clear by3
                go_wp2_with fail
                go_ret
                exact ⟨rfl, hbz⟩
end Go.Proofs.YtbkolnfcmhlmoaaDoor
