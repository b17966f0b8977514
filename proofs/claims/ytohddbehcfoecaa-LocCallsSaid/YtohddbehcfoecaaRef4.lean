/- The document's answer, chapter 01: Get. For every bytes. -/
import Derived.Test.YtohddbehcfoecaaRef3
import Derived.Test.YtohddbehcfoecaaConv
import Derived.Test.YtohddbehcfoecaaSched
namespace Go.Proofs.Ytohddbehcfoecaa
open Go.RowKit

theorem lead_bits (c : UInt8) (k : Nat) (h1 : 1 ≤ k) (h8 : k ≤ 8) : (k < lead c → c.toNat / 2 ^ (8 - k) % 2 = 1) ∧ (k = lead c → c.toNat / 2 ^ (8 - k) % 2 = 0) := by
  have all : ∀ (j : Fin 256) (k : Fin 9), 1 ≤ k.val → (k.val < 9 - Lib.bitLen (255 - j.val) → j.val / 2 ^ (8 - k.val) % 2 = 1) ∧ (k.val = 9 - Lib.bitLen (255 - j.val) → j.val / 2 ^ (8 - k.val) % 2 = 0) := by decide +kernel
  exact all ⟨c.toNat, c.toNat_lt⟩ ⟨k, by omega⟩ h1
def bits8 (l : List UInt8) : List Nat := l.flatMap fun c => bitsL c.toNat 8
theorem bits8_len : ∀ l : List UInt8, (bits8 l).length = 8 * l.length
  | [] => rfl
  | c :: l => by
    have := bits8_len l
    unfold bits8 at *
    rw [List.flatMap_cons, List.length_append, bitsL_len, this, List.length_cons]
    omega
theorem bits8_lt (l : List UInt8) : ∀ x ∈ bits8 l, x < 2 := by
  intro x hx
  unfold bits8 at hx
  rw [List.mem_flatMap] at hx
  obtain ⟨c, _, hx⟩ := hx
  exact bitsL_lt _ _ _ hx
theorem numB_bits8 : ∀ l : List UInt8, numB (bits8 l) = num l
  | [] => rfl
  | c :: l => by
    have ih := numB_bits8 l
    have hl := bits8_len l
    have e : bits8 (c :: l) = bitsL c.toNat 8 ++ bits8 l := rfl
    have hc := c.toNat_lt
    rw [e, numB_append, numB_bits, hl, ih, num_cons, Nat.mod_eq_of_lt (by omega), Nat.pow_mul]
theorem bits8_snoc (l : List UInt8) {j : Nat} (h : j < l.length) : bits8 (l.take (j + 1)) = bits8 (l.take j) ++ bitsL (l.getD j 0).toNat 8 := by
  rw [List.take_succ_eq_append_getElem h]
  unfold bits8
  rw [List.flatMap_append, List.flatMap_singleton]
  simp [List.getD, h]
theorem numB_drop (l : List Nat) (h2 : ∀ x ∈ l, x < 2) (k : Nat) : numB (l.drop k) = numB l % 2 ^ (l.length - k) := by
  have h := numB_lt (l.drop k) fun x hx => h2 x (List.mem_of_mem_drop hx)
  have e := numB_append (l.take k) (l.drop k)
  rw [List.take_append_drop, List.length_drop] at e
  rw [List.length_drop] at h
  rw [e, Nat.mul_comm, Nat.mul_add_mod, Nat.mod_eq_of_lt h]
/-- what the bits behind the head say -/
theorem getNum_bits (l : List UInt8) (k : Nat) (h1 : 1 ≤ k) (h9 : k ≤ 9) (hl : k ≤ l.length) : numB ((bits8 (l.take k)).drop (if k = 9 then 8 else k)) % 18446744073709551616 = getNum l k := by
  rw [numB_drop _ (bits8_lt _), numB_bits8, bits8_len, List.length_take, Nat.min_eq_left hl]
  unfold getNum
  by_cases h : k = 9
  · subst h
    rw [if_pos rfl, if_neg (by omega), show 8 * 9 - 8 = 64 by omega]
    omega
  · rw [if_neg h, if_pos (by omega), show 8 * k - k = 7 * k by omega]
    have hp : 2 ^ (7 * k) ∣ 18446744073709551616 := by
      have : (18446744073709551616 : Nat) = 2 ^ 64 := rfl
      rw [this]
      exact Nat.pow_dvd_pow 2 (by omega)
    rw [Nat.mod_mod_of_dvd _ hp]
    have hlt : num (l.take k) % 2 ^ (7 * k) < 18446744073709551616 := Nat.lt_of_lt_of_le (Nat.mod_lt _ (Nat.two_pow_pos _)) (Nat.le_of_dvd (by omega) hp)
    exact Nat.mod_eq_of_lt hlt
theorem form_is (l : List UInt8) (k : Nat) (h0 : 0 < l.length) (hk : k = lead (l.getD 0 0)) (hl : k ≤ l.length) : (pform (getNum l k) == l.take k) = decide (psize (getNum l k) = k) := by
  rw [Bool.eq_iff_iff, beq_iff_eq, decide_eq_true_eq]
  constructor
  · intro h
    have := congrArg List.length h
    rw [pform_len, List.length_take] at this
    omega
  · intro h
    have hg : getP l = (getNum l k, k, 0) := by
      unfold getP
      rw [if_neg (by omega), ← hk, if_neg (by omega), if_pos h]
    rcases getP_any l with ⟨_, _, _, e⟩ | ⟨e, _⟩
    · rw [hg] at e; exact e
    · rw [hg] at e; rcases e with e | e <;> cases e
theorem getNum_lt (l : List UInt8) (k : Nat) : getNum l k < 18446744073709551616 := by
  have hm := Nat.mod_lt (num (l.take k)) (show 18446744073709551616 > 0 by omega)
  unfold getNum
  split
  · exact Nat.lt_of_le_of_lt (Nat.mod_le _ _) hm
  · exact hm
theorem Rd.idrop {w : World} {B n b off : Nat} {l : List Nat} (h : Rd w B 1 (some ⟨b, off, none⟩) n (icells l)) {k : Nat} (hk : k ≤ n) : Rd w B 1 (some ⟨b, off + k, none⟩) (n - k) (icells (l.drop k)) := by
  have h1 := h.drop (k := k) hk
  rw [Nat.mul_one] at h1
  unfold icells at *
  rw [List.map_drop]
  exact h1
theorem Rd.btake' {w : World} {B n : Nat} {A : Option Addr} {l : List UInt8} (h : Rd w B 1 A n (bcells l)) {k : Nat} (hk : k ≤ n) : Rd w B 1 A k (bcells (l.take k)) := by
  have := h.take hk
  rw [Nat.mul_one] at this
  unfold bcells at *
  rw [List.map_take]
  exact this

set_option maxRecDepth 100000 in
set_option maxHeartbeats 4000000 in
theorem rget_any (l : List UInt8) (A : Option Addr) (n c : Nat) (w : World) (hnc : n ≤ c) (h : Rd w w.heap.size 1 A n (bcells l)) :
    Calls Try.prog 52 #[.slice A n c] w fun e w' => e = .returned (.tuple #[.int .u64 (getP l).1, .int .i64 (getP l).2.1, .int .i64 (getP l).2.2]) ∧ Below w.heap.size w w' := by
  have hln := h.1
  have hmx := h.2.1
  unfold maxLen at hmx
  rw [bcells_len, Nat.mul_one] at hln
  rcases Nat.eq_zero_or_pos n with h0 | h0
  · subst h0
    go_enter Try.func52, Try.ntmps52
    go_wp2
    go_ret3
    unfold getP
    rw [if_pos hln]
    exact ⟨rfl, Below.refl _ _⟩
  · obtain ⟨b, off, rfl, hblk, hcell⟩ := h.2.2 h0
    have hg : ∀ j, j < n → w.cell? ⟨b, off + j, none⟩ = some (.int .u8 ((l.getD j 0).toNat : Int)) := fun j hj => by
      rw [hcell j _ (bcells_get (by omega))]; simp [List.getD, show j < l.length by omega]
    have e0 : ((n : Int) == 0) = false := by simp; omega
    have hg0 := hg 0 h0
    rw [Nat.add_zero] at hg0
    obtain ⟨b0, hb0⟩ : ∃ b0, b0 = l.getD 0 0 := ⟨_, rfl⟩
    rw [← hb0] at hg0
    have hlb := fun k h1 h8 => lead_bits b0 k h1 h8
    obtain ⟨K, hK⟩ : ∃ K, K = lead b0 := ⟨_, rfl⟩
    rw [← hK] at hlb
    have hK9 : 1 ≤ K ∧ K ≤ 9 := by rcases lead_range b0 with ⟨h, _⟩ | ⟨h, h', _⟩ <;> omega
    obtain ⟨hK1, hK9⟩ := hK9
    have hb256 := b0.toNat_lt
    have HB := Lib.hid (rbits_any b0.toNat (by omega) 8 (by omega) w)
    have HG := Lib.hid (show getP l = if n < K then (0, 0, 4) else if psize (getNum l K) = K then (getNum l K, K, 0) else (0, 0, 5) by
      unfold getP
      rw [if_neg (by omega), ← hb0, ← hK, hln])
    have HFI := Lib.hid (fun (hl : K ≤ n) => form_is l K (by omega) (by rw [← hb0]; exact hK) (by rw [hln]; exact hl))
    have HNB := Lib.hid (fun (hl : K ≤ n) => getNum_bits l K hK1 hK9 (by rw [hln]; exact hl))
    have HBL := Lib.hid (fun k (hk : 1 ≤ k ∧ k ≤ 8) => (show (icells (bitsL b0.toNat 8))[k - 1]? = some (.int .i64 ((b0.toNat / 2 ^ (8 - k) % 2 : Nat) : Int)) by
      unfold icells
      rw [List.getElem?_map, bitsL_get (by omega), show 8 - 1 - (k - 1) = 8 - k by omega]
      rfl))
    have HLB := Lib.hid hlb
    have H := Lib.hid h
    have HLN := Lib.hid hln
    clear hlb hb0 hK hcell h hln
    generalize hbb : b0.toNat = y0 at *
    clear hbb
    go_enter Try.func52, Try.ntmps52
    go_wp2_with fail
    refine HB.out.mono ?_
    rintro e w1 ⟨v1, rfl, o1, b1⟩
    obtain ⟨g1, c1, rfl, _⟩ := own_form o1 |>.resolve_left (by rintro ⟨_, h, _⟩; omega)
    have hc1 : ∀ k, 1 ≤ k ∧ k ≤ 8 → w1.cell? ⟨g1, k - 1, none⟩ = some (.int .i64 ((y0 / 2 ^ (8 - k) % 2 : Nat) : Int)) := fun k hk => by
      rw [o1.cellAt (k - 1) (by omega)]; exact HBL.out k hk
    have HC1 := Lib.hid hc1
    clear HB hc1 o1 hg0 HBL
    go_wp2
    go_loopw [7] (fun i wr => ∃ k : Nat, 1 ≤ k ∧ k ≤ K ∧ i = .int .i64 (k : Int) ∧ wr = w1) (fun i _ => 9 - (intOf i).toNat)
    case atStart => exact ⟨1, by omega, hK1, rfl, rfl⟩
    case round =>
      obtain ⟨k, hk1, hkK, rfl, rfl⟩ := hrel
      by_cases hlt : k < K
      · have hc := HC1.out k (by omega)
        rw [(HLB.out k hk1 (by omega)).1 hlt] at hc
        have e1 : (k : Int) - 1 = ((k - 1 : Nat) : Int) := by omega
        have i1 : k - 1 < 8 := by omega
        have i2 : (k : Int) ≤ 8 := by omega
        go_wp2
        go_roundw
        case rel => exact ⟨k + 1, by omega, by omega, by go_num, trivial⟩
        case measure => simp [intOf]; omega
      · obtain rfl : k = K := by omega
        have hbw : Below w.heap.size w wr := b1
        have HS8 := Lib.hid (fun j (hj : j < l.length) => bits8_snoc l hj)
        have hlast : k = 9 ∨ (k ≤ 8 ∧ wr.cell? ⟨g1, k - 1, none⟩ = some (.int .i64 0) ∧ (k : Int) - 1 = ((k - 1 : Nat) : Int)) := by
          by_cases h9 : k = 9
          · exact .inl h9
          · right
            have hc := HC1.out k (by omega)
            rw [(HLB.out k hk1 (by omega)).2 rfl] at hc
            exact ⟨by omega, hc, by omega⟩
        clear HC1 HLB
        have hK9' : (k : Int) ≤ 9 := by omega
        have HBY := fun j (hj : j < n) => hg j hj
        by_cases hnk : n < k
        · have HG' := Lib.hid (show getP l = (0, 0, 4) by rw [HG.out, if_pos hnk])
          clear HG HFI HNB HBY hg
          rcases hlast with rfl | ⟨h8, hc, e1⟩
          all_goals
            go_wp2
            go_ret3
            exact ⟨by rw [HG'.out]; rfl, b1⟩
        · have HG' := Lib.hid (show getP l = if psize (getNum l k) = k then (getNum l k, k, 0) else (0, 0, 5) by rw [HG.out, if_neg hnk])
          have HFI' := Lib.hid (HFI.out (by omega))
          have HNB' := Lib.hid (HNB.out (by omega))
          clear HG HFI HNB hg
          have hown0 := World.ownsRow_nil wr w.heap.size 3 1
          rcases hlast with rfl | ⟨h8, hc, e1⟩
          · go_wp2
            go_loopw [8, 9] (fun v i wr => ∃ j : Nat, j ≤ 9 ∧ i = .int .i64 (j : Int) ∧ wr.ownsRow w.heap.size 3 1 v (8 * j) (icells (bits8 (l.take j))) ∧ Below w.heap.size w wr) (fun _ i _ => 9 - (intOf i).toNat)
            case atStart => exact ⟨0, Nat.zero_le _, rfl, hown0, hbw⟩
            case round =>
              obtain ⟨j, hj, rfl, hrow, hb⟩ := hrel
              have hs := hb.size
              by_cases hjk : j < 9
              · have hc := (hb.cell (p := ⟨b, off + j, none⟩) hblk).trans (HBY j (by omega))
                have hjl : j < l.length := by have := HLN.out; omega
                have HSN := Lib.hid (HS8.out j hjl)
                have hu := (l.getD j 0).toNat_lt
                have HB := fun w => Lib.hid (rbits_any (l.getD j 0).toNat (by omega) 8 (by omega) w)
                have hjn : j < n := by omega
                clear HBY
                generalize (l.getD j 0).toNat = y at *
                go_wp2_with fail
                refine (HB wr).out.mono ?_
                rintro e w2 ⟨v2, rfl, o2, b2⟩
                obtain ⟨A2, c2, rfl⟩ := own_slice o2
                have r2 := own_rd o2
                have hrow2 := Ow.after hrow b2
                unfold Ow at hrow2
                have hb2 := belowGo hb b2
                clear HB o2
                go_wp2_with (at_builtin; refine wpList_app eltI64 rfl (.tmp 54) (.tmp 55) rfl rfl hrow2 rfl r2 (icells_one _) (by omega) (by unfold maxLen; omega) hb2 hb2.size ?_; intro v3 w3 o3 b3 g3 _)
                go_roundw
                case rel =>
                  refine ⟨j + 1, by omega, by go_num, ?_, b3⟩
                  rw [HSN.out, icells_append]
                  exact o3
                case measure => simp [intOf]; omega
              · obtain rfl : j = 9 := by omega
                obtain ⟨g2, c2, rfl, hc29, _⟩ := own_ptr hrow (by omega)
                have rn := (own_rd hrow).idrop (k := 8) (by omega)
                have HN := fun c => Lib.hid (rnumber_any _ _ _ c wr (fun x hx => bits8_lt _ x (List.mem_of_mem_drop hx)) rn)
                have rb := ((H.out).below hb (Nat.le_refl _)).more hb.size
                have rt := rb.btake' (k := 9) (by omega)
                have hnb := HNB'.out
                simp only [if_true] at hnb
                rw [hnb] at HN
                simp only [Nat.zero_add] at HN
                obtain ⟨x, hx⟩ : ∃ x, x = getNum l 9 := ⟨_, rfl⟩
                have hxl := getNum_lt l 9
                rw [← hx] at HN hxl HG' HFI'
                have i1 : (8 : Int) ≤ ((8 * 9 : Nat) : Int) := by omega
                have i2 : (8 : Int) ≤ (c2 : Int) := by omega
                have i3 : 8 < c2 := by omega
                have HC := fun w => Lib.hid (rshortest_any x hxl w)
                have i4 : ((9 : Nat) : Int) ≤ (n : Int) := by omega
                have i5 : ((9 : Nat) : Int) ≤ (c : Int) := by omega
                have i6 : 9 ≤ c := by omega
                clear hnb hx HBY HS8 HNB' hrow rn H
                go_wp2_with fail
                refine (HN _).out.mono ?_
                rintro e w2 ⟨rfl, rfl⟩
                clear HN
                go_wp2_with fail
                have rt' : Rd wr.drew wr.drew.heap.size 1 (some ⟨b, off, none⟩) 9 (bcells (l.take 9)) := rt
                have hbd : Below w.heap.size w wr.drew := ⟨hb.os, hb.tape, hb.output, hb.size, hb.block⟩
                have cv1 := fun c => run_conv (P := Try.prog) (src := 30) (dst := 9) Try.underlying30 Try.underlying5 Try.underlying9 c rt'
                have hse := HFI'.out
                clear HFI' rt rb hb hs hbw b1
                by_cases hz : psize x = 9
                · have hne : (pform x == l.take 9) = true := by rw [hse, decide_eq_true hz]
                  have HG2 := Lib.hid (show getP l = (x, 9, 0) by rw [HG'.out, if_pos hz])
                  clear HG' hse hz
                  go_region_with (go_at_call 61; refine (HC _).out.mono ?_; rintro e wp ⟨vp, rfl, op, bp⟩; obtain ⟨Ap, cp, rfl⟩ := own_slice op; have cv2 := run_conv (P := Try.prog) (src := 30) (dst := 9) Try.underlying30 Try.underlying5 Try.underlying9 cp (own_rd op); have cv3 := fun c => run_conv (P := Try.prog) (src := 30) (dst := 9) Try.underlying30 Try.underlying5 Try.underlying9 c (rt'.after bp); have hbp := belowGo hbd bp)
                  all_goals
                    go_wp2
                    go_ret3
                    exact ⟨by rw [HG2.out]; rfl, hbp⟩
                · have hne : (pform x == l.take 9) = false := by rw [hse, decide_eq_false hz]
                  have HG2 := Lib.hid (show getP l = (0, 0, 5) by rw [HG'.out, if_neg hz])
                  clear HG' hse hz
                  go_region_with (go_at_call 61; refine (HC _).out.mono ?_; rintro e wp ⟨vp, rfl, op, bp⟩; obtain ⟨Ap, cp, rfl⟩ := own_slice op; have cv2 := run_conv (P := Try.prog) (src := 30) (dst := 9) Try.underlying30 Try.underlying5 Try.underlying9 cp (own_rd op); have cv3 := fun c => run_conv (P := Try.prog) (src := 30) (dst := 9) Try.underlying30 Try.underlying5 Try.underlying9 c (rt'.after bp); have hbp := belowGo hbd bp)
                  all_goals
                    go_wp2
                    go_ret3
                    exact ⟨by rw [HG2.out]; rfl, hbp⟩
          · go_wp2
            go_loopw [8, 9] (fun v i wr => ∃ j : Nat, j ≤ k ∧ i = .int .i64 (j : Int) ∧ wr.ownsRow w.heap.size 3 1 v (8 * j) (icells (bits8 (l.take j))) ∧ Below w.heap.size w wr) (fun _ i _ => k - (intOf i).toNat)
            case atStart => exact ⟨0, Nat.zero_le _, rfl, hown0, hbw⟩
            case round =>
              obtain ⟨j, hj, rfl, hrow, hb⟩ := hrel
              have hs := hb.size
              by_cases hjk : j < k
              · have hc := (hb.cell (p := ⟨b, off + j, none⟩) hblk).trans (HBY j (by omega))
                have hjl : j < l.length := by have := HLN.out; omega
                have HSN := Lib.hid (HS8.out j hjl)
                have hu := (l.getD j 0).toNat_lt
                have HB := fun w => Lib.hid (rbits_any (l.getD j 0).toNat (by omega) 8 (by omega) w)
                have hjn : j < n := by omega
                clear HBY
                generalize (l.getD j 0).toNat = y at *
                go_wp2_with fail
                refine (HB wr).out.mono ?_
                rintro e w2 ⟨v2, rfl, o2, b2⟩
                obtain ⟨A2, c2, rfl⟩ := own_slice o2
                have r2 := own_rd o2
                have hrow2 := Ow.after hrow b2
                unfold Ow at hrow2
                have hb2 := belowGo hb b2
                clear HB o2
                go_wp2_with (at_builtin; refine wpList_app eltI64 rfl (.tmp 54) (.tmp 55) rfl rfl hrow2 rfl r2 (icells_one _) (by omega) (by unfold maxLen; omega) hb2 hb2.size ?_; intro v3 w3 o3 b3 g3 _)
                go_roundw
                case rel =>
                  refine ⟨j + 1, by omega, by go_num, ?_, b3⟩
                  rw [HSN.out, icells_append]
                  exact o3
                case measure => simp [intOf]; omega
              · obtain rfl : k = j := by omega
                obtain ⟨g2, c2, rfl, hc29, _⟩ := own_ptr hrow (by omega)
                have rn := (own_rd hrow).idrop (k := k) (by omega)
                have HN := fun c => Lib.hid (rnumber_any _ _ _ c wr (fun x hx => bits8_lt _ x (List.mem_of_mem_drop hx)) rn)
                have rb := ((H.out).below hb (Nat.le_refl _)).more hb.size
                have rt := rb.btake' (k := k) (by omega)
                have hnb := HNB'.out
                rw [if_neg (by omega)] at hnb
                rw [hnb] at HN
                simp only [Nat.zero_add] at HN
                obtain ⟨x, hx⟩ : ∃ x, x = getNum l k := ⟨_, rfl⟩
                have hxl := getNum_lt l k
                rw [← hx] at HN hxl HG' HFI'
                have i1 : (k : Int) ≤ ((8 * k : Nat) : Int) := by omega
                have i2 : (k : Int) ≤ (c2 : Int) := by omega
                have i3 : k < c2 := by omega
                have HC := fun w => Lib.hid (rshortest_any x hxl w)
                have i4 : ((k : Nat) : Int) ≤ (n : Int) := by omega
                have i5 : ((k : Nat) : Int) ≤ (c : Int) := by omega
                have i6 : k ≤ c := by omega
                clear hnb hx HBY HS8 HNB' hrow rn H
                go_wp2_with fail
                refine (HN _).out.mono ?_
                rintro e w2 ⟨rfl, rfl⟩
                clear HN
                go_wp2_with fail
                have rt' : Rd wr.drew wr.drew.heap.size 1 (some ⟨b, off, none⟩) k (bcells (l.take k)) := rt
                have hbd : Below w.heap.size w wr.drew := ⟨hb.os, hb.tape, hb.output, hb.size, hb.block⟩
                have cv1 := fun c => run_conv (P := Try.prog) (src := 30) (dst := 9) Try.underlying30 Try.underlying5 Try.underlying9 c rt'
                have hse := HFI'.out
                clear HFI' rt rb hb hs hbw b1
                by_cases hz : psize x = k
                · have hne : (pform x == l.take k) = true := by rw [hse, decide_eq_true hz]
                  have HG2 := Lib.hid (show getP l = (x, k, 0) by rw [HG'.out, if_pos hz])
                  clear HG' hse hz
                  go_region_with (go_at_call 61; refine (HC _).out.mono ?_; rintro e wp ⟨vp, rfl, op, bp⟩; obtain ⟨Ap, cp, rfl⟩ := own_slice op; have cv2 := run_conv (P := Try.prog) (src := 30) (dst := 9) Try.underlying30 Try.underlying5 Try.underlying9 cp (own_rd op); have cv3 := fun c => run_conv (P := Try.prog) (src := 30) (dst := 9) Try.underlying30 Try.underlying5 Try.underlying9 c (rt'.after bp); have hbp := belowGo hbd bp)
                  all_goals
                    go_wp2
                    go_ret3
                    exact ⟨by rw [HG2.out]; rfl, hbp⟩
                · have hne : (pform x == l.take k) = false := by rw [hse, decide_eq_false hz]
                  have HG2 := Lib.hid (show getP l = (0, 0, 5) by rw [HG'.out, if_neg hz])
                  clear HG' hse hz
                  go_region_with (go_at_call 61; refine (HC _).out.mono ?_; rintro e wp ⟨vp, rfl, op, bp⟩; obtain ⟨Ap, cp, rfl⟩ := own_slice op; have cv2 := run_conv (P := Try.prog) (src := 30) (dst := 9) Try.underlying30 Try.underlying5 Try.underlying9 cp (own_rd op); have cv3 := fun c => run_conv (P := Try.prog) (src := 30) (dst := 9) Try.underlying30 Try.underlying5 Try.underlying9 c (rt'.after bp); have hbp := belowGo hbd bp)
                  all_goals
                    go_wp2
                    go_ret3
                    exact ⟨by rw [HG2.out]; rfl, hbp⟩
end Go.Proofs.Ytohddbehcfoecaa
