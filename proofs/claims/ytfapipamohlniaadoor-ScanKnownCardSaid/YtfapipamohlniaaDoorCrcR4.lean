/- The document's answer, chapter 02: Sum. -/
import Derived.Test.YtfapipamohlniaaDoorCrcR3
namespace Go.Proofs.YtfapipamohlniaaDoor
open Go.RowKit

structure IsRow (b : List Bool) (n N : Nat) : Prop where
  len : b.length = n
  num : numBo b = N
theorem IsRow.nil : IsRow [] 0 0 := ⟨rfl, rfl⟩
theorem IsRow.snoc {b : List Bool} {n N : Nat} (h : IsRow b n N) (x : Bool) : IsRow (b ++ [x]) (n + 1) (N + 2 ^ n * x.toNat) := ⟨by rw [List.length_append, h.len]; rfl, by rw [numBo_append, h.num, h.len]; simp [numBo]⟩
theorem IsRow.flip {b : List Bool} {n N : Nat} (h : IsRow b n N) (p : Nat) (hp : p < b.length) : IsRow (b.set p (!(b[p]'hp))) n (N ^^^ 2 ^ p) := by
  refine ⟨by rw [List.length_set, h.len], ?_⟩
  have e := numBo_set b p true hp
  rw [Bool.xor_true] at e
  rw [e, h.num]
  simp
theorem mod_snoc (c t : Nat) : c % 2 ^ (t + 1) = c % 2 ^ t + 2 ^ t * (c / 2 ^ t % 2) := by rw [Nat.pow_succ, Nat.mod_mul]
theorem ones_succ (t : Nat) : (2 ^ t - 1) ^^^ 2 ^ t = 2 ^ (t + 1) - 1 := by
  have h := xor_add (2 ^ t - 1) 1 t (by have := Nat.two_pow_pos t; omega)
  rw [Nat.mul_one] at h
  rw [h, Nat.pow_succ]
  have := Nat.two_pow_pos t
  omega
theorem numL_snoc (l : List UInt8) (c : UInt8) : numL (l ++ [c]) = numL l + 256 ^ l.length * c.toNat := by
  rw [numL_append]
  simp [numL]

structure IsTail (b : List Bool) (n q N : Nat) : Prop where
  len : b.length = n
  num : numBo b / 2 ^ q = N
theorem IsTail.flip {b : List Bool} {n q N : Nat} (h : IsTail b n q N) (t : Nat) (hp : q + t < b.length) : IsTail (b.set (q + t) (!(b[q + t]'hp))) n q (N ^^^ 2 ^ t) := by
  refine ⟨by rw [List.length_set, h.len], ?_⟩
  have e := numBo_set b (q + t) true hp
  rw [Bool.xor_true] at e
  rw [e, xor_div_pow, h.num]
  congr 1
  rw [show true.toNat = 1 from rfl, Nat.one_mul, Nat.pow_add, Nat.mul_div_cancel_left _ (Nat.two_pow_pos q)]
theorem sum_tail (l : List UInt8) (n : Nat) (hl : l.length = n) : stepsC (8 * n) (numL l ^^^ (2 ^ 32 - 1)) ^^^ (2 ^ 32 - 1) = sumC l := by
  unfold sumC
  rw [runC_steps, hl, Nat.xor_comm (numL l), Nat.xor_comm _ (2 ^ 32 - 1)]
theorem rd_tail {w : World} {B g n q c : Nat} {b : List Bool} {e : TypeId} (h : w.ownsRow B e 1 (.slice (some ⟨g, 0, none⟩) n c) n (lcells b)) (hq : q + 32 = n) : Rd w w.heap.size 1 (some ⟨g, q, none⟩) 32 (lcells (b.drop q)) := by
  have h2 := (own_rd h).drop (k := q) (by omega)
  rw [Nat.mul_one, Nat.zero_add, show n - q = 32 by omega] at h2
  unfold lcells at h2 ⊢
  rwa [← List.map_drop] at h2
theorem row_byte (l : List UInt8) (k : Nat) (hk : k < l.length) : numL (l.take k) + 2 ^ (8 * k) * ((l[k]'hk).toNat % 2 ^ 8) = numL (l.take (k + 1)) := by
  have h := (l[k]'hk).toNat_lt
  rw [List.take_succ_eq_append_getElem hk, numL_snoc, List.length_take, Nat.min_eq_left (by omega), Nat.mod_eq_of_lt h, Nat.pow_mul]
theorem row_bit (N a C t b : Nat) (hb : b = C / 2 ^ t % 2) : N + 2 ^ a * (C % 2 ^ t) + 2 ^ (a + t) * b = N + 2 ^ a * (C % 2 ^ (t + 1)) := by
  rw [mod_snoc, hb, Nat.pow_add, Nat.mul_assoc, Nat.mul_add, Nat.add_assoc]

set_option maxRecDepth 10000 in
set_option maxHeartbeats 2000000 in
theorem rsum_any (l : List UInt8) (A : Option Addr) (n c : Nat) (w : World) (hn : n ≤ 1000000000000) (h : Rd w w.heap.size 1 A n (bcells l)) :
    Calls Tryd.prog 41 #[.slice A n c] w fun e w' => e = .returned (.int .u32 (sumC l : Int)) ∧ Below w.heap.size w w' := by
  have hl : l.length = n := by have := h.1; rw [bcells_len] at this; omega
  have HL := Lib.hid hl
  clear hl
  go_enter Tryd.func41, Tryd.ntmps41
  go_wp2_with fail
  go_loopw [3, 4, 5, 6] (fun v i _ _ wr => ∃ k : Nat, k ≤ n ∧ i = .int .i64 (k : Int) ∧ (∃ bl, IsRow bl (8 * k) (numL (l.take k)) ∧ wr.ownsRow w.heap.size 4 1 v (8 * k) (lcells bl)) ∧ Below w.heap.size w wr) (fun _ i _ _ _ => n - (intOf i).toNat)
  case atStart => exact ⟨0, by omega, rfl, ⟨[], IsRow.nil, World.ownsRow_nil _ _ _ _⟩, Below.refl _ _⟩
  case round =>
    obtain ⟨k, hk, rfl, ⟨bl, HI, ho⟩, hb⟩ := hrel
    by_cases hlt : k < n
    · have hkl : k < l.length := by rw [HL.out]; exact hlt
      obtain ⟨gb, off, rfl, hblk, hcell⟩ := (h.below hb (Nat.le_refl _)).2.2 (by omega)
      have hc := hcell k _ (bcells_get hkl)
      have HY := Lib.hid (row_byte l k hkl)
      have hu := (l[k]'hkl).toNat_lt
      generalize (l[k]'hkl).toNat = C at *
      generalize numL (l.take k) = N at *
      have i1 : (k : Int) < (n : Int) := by omega
      clear hcell hblk
      have hd0 : C / 2 ^ 0 = C := by simp
      have HD0 := Lib.hid hd0
      have HI0 : IsRow bl (8 * k + 0) (N + 2 ^ (8 * k) * (C % 2 ^ 0)) := by rw [Nat.pow_zero, Nat.mod_one]; exact HI
      clear hd0 HI
      go_wp2_with fail
      go_loopw [3, 5, 6] (fun v cc i wz => ∃ t : Nat, t ≤ 8 ∧ i = .int .i64 (t : Int) ∧ cc = .int .u8 ((C / 2 ^ t : Nat) : Int) ∧ (∃ bl, IsRow bl (8 * k + t) (N + 2 ^ (8 * k) * (C % 2 ^ t)) ∧ wz.ownsRow w.heap.size 4 1 v (8 * k + t) (lcells bl)) ∧ Below w.heap.size w wz) (fun _ _ i _ => 8 - (intOf i).toNat)
      case atStart => exact ⟨0, by omega, rfl, by rw [HD0.out], ⟨bl, HI0, ho⟩, hb⟩
      case round =>
        clear ho hb HI0
        obtain ⟨t, ht, rfl, rfl, ⟨bl, HI, ho⟩, hb⟩ := hrel
        by_cases ht8 : t < 8
        · obtain ⟨y, hy⟩ : ∃ y, y = C / 2 ^ t := ⟨_, rfl⟩
          have hy256 : y < 256 := by rw [hy]; exact Nat.lt_of_le_of_lt (Nat.div_le_self _ _) hu
          have HY2 := Lib.hid (show y / 2 = C / 2 ^ (t + 1) by rw [hy, Nat.pow_succ, Nat.div_div_eq_div_mul])
          obtain ⟨b, hbb⟩ : ∃ b : Bool, b = decide (y % 2 = 1) := ⟨_, rfl⟩
          have eb : ((y : Int) % 2 == 1) = b := by rw [hbb, Bool.eq_iff_iff]; simp; omega
          have HBT := Lib.hid (row_bit N (8 * k) C t b.toNat (by rw [← hy, hbb]; by_cases h2 : y % 2 = 1 <;> simp [h2]; omega))
          have HS := Lib.hid (HI.snoc b)
          have i2 : (t : Int) < 8 := by omega
          have hs := hb.size
          rw [← hy]
          clear hy hbb HI
          go_wp2_with (at_builtin; refine wpList_push eltBool rfl (.tmp 25) (.tmp 29) rfl (W := wr) rfl ho rfl rfl (by simp [Value.oneCell']) (by omega) (by unfold maxLen; omega) hb hs ?_; intro v' w' hown' hb' x1 x2; clear x1 x2)
          go_roundw
          case rel =>
            refine ⟨t + 1, by omega, by go_num, ?_, ⟨bl ++ [b], ?_, ?_⟩, hb'⟩
            · rw [← HY2.out]; go_num
            · rw [← HBT.out]; exact HS.out
            · rw [lcells_append]; exact hown'
          case measure => simp [intOf]; omega
        · obtain rfl : t = 8 := by omega
          rw [HY.out] at HI
          clear HY HD0
          go_wp2_with fail
          go_roundw
          case rel => exact ⟨k + 1, by omega, by go_num, ⟨bl, HI, ho⟩, hb⟩
          case measure => simp [intOf]; omega
    · obtain rfl : k = n := by omega
      rw [List.take_of_length_le (by rw [HL.out]; exact Nat.le_refl _)] at HI
      clear h
      have hz : IsRow bl (8 * k + 0) (numL l) := HI
      have hn : k ≤ 1000000000000 := hn
      go_wp2_with fail
      go_loopw [3, 7] (fun v i wz => ∃ t : Nat, t ≤ 32 ∧ i = .int .i64 (t : Int) ∧ (∃ bl, IsRow bl (8 * k + t) (numL l) ∧ wz.ownsRow w.heap.size 4 1 v (8 * k + t) (lcells bl)) ∧ Below w.heap.size w wz) (fun _ i _ => 32 - (intOf i).toNat)
      case atStart => exact ⟨0, by omega, rfl, ⟨bl, hz, ho⟩, hb⟩
      case round =>
        clear ho hb HI hz
        obtain ⟨t, ht, rfl, ⟨bl, HI, ho⟩, hb⟩ := hrel
        have hs := hb.size
        by_cases ht32 : t < 32
        · have HS := HI.snoc false
          rw [Bool.toNat_false, Nat.mul_zero, Nat.add_zero] at HS
          have HS := Lib.hid HS
          clear HI
          go_wp2_with (at_builtin; refine wpList_push eltBool rfl (.tmp 37) (.tmp 38) rfl (W := wr) rfl ho rfl rfl (by simp [Value.oneCell']) (by omega) (by unfold maxLen; omega) hb hs ?_; intro v' w' hown' hb' x1 x2; clear x1 x2)
          go_roundw
          case rel =>
            refine ⟨t + 1, by omega, by go_num, ⟨bl ++ [false], HS.out, ?_⟩, hb'⟩
            rw [lcells_append]; exact hown'
          case measure => simp [intOf]; omega
        · obtain rfl : t = 32 := by omega
          obtain ⟨g, c1, rfl, hc1, hg⟩ := own_ptr ho (by omega)
          obtain ⟨N, hN⟩ : ∃ N, N = 8 * k + 32 := ⟨_, rfl⟩
          rw [← hN] at HI ho hc1 ⊢
          have HI0 : IsRow bl N (numL l ^^^ (2 ^ 0 - 1)) := by rw [Nat.pow_zero, Nat.sub_self, Nat.xor_zero]; exact HI
          have hN32 : 32 ≤ N := by omega
          have hNm : N ≤ 140737488355328 := by omega
          have HN := Lib.hid hN
          clear hN HI
          go_wp2_with fail
          go_loopw [8] (fun i wz => ∃ t : Nat, t ≤ 32 ∧ i = .int .i64 (t : Int) ∧ (∃ bl, IsRow bl N (numL l ^^^ (2 ^ t - 1)) ∧ wz.ownsRow w.heap.size 4 1 (.slice (some ⟨g, 0, none⟩) N c1) N (lcells bl)) ∧ Below w.heap.size w wz) (fun i _ => 32 - (intOf i).toNat)
          case atStart => exact ⟨0, by omega, rfl, ⟨bl, HI0, ho⟩, hb⟩
          case round =>
            clear ho hb HI0 hs
            obtain ⟨t, ht, rfl, ⟨bl, HI, ho⟩, hb⟩ := hrel
            by_cases ht32 : t < 32
            · have htl : t < bl.length := by rw [HI.len]; omega
              have HS := HI.flip t htl
              rw [Nat.xor_assoc, ones_succ] at HS
              have hcx := World.ownsRow.cellAt ho t (by omega)
              rw [lcells_get htl] at hcx
              have hfz := World.ownsRow.frozenAt ho t
              generalize bl[t]'htl = x at *
              have hst := (World.ownsRow.stored ho t (.bool (!x))).1
              rw [lcells_set] at hst
              have hbs := hb.setCell (p := ⟨g, t, none⟩) hg (.bool (!x))
              have HS := Lib.hid HS
              have i4 : (t : Int) < 32 := by omega
              have i5 : t < N := by omega
              clear HI ho hb htl
              go_wp2_with fail
              go_roundw
              case rel => exact ⟨t + 1, by omega, by go_num, ⟨bl.set t (!x), HS.out, hst⟩, hbs⟩
              case measure => simp [intOf]; omega
            · obtain rfl : t = 32 := by omega
              have HLF := Lib.hid (rleft_any bl (some ⟨g, 0, none⟩) N c1 wr hN32 hNm (own_rd ho))
              have HNM := Lib.hid HI.num
              obtain ⟨q, hq⟩ : ∃ q, q = N - 32 := ⟨_, rfl⟩
              unfold RetLeft at HLF
              rw [← hq] at HLF
              have hqN : q + 32 = N := by omega
              have HQK := Lib.hid (show q = 8 * k by have := HN.out; omega)
              clear hq HI ho
              go_wp2_with fail
              refine HLF.out.mono ?_
              rintro e w5 ⟨g2, c2, l2, rfl, hc2, hg2, o5, D5, b5⟩
              have hb5 := hb.trans (b5.mono hb.size)
              have o5 := own_low o5 hb.size
              have hg2 : w.heap.size ≤ g2 := Nat.le_trans hb.size hg2
              obtain ⟨R, hR⟩ : ∃ R, R = stepsC q (numBo bl) := ⟨_, rfl⟩
              have HT0 : IsTail l2 N q (R ^^^ (2 ^ 0 - 1)) := ⟨by have := o5.1; rw [lcells_len] at this; omega, by rw [Nat.pow_zero, Nat.sub_self, Nat.xor_zero, hR]; exact D5.num⟩
              have HRR := Lib.hid hR
              clear hR D5 b5 HLF hb
              go_wp2_with fail
              go_loopw [10] (fun i wz => ∃ t : Nat, t ≤ 32 ∧ i = .int .i64 (t : Int) ∧ (∃ b2, IsTail b2 N q (R ^^^ (2 ^ t - 1)) ∧ wz.ownsRow w.heap.size 4 1 (.slice (some ⟨g2, 0, none⟩) N c2) N (lcells b2)) ∧ Below w.heap.size w wz) (fun i _ => 32 - (intOf i).toNat)
              case atStart => exact ⟨0, by omega, rfl, ⟨l2, HT0, o5⟩, hb5⟩
              case round =>
                clear o5 hb5 HT0
                obtain ⟨t, ht, rfl, ⟨b2, HI, ho⟩, hb⟩ := hrel
                by_cases ht32 : t < 32
                · have htl : q + t < b2.length := by rw [HI.len]; omega
                  have HS := HI.flip t htl
                  rw [Nat.xor_assoc, ones_succ] at HS
                  have hcx := World.ownsRow.cellAt ho (q + t) (by omega)
                  rw [lcells_get htl] at hcx
                  have hfz := World.ownsRow.frozenAt ho (q + t)
                  generalize b2[q + t]'htl = x at *
                  have hst := (World.ownsRow.stored ho (q + t) (.bool (!x))).1
                  rw [lcells_set] at hst
                  have hbs := hb.setCell (p := ⟨g2, q + t, none⟩) hg2 (.bool (!x))
                  have HS := Lib.hid HS
                  have i4 : (t : Int) < 32 := by omega
                  clear HI ho hb htl
                  go_wp2_with fail
                  go_roundw
                  case rel => exact ⟨t + 1, by omega, by go_num, ⟨b2.set (q + t) (!x), HS.out, hst⟩, hbs⟩
                  case measure => simp [intOf]; omega
                · obtain rfl : t = 32 := by omega
                  have hln : (b2.drop q).length = 32 := by rw [List.length_drop, HI.len]; omega
                  have hnm : numBo (b2.drop q) = sumC l := by
                    rw [numBo_drop b2 q (by rw [HI.len]; omega), HI.num, HRR.out, HNM.out, HQK.out]
                    exact sum_tail l k HL.out
                  have HB := rbitsC_any (b2.drop q) hln (some ⟨g2, q, none⟩) (c2 - q) wr (rd_tail ho hqN)
                  rw [hnm] at HB
                  have HB := Lib.hid HB
                  clear hln hnm HI ho
                  go_wp2_with fail
                  refine HB.out.mono ?_
                  rintro e w6 ⟨rfl, rfl⟩
                  go_wp2_with fail
                  go_ret
                  exact ⟨rfl, hb⟩
end Go.Proofs.YtfapipamohlniaaDoor
