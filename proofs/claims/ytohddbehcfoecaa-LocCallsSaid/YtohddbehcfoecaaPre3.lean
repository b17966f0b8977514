/- What prefix.Get comes to. For every bytes. -/
import Derived.Test.YtohddbehcfoecaaPre2
namespace Go.Proofs.Ytohddbehcfoecaa
open Go.RowKit

def num (l : List UInt8) : Nat := l.foldl (fun n c => n * 256 + c.toNat) 0
theorem num_snoc (l : List UInt8) (c : UInt8) : num (l ++ [c]) = num l * 256 + c.toNat := by simp [num]
def lead (b : UInt8) : Nat := 9 - Lib.bitLen (255 - b.toNat)
def getNum (l : List UInt8) (k : Nat) : Nat := if k < 9 then num (l.take k) % 18446744073709551616 % 2 ^ (7 * k) else num (l.take k) % 18446744073709551616
def getP (l : List UInt8) : Nat × Nat × Nat := if l.length = 0 then (0, 0, 4) else if l.length < lead (l.getD 0 0) then (0, 0, 4) else if psize (getNum l (lead (l.getD 0 0))) = lead (l.getD 0 0) then (getNum l (lead (l.getD 0 0)), lead (l.getD 0 0), 0) else (0, 0, 5)

theorem xor_u8_all (x : Nat) (h : x < 256) : bits BinOp.xor IntKind.u8 IntKind.u8.max (x : Int) = ((255 - x : Nat) : Int) := by
  have all : ∀ j : Fin 256, bits BinOp.xor IntKind.u8 IntKind.u8.max (j.val : Int) = ((255 - j.val : Nat) : Int) := by decide +kernel
  exact all ⟨x, h⟩
theorem bitLen8 (m : Nat) (h : m < 256) : Lib.bitLen m ≤ 8 := Lib.bitLen_le8 ⟨m, h⟩

theorem take_num (l : List UInt8) {j : Nat} (h : j < l.length) : num (l.take (j + 1)) % 18446744073709551616 = (num (l.take j) * 256 + (l.getD j 0).toNat) % 18446744073709551616 := by
  rw [List.take_succ_eq_append_getElem h, num_snoc]
  simp [List.getD, h]
theorem shl_or (m : Nat) (u : UInt8) : bits BinOp.or IntKind.u64 (IntKind.u64.wrap (((m % 18446744073709551616 : Nat) : Int) * 256)) (u.toNat : Int) = (((m * 256 + u.toNat) % 18446744073709551616 : Nat) : Int) := by
  have hu : u.toNat < 256 := u.toNat_lt
  rw [IntKind.wrap_u64, bits_join .u64 64 (by decide) wraps_u64 8] <;> omega
theorem and_mask (m k : Nat) (hm : m < 18446744073709551616) (h1 : 1 ≤ k) (h8 : k ≤ 8) : bits BinOp.and IntKind.u64 (m : Int) (IntKind.u64.wrap (IntKind.u64.wrap (2 ^ (7 * k)) - 1)) = ((m % 2 ^ (7 * k) : Nat) : Int) := by
  have hc : k = 1 ∨ k = 2 ∨ k = 3 ∨ k = 4 ∨ k = 5 ∨ k = 6 ∨ k = 7 ∨ k = 8 := by omega
  have go : ∀ i : Nat, i ≤ 56 → bits BinOp.and IntKind.u64 (m : Int) (2 ^ i - 1) = ((m % 2 ^ i : Nat) : Int) := fun i hi => by
    rw [bits_mask .u64 64 (by decide) wraps_u64 i (by omega) _ (by omega) (by omega)]
    simp
  rw [← go (7 * k) (by omega)]
  congr 1
  rcases hc with rfl | rfl | rfl | rfl | rfl | rfl | rfl | rfl <;> (simp only [IntKind.wrap_u64]; decide)

theorem get_any (l : List UInt8) (A : Option Addr) (n c : Nat) (w : World) (hnc : n ≤ c) (h : Rd w w.heap.size 1 A n (bcells l)) :
    Calls Try.prog 46 #[.slice A n c] w fun e w' => e = .returned (.tuple #[.int .u64 (getP l).1, .int .i64 (getP l).2.1, .int .i64 (getP l).2.2]) ∧ w = w' := by
  have hln := h.1
  have hmx := h.2.1
  unfold maxLen at hmx
  rw [bcells_len, Nat.mul_one] at hln
  rcases Nat.eq_zero_or_pos n with h0 | h0
  · subst h0
    go_enter Try.func46, Try.ntmps46
    go_wp2
    go_ret3
    unfold getP
    rw [if_pos hln]
    exact ⟨rfl, rfl⟩
  · obtain ⟨b, off, rfl, hblk, hcell⟩ := h.2.2 h0
    have hg : ∀ j, j < n → w.cell? ⟨b, off + j, none⟩ = some (.int .u8 ((l.getD j 0).toNat : Int)) := fun j hj => by
      rw [hcell j _ (bcells_get (by omega))]; simp [List.getD, show j < l.length by omega]
    have e0 : ((n : Int) == 0) = false := by simp; omega
    have hg0 := hg 0 h0
    rw [Nat.add_zero] at hg0
    obtain ⟨b0, hb0⟩ : ∃ b0, b0 = l.getD 0 0 := ⟨_, rfl⟩
    rw [← hb0] at hg0
    have hxx : bits BinOp.xor IntKind.u8 IntKind.u8.max (b0.toNat : Int) = ((255 - b0.toNat : Nat) : Int) := xor_u8_all _ b0.toNat_lt
    have HL := Lib.hid (Try.bits_LeadingZeros8 ((255 - b0.toNat : Nat) : Int) w (by omega) (by omega))
    rw [Int.toNat_natCast] at HL
    have hb8 := bitLen8 (255 - b0.toNat) (by omega)
    have hkd : lead b0 = 9 - Lib.bitLen (255 - b0.toNat) := rfl
    obtain ⟨k, hk⟩ : ∃ k, k = lead b0 := ⟨_, rfl⟩
    rw [← hk] at hkd
    have e8 : 8 - (Lib.bitLen (255 - b0.toNat) : Int) + 1 = (k : Int) := by omega
    have hk1 : 1 ≤ k := by omega
    have hk9 : k ≤ 9 := by omega
    have hg' : getP l = if n < k then (0, 0, 4) else if psize (getNum l k) = k then (getNum l k, k, 0) else (0, 0, 5) := by
      unfold getP
      rw [if_neg (by omega), ← hb0, ← hk, hln]
    have HG := Lib.hid hg'
    have HC := Lib.hid hcell
    have HLN := Lib.hid hln
    generalize 255 - b0.toNat = d at *
    generalize Lib.bitLen d = bl at *
    clear hk hb0 hg' hcell h hln hkd
    go_enter Try.func46, Try.ntmps46
    go_wp2_with fail
    refine HL.out.mono ?_
    rintro e w1 ⟨rfl, rfl⟩
    by_cases hlt : n < k
    · go_wp2
      go_ret3
      exact ⟨by rw [HG.out, if_pos hlt]; rfl, rfl⟩
    · go_wp2
      go_loopw [6, 26] (fun v i wr => ∃ j : Nat, j ≤ k ∧ i = .int .i64 j ∧ wr = w1 ∧ v = .int .u64 (num (l.take j) % 18446744073709551616 : Nat)) (fun _ i _ => k - (intOf i).toNat)
      case atStart => exact ⟨0, Nat.zero_le _, rfl, rfl, rfl⟩
      case round =>
        obtain ⟨j, hj, rfl, rfl, rfl⟩ := hrel
        by_cases hjk : j < k
        · have hgj := hg j (by omega)
          have HT := Lib.hid (take_num l (by have := HLN.out; omega : j < l.length))
          have hor := shl_or (num (l.take j)) (l.getD j 0)
          clear hg hg0
          generalize l.getD j 0 = u at *
          have hu := u.toNat_lt
          generalize u.toNat = y at *
          generalize num (l.take j) = m at *
          have hm := Nat.mod_lt m (show 18446744073709551616 > 0 by omega)
          generalize m % 18446744073709551616 = m' at *
          go_wp2
          go_roundw
          case rel => exact ⟨j + 1, by omega, by go_num, trivial, by rw [HT.out]; simp⟩
          case measure => simp [intOf]; omega
        · obtain rfl : j = k := by omega
          have hm := Nat.mod_lt (num (l.take j)) (show 18446744073709551616 > 0 by omega)
          clear hg hg0 HC
          by_cases h9 : j < 9
          · have hand := and_mask (num (l.take j) % 18446744073709551616) j hm hk1 (by omega)
            have HN := Lib.hid (show getNum l j = num (l.take j) % 18446744073709551616 % 2 ^ (7 * j) by unfold getNum; rw [if_pos h9])
            generalize num (l.take j) % 18446744073709551616 = m at *
            have hm2 := Nat.mod_lt m (Nat.two_pow_pos (7 * j))
            have hm3 : m % 2 ^ (7 * j) < 18446744073709551616 := Nat.lt_of_le_of_lt (Nat.mod_le _ _) hm
            generalize m % 2 ^ (7 * j) = z at *
            have HS := Lib.hid (size_any z hm3 wr)
            clear hm2
            go_wp2_with fail
            refine HS.out.mono ?_
            rintro e w1 ⟨rfl, rfl⟩
            by_cases hz : psize z = j
            · have ez : ((psize z : Int) != (j : Int)) = false := by simp; omega
              go_wp2
              go_ret3
              exact ⟨by rw [HG.out, if_neg hlt, HN.out, if_pos hz]; rfl, rfl⟩
            · have ez : ((psize z : Int) != (j : Int)) = true := by simp; omega
              go_wp2
              go_ret3
              exact ⟨by rw [HG.out, if_neg hlt, HN.out, if_neg hz]; rfl, rfl⟩
          · obtain rfl : j = 9 := by omega
            have HN := Lib.hid (show getNum l 9 = num (l.take 9) % 18446744073709551616 by unfold getNum; rw [if_neg h9])
            generalize num (l.take 9) % 18446744073709551616 = z at *
            have HS := Lib.hid (size_any z hm wr)
            go_wp2_with fail
            refine HS.out.mono ?_
            rintro e w1 ⟨rfl, rfl⟩
            by_cases hz : psize z = 9
            · have ez : ((psize z : Int) != (9 : Int)) = false := by simp; omega
              go_wp2
              go_ret3
              exact ⟨by rw [HG.out, if_neg hlt, HN.out, if_pos hz]; rfl, rfl⟩
            · have ez : ((psize z : Int) != (9 : Int)) = true := by simp; omega
              go_wp2
              go_ret3
              exact ⟨by rw [HG.out, if_neg hlt, HN.out, if_neg hz]; rfl, rfl⟩
end Go.Proofs.Ytohddbehcfoecaa
