/- Forms of numbers: how they are ordered, and that none begins another. Plain laws. -/
import Derived.Test.YtohddbehcfoecaaPre5
import Derived.Lib.Bytealg
namespace Go.Proofs.Ytohddbehcfoecaa
open Go.RowKit

theorem num_acc (n : Nat) : ∀ l : List UInt8, l.foldl (fun n c => n * 256 + c.toNat) n = n * 256 ^ l.length + num l
  | [] => by simp [num]
  | c :: l => by
    have h1 := num_acc (n * 256 + c.toNat) l
    have h2 := num_acc c.toNat l
    unfold num at *
    simp only [List.foldl_cons, Nat.zero_mul, Nat.zero_add, List.length_cons]
    rw [h1, h2, Nat.pow_succ, Nat.add_mul]
    have : n * 256 * 256 ^ l.length = n * (256 ^ l.length * 256) := by rw [Nat.mul_assoc, Nat.mul_comm 256]
    omega
theorem num_cons (c : UInt8) (l : List UInt8) : num (c :: l) = c.toNat * 256 ^ l.length + num l := by
  have := num_acc c.toNat l
  unfold num at *
  simp only [List.foldl_cons, Nat.zero_mul, Nat.zero_add]
  exact this
theorem num_lt : ∀ l : List UInt8, num l < 256 ^ l.length
  | [] => by simp [num]
  | c :: l => by
    have h1 := num_lt l
    have h2 := c.toNat_lt
    rw [num_cons, List.length_cons, Nat.pow_succ]
    have : c.toNat * 256 ^ l.length ≤ 255 * 256 ^ l.length := Nat.mul_le_mul_right _ (by omega)
    omega
theorem cmp_num : ∀ (a b : List UInt8), a.length = b.length → Lib.compareBytes a b = if num a < num b then -1 else if num b < num a then 1 else 0
  | [], [], _ => by simp [Lib.compareBytes]
  | [], _ :: _, h => by simp at h
  | _ :: _, [], h => by simp at h
  | c :: a, d :: b, h => by
    have hl : a.length = b.length := by simpa using h
    have ih := cmp_num a b hl
    have h1 := num_lt a
    have h2 := num_lt b
    rw [num_cons, num_cons]
    rw [hl] at h1 ⊢
    unfold Lib.compareBytes
    have p : ∀ u v : UInt8, u.toNat < v.toNat → u.toNat * 256 ^ b.length + 256 ^ b.length ≤ v.toNat * 256 ^ b.length := fun u v huv => by
      have := Nat.mul_le_mul_right (256 ^ b.length) (show u.toNat + 1 ≤ v.toNat from huv)
      rw [Nat.add_mul] at this
      omega
    by_cases hcd : c < d
    · have := p c d hcd
      rw [if_pos hcd, if_pos (by omega)]
    · rw [if_neg hcd]
      by_cases hdc : d < c
      · have := p d c hdc
        rw [if_pos hdc, if_neg (by omega), if_pos (by omega)]
      · rw [if_neg hdc, ih]
        have e : c.toNat = d.toNat := by
          have : ¬ c.toNat < d.toNat := hcd
          have : ¬ d.toNat < c.toNat := hdc
          omega
        rw [e]
        simp only [Nat.add_lt_add_iff_left]
theorem num_append : ∀ (a b : List UInt8), num (a ++ b) = num a * 256 ^ b.length + num b
  | [], b => by simp [num]
  | c :: a, b => by rw [List.cons_append, num_cons, num_append a b, num_cons, List.length_append, Nat.pow_add, Nat.add_mul, Nat.mul_assoc]; omega
theorem be_cons (m k : Nat) : be m (k + 1) = UInt8.ofNat (m / 2 ^ (8 * k)) :: be m k := by
  unfold be
  rw [List.range_succ_eq_map, List.map_cons, List.map_map]
  congr 1
  apply List.map_congr_left
  intro i hi
  simp only [Function.comp]
  congr 3
  omega
theorem num_be (m : Nat) : ∀ k, num (be m k) = m % 256 ^ k
  | 0 => by simp [be, num, Nat.mod_one]
  | k + 1 => by
    rw [be_cons, num_cons, num_be m k, be_len, Nat.pow_succ, Nat.mod_mul, show (256 : Nat) ^ k = 2 ^ (8 * k) by rw [Nat.pow_mul]]
    simp only [UInt8.toNat_ofNat', Nat.reducePow]
    rw [Nat.mul_comm, Nat.add_comm]
theorem num_pform (x : Nat) (hx : x < 18446744073709551616) : num (pform x) = if psize x = 9 then 255 * 256 ^ 8 + x else pword x := by
  by_cases h9 : psize x = 9
  · have e : pform x = 255 :: be x 8 := by unfold pform phead pword; rw [if_pos h9, if_pos h9, h9]; rfl
    rw [e, num_cons, be_len, num_be, if_pos h9]
    have : (255 : UInt8).toNat = 255 := rfl
    rw [this]
    omega
  · have h1 := psize_le x
    have e : pform x = be (pword x) (psize x) := by unfold pform phead; rw [if_neg h9, Nat.min_eq_left (by omega)]; rfl
    rw [e, num_be, if_neg h9]
    unfold pword
    rw [if_neg h9]
    rcases psize_cases x with ⟨e, h⟩ | ⟨e, h⟩ | ⟨e, h⟩ | ⟨e, h⟩ | ⟨e, h⟩ | ⟨e, h⟩ | ⟨e, h⟩ | ⟨e, h⟩ | ⟨e, h⟩ <;> rw [e] <;> simp only [Nat.reduceSub, Nat.reducePow, Nat.reduceMul] <;> omega
theorem pform_lt {a b : Nat} (ha : a < 18446744073709551616) (hb : b < 18446744073709551616) (h : psize a = psize b) : num (pform a) < num (pform b) ↔ a < b := by
  rw [num_pform a ha, num_pform b hb]
  unfold pword
  rw [h]
  split <;> omega
theorem psize_mono {a b : Nat} (h : a ≤ b) : psize a ≤ psize b := by
  rcases psize_cases a with g | g | g | g | g | g | g | g | g <;> rcases psize_cases b with k | k | k | k | k | k | k | k | k <;> omega
theorem lead_mono : ∀ c d : UInt8, c.toNat ≤ d.toNat → lead c ≤ lead d := by
  intro c d h
  have : ∀ m n : Nat, m ≤ n → n < 256 → Lib.bitLen m ≤ Lib.bitLen n := by
    intro m n hmn hn
    rcases Nat.eq_zero_or_pos m with rfl | h0
    · have e : Lib.bitLen 0 = 0 := by decide
      omega
    · rw [bitLen_fits m (by omega)]
      have := bitLen_bounds n (by omega) (by omega)
      omega
  have := this (255 - d.toNat) (255 - c.toNat) (by omega) (by omega)
  unfold lead
  omega
theorem lead_of (c : UInt8) (k : Nat) (h1 : 1 ≤ k) (h8 : k ≤ 8) (h : 256 - 2 ^ (9 - k) ≤ c.toNat) (h' : c.toNat < 256 - 2 ^ (8 - k)) : lead c = k := by
  have all : ∀ (j : Fin 256) (k : Fin 9), 1 ≤ k.val → 256 - 2 ^ (9 - k.val) ≤ j.val → j.val < 256 - 2 ^ (8 - k.val) → 9 - Lib.bitLen (255 - j.val) = k.val := by decide +kernel
  exact all ⟨c.toNat, c.toNat_lt⟩ ⟨k, by omega⟩ h1 h h'
theorem pform_lead (x : Nat) : ∃ c t, pform x = c :: t ∧ lead c = psize x := by
  unfold pform phead pword
  rcases psize_cases x with ⟨e, h⟩ | ⟨e, h⟩ | ⟨e, h⟩ | ⟨e, h⟩ | ⟨e, h⟩ | ⟨e, h⟩ | ⟨e, h⟩ | ⟨e, h⟩ | ⟨e, h⟩
  case inr.inr.inr.inr.inr.inr.inr.inr => exact ⟨255, _, by rw [e]; rfl, by rw [e]; decide⟩
  all_goals
    rw [e]
    refine ⟨_, _, (by simp only [Nat.reduceEqDiff, ↓reduceIte, List.nil_append, Nat.reduceLeDiff, Nat.min_eq_left]; exact be_cons _ _), ?_⟩
    apply lead_of _ _ (by omega) (by omega)
    · simp only [UInt8.toNat_ofNat', Nat.reduceSub, Nat.reducePow, Nat.reduceMul]; omega
    · simp only [UInt8.toNat_ofNat', Nat.reduceSub, Nat.reducePow, Nat.reduceMul]; omega
theorem pform_cmp {a b : Nat} (ha : a < 18446744073709551616) (hb : b < 18446744073709551616) : Lib.compareBytes (pform a) (pform b) = if a < b then -1 else if b < a then 1 else 0 := by
  by_cases h : psize a = psize b
  · rw [cmp_num _ _ (by rw [pform_len, pform_len, h])]
    simp only [pform_lt ha hb h, pform_lt hb ha h.symm]
  · obtain ⟨c, s, e1, h1⟩ := pform_lead a
    obtain ⟨d, t, e2, h2⟩ := pform_lead b
    rw [e1, e2]
    unfold Lib.compareBytes
    rcases Nat.lt_or_ge a b with hab | hab
    · have := psize_mono (Nat.le_of_lt hab)
      have hcd : c.toNat < d.toNat := by
        rcases Nat.lt_or_ge c.toNat d.toNat with g | g
        · exact g
        · have := lead_mono d c g; omega
      have p1 : c < d := hcd
      rw [if_pos hab, if_pos p1]
    · have := psize_mono hab
      have hcd : d.toNat < c.toNat := by
        rcases Nat.lt_or_ge d.toNat c.toNat with g | g
        · exact g
        · have := lead_mono c d g; omega
      have hne : a ≠ b := fun g => h (by rw [g])
      have n1 : ¬ c < d := fun (g : c.toNat < d.toNat) => by omega
      have p1 : d < c := hcd
      rw [if_neg n1, if_pos p1, if_neg (by omega), if_pos (by omega)]
theorem pform_no {a b : Nat} (ha : a < 18446744073709551616) (hb : b < 18446744073709551616) (h : a ≠ b) : (pform a).isPrefixOf (pform b) = false := by
  cases hp : (pform a).isPrefixOf (pform b) with
  | false => rfl
  | true =>
    rw [List.isPrefixOf_iff_prefix] at hp
    obtain ⟨t, ht⟩ := hp
    exfalso
    by_cases hs : psize a = psize b
    · have hl := congrArg List.length ht
      rw [List.length_append, pform_len, pform_len] at hl
      have : t = [] := List.eq_nil_of_length_eq_zero (by omega)
      subst this
      rw [List.append_nil] at ht
      have h1 := pform_lt ha hb hs
      have h2 := pform_lt hb ha hs.symm
      rw [ht] at h1 h2
      omega
    · obtain ⟨c, s, e1, h1⟩ := pform_lead a
      obtain ⟨d, u, e2, h2⟩ := pform_lead b
      rw [e1, e2] at ht
      injection ht with hcd _
      subst hcd
      omega
end Go.Proofs.Ytohddbehcfoecaa
