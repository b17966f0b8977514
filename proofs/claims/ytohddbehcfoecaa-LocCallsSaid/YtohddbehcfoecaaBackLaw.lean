/- Forms of numbers: read back, cut, and of bytes that are read. Plain laws. -/
import Derived.Test.YtohddbehcfoecaaOrdLaw
namespace Go.Proofs.Ytohddbehcfoecaa
open Go.RowKit

theorem num_inj : ∀ (a b : List UInt8), a.length = b.length → num a = num b → a = b
  | [], [], _, _ => rfl
  | [], _ :: _, h, _ => by simp at h
  | _ :: _, [], h, _ => by simp at h
  | c :: a, d :: b, h, hn => by
    have hl : a.length = b.length := by simpa using h
    have h1 := num_lt a
    have h2 := num_lt b
    rw [num_cons, num_cons] at hn
    rw [hl] at h1 hn
    have p : ∀ u v : UInt8, u.toNat < v.toNat → u.toNat * 256 ^ b.length + 256 ^ b.length ≤ v.toNat * 256 ^ b.length := fun u v huv => by
      have := Nat.mul_le_mul_right (256 ^ b.length) (show u.toNat + 1 ≤ v.toNat from huv)
      rw [Nat.add_mul] at this
      omega
    have e : c.toNat = d.toNat := by
      rcases Nat.lt_trichotomy c.toNat d.toNat with g | g | g
      · have := p c d g; omega
      · exact g
      · have := p d c g; omega
    rw [e] at hn
    rw [UInt8.toNat_inj.1 e, num_inj a b hl (by omega)]
theorem getP_form (x : Nat) (hx : x < 18446744073709551616) (r : List UInt8) : getP (pform x ++ r) = (x, psize x, 0) := by
  obtain ⟨c, t, e, h⟩ := pform_lead x
  have hl := pform_len x
  have hk := psize_pos x
  have h0 : (pform x ++ r).getD 0 0 = c := by rw [e]; rfl
  have hlen : (pform x ++ r).length = psize x + r.length := by rw [List.length_append, hl]
  have ht : (pform x ++ r).take (psize x) = pform x := by rw [List.take_append_of_le_length (by omega), List.take_of_length_le (by omega)]
  have hn : getNum (pform x ++ r) (psize x) = x := by
    unfold getNum
    rw [ht, num_pform x hx]
    unfold pword
    rcases psize_cases x with ⟨e, h⟩ | ⟨e, h⟩ | ⟨e, h⟩ | ⟨e, h⟩ | ⟨e, h⟩ | ⟨e, h⟩ | ⟨e, h⟩ | ⟨e, h⟩ | ⟨e, h⟩ <;> rw [e] <;> simp <;> omega
  unfold getP
  rw [h0, h, hlen, if_neg (by omega), if_neg (by omega), hn, if_pos rfl]
theorem getP_cut (x : Nat) (r : List UInt8) (j : Nat) (hj : j < psize x) : getP ((pform x ++ r).take j) = (0, 0, 4) := by
  obtain ⟨c, t, e, h⟩ := pform_lead x
  have hl := pform_len x
  have hlen : ((pform x ++ r).take j).length = j := by rw [List.length_take, List.length_append, hl]; omega
  unfold getP
  rcases Nat.eq_zero_or_pos j with rfl | h0
  · rw [if_pos hlen]
  · have hg : ((pform x ++ r).take j).getD 0 0 = c := by
      rw [e]
      obtain ⟨i, rfl⟩ : ∃ i, j = i + 1 := ⟨j - 1, by omega⟩
      rfl
    rw [if_neg (by omega), hg, h, hlen, if_pos hj]
theorem getP_whole (x : Nat) (hx : x < 18446744073709551616) (r : List UInt8) (j : Nat) (hj : psize x ≤ j) : getP ((pform x ++ r).take j) = (x, psize x, 0) := by
  rw [List.take_append, List.take_of_length_le (by rw [pform_len]; exact hj)]
  exact getP_form x hx _
theorem lead_range (c : UInt8) : (lead c = 9 ∧ c.toNat = 255) ∨ (1 ≤ lead c ∧ lead c ≤ 8 ∧ 256 - 2 ^ (9 - lead c) ≤ c.toNat ∧ c.toNat < 256 - 2 ^ (8 - lead c)) := by
  have all : ∀ j : Fin 256, (9 - Lib.bitLen (255 - j.val) = 9 ∧ j.val = 255) ∨ (1 ≤ 9 - Lib.bitLen (255 - j.val) ∧ 9 - Lib.bitLen (255 - j.val) ≤ 8 ∧ 256 - 2 ^ (9 - (9 - Lib.bitLen (255 - j.val))) ≤ j.val ∧ j.val < 256 - 2 ^ (8 - (9 - Lib.bitLen (255 - j.val)))) := by decide +kernel
  exact all ⟨c.toNat, c.toNat_lt⟩
theorem getP_any (l : List UInt8) : ((getP l).2.2 = 0 ∧ (getP l).2.1 ≤ l.length ∧ (getP l).1 < 18446744073709551616 ∧ pform (getP l).1 = l.take (getP l).2.1) ∨ (((getP l).2.2 = 4 ∨ (getP l).2.2 = 5) ∧ (getP l).1 = 0 ∧ (getP l).2.1 = 0) := by
  unfold getP
  cases l with
  | nil => right; simp
  | cons c t =>
    rw [if_neg (by simp)]
    have h0 : (c :: t).getD 0 0 = c := rfl
    rw [h0]
    split
    · right; simp
    · rename_i hlen
      split
      · left
        rename_i hs
        have hk : 1 ≤ lead c := by rcases lead_range c with ⟨h, _⟩ | ⟨h, _⟩ <;> omega
        have hlt : getNum (c :: t) (lead c) < 18446744073709551616 := by
          have hm := Nat.mod_lt (num ((c :: t).take (lead c))) (show 18446744073709551616 > 0 by omega)
          unfold getNum
          split
          · exact Nat.lt_of_le_of_lt (Nat.mod_le _ _) hm
          · exact hm
        refine ⟨rfl, by show lead c ≤ _; omega, hlt, ?_⟩
        show pform (getNum (c :: t) (lead c)) = (c :: t).take (lead c)
        have hl2 : ((c :: t).take (lead c)).length = lead c := by rw [List.length_take]; omega
        apply num_inj _ _ (by rw [pform_len, hs, hl2])
        rw [num_pform _ hlt, hs]
        obtain ⟨k, hk'⟩ : ∃ k, lead c = k + 1 := ⟨lead c - 1, by omega⟩
        have hz := num_lt (t.take k)
        have hzl : (t.take k).length = k := by rw [hk'] at hl2; simpa using hl2
        rw [hzl] at hz
        have hnum : num ((c :: t).take (lead c)) = c.toNat * 256 ^ k + num (t.take k) := by
          rw [hk', List.take_succ_cons, num_cons, hzl]
        unfold pword
        rw [hs]
        unfold getNum
        rw [hnum, hk']
        generalize num (t.take k) = z at *
        rcases lead_range c with ⟨h, hc⟩ | ⟨_, h8, hc1, hc2⟩
        · rw [hk'] at h
          obtain rfl : k = 8 := by omega
          rw [hc]
          simp
          simp at hz
          omega
        · rw [hk'] at h8 hc1 hc2
          have hcase : k = 0 ∨ k = 1 ∨ k = 2 ∨ k = 3 ∨ k = 4 ∨ k = 5 ∨ k = 6 ∨ k = 7 := by omega
          have hcl := c.toNat_lt
          generalize c.toNat = y at *
          clear hs hlt hnum hl2 hzl hk' h0 hlen hk
          rcases hcase with rfl | rfl | rfl | rfl | rfl | rfl | rfl | rfl <;> simp at hz hc1 hc2 ⊢ <;> omega
      · right; simp
end Go.Proofs.Ytohddbehcfoecaa
