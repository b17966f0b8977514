/- Locs there and back, plainly. Plain Lean, no condition. -/
import Derived.Test.YtohddbehcfoecaaLocLaw
namespace Go.Proofs.Ytohddbehcfoecaa

theorem locGet_form {s o : Nat} (r : List UInt8) (h1 : s < 4294967296) (h2 : o < 4294967296) (hm : mayL s o = true) (hn : noneB s o = false) :
    locGetP (pform s ++ pform (o - 16) ++ r) = (s, o, psize s + psize (o - 16), 0) := by
  have hst : 1 ≤ s ∧ 16 ≤ o := by
    unfold mayL at hm
    rw [hn, Bool.false_or] at hm
    unfold standsB at hm
    simp only [decide_eq_true_eq] at hm
    omega
  unfold locGetP
  rw [List.append_assoc, getP_form s (by omega)]
  simp only [ne_eq, not_true_eq_false, false_or]
  rw [if_neg (by omega : ¬ s = 0), List.drop_append, List.drop_of_length_le (by rw [pform_len]; omega), List.nil_append, pform_len, Nat.sub_self, List.drop_zero, getP_form (o - 16) (by omega)]
  simp only [not_true_eq_false, if_false]
  rw [Nat.sub_add_cancel hst.2, hm]
  rfl
theorem locGet_cut {s o : Nat} (h1 : s < 4294967296) (_h2 : o < 4294967296) (hs : 1 ≤ s) (j : Nat) (hj : j < psize s + psize (o - 16)) :
    locGetP ((pform s ++ pform (o - 16)).take j) = (0, 0, 0, 4) := by
  unfold locGetP
  by_cases hk : j < psize s
  · rw [getP_cut s _ j hk]
    rfl
  · rw [getP_whole s (by omega) _ j (by omega)]
    simp only [ne_eq, not_true_eq_false, false_or]
    have e : ((pform s ++ pform (o - 16)).take j).drop (psize s) = (pform (o - 16) ++ []).take (j - psize s) := by
      rw [List.take_append, List.drop_append, List.append_nil, pform_len, List.drop_of_length_le (by rw [List.length_take, pform_len]; omega), List.nil_append, List.length_take, pform_len, Nat.min_eq_right (by omega), Nat.sub_self, List.drop_zero]
    rw [if_neg (by omega : ¬ s = 0), e, getP_cut (o - 16) [] _ (by omega)]
    rfl
theorem locGet_back (l : List UInt8) (h : (locGetP l).2.2.2 = 0) : locB [] (locGetP l).1 (locGetP l).2.1 = l.take (locGetP l).2.2.1 ∧ mayL (locGetP l).1 (locGetP l).2.1 = true ∧ (locGetP l).2.2.1 ≤ l.length := by
  have g1 := getP_any l
  have g2 := getP_any (l.drop (getP l).2.1)
  unfold locGetP at h ⊢
  by_cases c1 : (getP l).2.2 ≠ 0 ∨ (getP l).1 = 0
  · rw [if_pos c1] at h ⊢
    simp only at h ⊢
    have h0 : (getP l).1 = 0 := by rcases c1 with c | c; exact absurd h c; exact c
    rcases g1 with ⟨_, a2, _, a4⟩ | ⟨a1, _⟩
    · rw [h0] at a4
      exact ⟨by rw [← a4]; decide +kernel, by decide, a2⟩
    · omega
  · rw [if_neg c1] at h ⊢
    by_cases c2 : (getP (l.drop (getP l).2.1)).2.2 ≠ 0
    · rw [if_pos c2] at h
      exact absurd h c2
    · rw [if_neg c2] at h ⊢
      by_cases c3 : mayL (getP l).1 ((getP (l.drop (getP l).2.1)).1 + 16) = true
      · rw [if_pos c3]
        simp only
        rcases g1 with ⟨_, a2, _, a4⟩ | ⟨a1, _⟩
        · rcases g2 with ⟨_, b2, _, b4⟩ | ⟨b1, _⟩
          · have hn : noneB (getP l).1 ((getP (l.drop (getP l).2.1)).1 + 16) = false := by unfold noneB; simp
            refine ⟨?_, c3, ?_⟩
            · unfold locB
              rw [c3, hn]
              simp only [if_true, Bool.false_eq_true, if_false, List.nil_append]
              rw [Nat.add_sub_cancel, a4, b4, List.take_add]
            · rw [List.length_drop] at b2; omega
          · omega
        · omega
      · rw [if_neg c3] at h
        cases h
theorem pack_back {n : Nat} (h : mayL (n / 4294967296) (n % 4294967296) = true) : packN (n / 4294967296) (n % 4294967296) = n ∧ packE (n / 4294967296) (n % 4294967296) = 0 := by
  unfold packN packE
  rw [h]
  simp only [if_true, and_true]
  omega
end Go.Proofs.Ytohddbehcfoecaa
