/- Locs, plainly: the order of their numbers and of their bytes. Plain Lean, no condition. -/
import Derived.Test.YtohddbehcfoecaaLoc2
import Derived.Test.YtohddbehcfoecaaOrdLaw
import Derived.Test.YtohddbehcfoecaaCmpLaw
import Derived.Test.YtohddbehcfoecaaBackLaw
namespace Go.Proofs.Ytohddbehcfoecaa

theorem cmp_pre : ∀ (a b u v : List UInt8), a.isPrefixOf b = false → b.isPrefixOf a = false → Lib.compareBytes (a ++ u) (b ++ v) = Lib.compareBytes a b
  | [], b, _, _, h, _ => by simp at h
  | _ :: _, [], _, _, _, h => by simp at h
  | x :: a, y :: b, u, v, h, h' => by
    simp only [List.cons_append, Lib.compareBytes]
    by_cases hxy : x = y
    · subst hxy
      rw [cmp_pre a b u v (by simpa [List.isPrefixOf] using h) (by simpa [List.isPrefixOf] using h')]
    · have h1 : x < y ∨ y < x := by
        rcases Nat.lt_trichotomy x.toNat y.toNat with h | h | h
        · exact .inl (UInt8.lt_iff_toNat_lt.2 h)
        · exact absurd (UInt8.toNat_inj.1 h) hxy
        · exact .inr (UInt8.lt_iff_toNat_lt.2 h)
      rcases h1 with h1 | h1
      · rw [if_pos h1, if_pos h1]
      · have : ¬ x < y := by rw [UInt8.lt_iff_toNat_lt] at *; omega
        rw [if_neg this, if_pos h1, if_neg this, if_pos h1]
theorem cmpN_form {a b : Nat} (ha : a < 18446744073709551616) (hb : b < 18446744073709551616) : Lib.compareBytes (pform a) (pform b) = cmpN a b := pform_cmp ha hb
theorem loc_cmp {s t s' t' : Nat} (h1 : s < 18446744073709551616) (h2 : t < 18446744073709551616) (h3 : s' < 18446744073709551616) (h4 : t' < 18446744073709551616) :
    Lib.compareBytes (pform s ++ pform t) (pform s' ++ pform t') = orI (cmpN s s') (cmpN t t') := by
  by_cases h : s = s'
  · subst h
    rw [cmp_ahead, cmpN_form h2 h4]
    simp [orI, cmpN]
  · rw [cmp_pre _ _ _ _ (pform_no h1 h3 h) (pform_no h3 h1 (Ne.symm h)), cmpN_form h1 h3]
    unfold orI
    rw [if_neg]
    unfold cmpN
    split
    · decide
    · rw [if_pos (by omega)]; decide
theorem cmpN_add (a b k : Nat) : cmpN (a + k) (b + k) = cmpN a b := by unfold cmpN; simp
theorem cmpL_vals (s o s' o' : Nat) : (cmpL s o s' o' = -1 ∧ (s < s' ∨ s = s' ∧ o < o')) ∨ (cmpL s o s' o' = 0 ∧ s = s' ∧ o = o') ∨ (cmpL s o s' o' = 1 ∧ (s' < s ∨ s = s' ∧ o' < o)) := by
  unfold cmpL orI cmpN
  rcases Nat.lt_trichotomy s s' with h | h | h
  · rw [if_pos h]; left; exact ⟨by simp, .inl h⟩
  · subst h
    rcases Nat.lt_trichotomy o o' with g | g | g
    · left; rw [if_pos g]; exact ⟨by simp, .inr ⟨rfl, g⟩⟩
    · subst g; right; left; simp
    · right; right; rw [if_neg (by omega : ¬ o < o'), if_pos g]; exact ⟨by simp, .inr ⟨rfl, g⟩⟩
  · rw [if_neg (by omega : ¬ s < s'), if_pos h]; right; right; exact ⟨by simp, .inl h⟩
theorem cmpL_back (s o s' o' : Nat) : cmpL s' o' s o = -cmpL s o s' o' := by
  have h1 := cmpL_vals s o s' o'
  have h2 := cmpL_vals s' o' s o
  omega
theorem cmpL_none (s o : Nat) (h : 1 ≤ s) : cmpL 0 0 s o = -1 := by
  have := cmpL_vals 0 0 s o
  omega
theorem none_ahead (s t : Nat) (h : 1 ≤ s) (h1 : s < 18446744073709551616) : Lib.compareBytes (pform 0) (pform s ++ pform t) = -1 := by
  have e := cmp_pre (pform 0) (pform s) [] (pform t) (pform_no (by decide) h1 (by omega)) (pform_no h1 (by decide) (by omega))
  rw [List.append_nil] at e
  rw [e, cmpN_form (by decide) h1]
  unfold cmpN
  rw [if_pos (by omega)]

/-- a loc brought to one at which a record can stand -/
def brS (s : Nat) : Nat := 1 + s % 16777215
def brO (o : Nat) : Nat := 16 + o % 16777201
theorem br_may (s o : Nat) : mayL (brS s) (brO o) = true ∧ noneB (brS s) (brO o) = false ∧ 1 ≤ brS s ∧ brS s ≤ 16777215 ∧ 16 ≤ brO o ∧ brO o ≤ 16777216 := by
  unfold mayL noneB standsB brS brO
  refine ⟨?_, ?_, ?_⟩
  · simp only [Bool.or_eq_true, decide_eq_true_eq]; omega
  · simp only [decide_eq_false_iff_not]; omega
  · omega
end Go.Proofs.Ytohddbehcfoecaa
