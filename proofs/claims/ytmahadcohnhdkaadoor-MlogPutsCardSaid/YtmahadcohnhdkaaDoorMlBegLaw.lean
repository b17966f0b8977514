/- Where a cut lies among frames, plainly. -/
import Derived.Test.YtmahadcohnhdkaaDoorMlLaw
namespace Go.Proofs.YtmahadcohnhdkaaDoor

/-- how many bytes the first j frames have, with the file's head -/
def endD (D : List Ed) (j : Nat) : Nat := (bytesM (D.take j)).length
theorem endD_eq (D : List Ed) (j : Nat) : endD D j = 16 + ((D.take j).flatMap frameB).length := bytesM_len _
theorem begL_cut : ∀ (D : List Ed) (k M : Nat), k ≤ (D.flatMap frameB).length → M ≤ D.length → ((D.take M).flatMap frameB).length ≤ k → (M = D.length ∨ k < ((D.take (M + 1)).flatMap frameB).length) →
    begL D k = (D.take M, ((D.take M).flatMap frameB).length, if k = ((D.take M).flatMap frameB).length then 0 else 22)
  | [], k, M, hk, hM, _, _ => by
    have hM : M = 0 := by simpa using hM
    have hk : k = 0 := by simpa using hk
    subst hM hk
    rfl
  | d :: r, k, M, hk, hM, h1, h2 => by
    have hfl := frameB_len d
    rw [begL_cons]
    rw [List.flatMap_cons, List.length_append] at hk
    cases M with
    | zero =>
      have h2 : k < (frameB d).length := by
        rcases h2 with h2 | h2
        · simp at h2
        · simpa using h2
      by_cases h0 : k = 0
      · rw [if_pos h0]; simp [h0]
      · rw [if_neg h0, if_neg (by omega)]; simp [h0]
    | succ m =>
      rw [List.take_succ_cons, List.flatMap_cons, List.length_append] at h1
      rw [List.length_cons] at hM
      have h2 : m = r.length ∨ k - (frameB d).length < ((r.take (m + 1)).flatMap frameB).length := by
        rcases h2 with h2 | h2
        · left; rw [List.length_cons] at h2; omega
        · right; rw [List.take_succ_cons, List.flatMap_cons, List.length_append] at h2; omega
      rw [if_neg (by omega), if_pos (by omega), begL_cut r (k - (frameB d).length) m (by omega) (by omega) (by omega) h2, List.take_succ_cons, List.flatMap_cons, List.length_append]
      dsimp only
      congr 2
      by_cases he : k - (frameB d).length = ((r.take m).flatMap frameB).length
      · rw [if_pos he, if_pos (by omega)]
      · rw [if_neg he, if_neg (by omega)]
/-- a manifest's bytes, cut at k: M is how many frames are whole -/
theorem replay_cut {D : List Ed} (h : ∀ d ∈ D, d.fits ∧ mayEd d = true) {k M : Nat} (hk : k ≤ (bytesM D).length) (hM : M ≤ D.length) (h1 : M = 0 ∨ endD D M ≤ k) (h2 : M = D.length ∨ k < endD D (M + 1)) :
    replayM ((bytesM D).take k) = (D.take M, (if k < 16 then 0 else endD D M), if k = endD D M then 0 else 22) := by
  have e0 := endD_eq D M
  have e1 := endD_eq D (M + 1)
  by_cases h16 : k < 16
  · have hM0 : M = 0 := by omega
    subst hM0
    rw [replay_short h16, if_pos h16, if_neg (by omega), List.take_zero]
  · have h1 : ((D.take M).flatMap frameB).length ≤ k - 16 := by
      rcases h1 with h1 | h1
      · subst h1; simp
      · omega
    have hk' := hk
    rw [bytesM_len] at hk'
    rw [replay_begin h hk (by omega), begL_cut D (k - 16) M (by omega) hM h1 (by omega), if_neg h16]
    dsimp only
    rw [e0]
    congr 2
    by_cases he : k - 16 = ((D.take M).flatMap frameB).length
    · rw [if_pos he, if_pos (by omega)]
    · rw [if_neg he, if_neg (by omega)]
/-- the bytes of the first frames are a beginning of all -/
theorem bytesM_take (D : List Ed) (M : Nat) : (bytesM D).take (endD D M) = bytesM (D.take M) := by
  have : bytesM D = bytesM (D.take M) ++ (D.drop M).flatMap frameB := by
    unfold bytesM
    rw [List.append_assoc, ← List.flatMap_append, List.take_append_drop]
  rw [this]
  exact List.take_left
theorem endD_le (D : List Ed) (M : Nat) : endD D M ≤ (bytesM D).length := by
  rw [← List.take_append_drop M D, bytesM_len, List.flatMap_append, List.length_append, endD_eq, List.take_append_drop]
  omega
end Go.Proofs.YtmahadcohnhdkaaDoor
