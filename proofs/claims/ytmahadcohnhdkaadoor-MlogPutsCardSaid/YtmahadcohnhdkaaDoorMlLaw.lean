/- Frames, plainly: what was put is told; a beginning tells the frames that are whole. Plain laws. -/
import Derived.Test.YtmahadcohnhdkaaDoorMl4
import Derived.Test.YtmahadcohnhdkaaDoorEdRd
namespace Go.Proofs.YtmahadcohnhdkaaDoor

section
variable {d : Ed}
theorem frame_parts (d : Ed) : frameB d = coverC (le (edB d).length 4) ++ (edB d ++ laidC (sumC (coverC (le (edB d).length 4) ++ edB d))) := by
  unfold frameB
  rw [show coverC (coverC (le (edB d).length 4) ++ edB d) = (coverC (le (edB d).length 4) ++ edB d) ++ laidC (sumC (coverC (le (edB d).length 4) ++ edB d)) from rfl, List.append_assoc]
theorem head8_len (d : Ed) : (coverC (le (edB d).length 4)).length = 8 := by rw [coverC_len, le_len]
/-- bytes that begin with a frame's head -/
theorem frGet_head {d : Ed} (hm : mayEd d = true) {l r : List UInt8} (h : l = coverC (le (edB d).length 4) ++ r) :
    frGet l = if l.length < 12 + (edB d).length then (Ed.none, 0, 22)
      else if (coverC ((l.take (12 + (edB d).length)).take (12 + (edB d).length - 4)) == l.take (12 + (edB d).length)) = false then (Ed.none, 0, 23)
      else if (getE ((l.take (8 + (edB d).length)).drop 8)).2 = 0 then ((getE ((l.take (8 + (edB d).length)).drop 8)).1, 12 + (edB d).length, 0) else (Ed.none, 0, 23) := by
  have h8 := head8_len d
  have hL := edB_short hm
  have t8 : l.take 8 = coverC (le (edB d).length 4) := by rw [h, List.take_append_of_le_length (by omega), List.take_of_length_le (by omega)]
  have t4 : l.take 4 = le (edB d).length 4 := by
    rw [show l.take 4 = (l.take 8).take 4 by rw [List.take_take]; rfl, t8]
    unfold coverC
    rw [List.take_append_of_le_length (by rw [le_len]; omega), List.take_of_length_le (by rw [le_len]; omega)]
  have hx : numLE (l.take 4) = (edB d).length := by rw [t4]; exact numLE_le4 (by omega)
  have hl8 : ¬ l.length < 8 := by rw [h, List.length_append]; omega
  have hc : ¬ ((coverC ((l.take 8).take (8 - 4)) == l.take 8) = false ∨ 65536 < numLE (l.take 4)) := by
    rw [show (l.take 8).take (8 - 4) = l.take 4 by rw [List.take_take]; rfl, t4, t8, ← t4, hx]
    intro hh
    rcases hh with hh | hh
    · simp at hh
    · omega
  unfold frGet
  rw [if_neg hl8, if_neg hc, hx]
theorem frGet_put (hd : d.fits) (hm : mayEd d = true) (r : List UInt8) : frGet (frameB d ++ r) = (d, (frameB d).length, 0) := by
  have hfl := frameB_len d
  have h8 := head8_len d
  have h12 : (frameB d ++ r).take (12 + (edB d).length) = frameB d := by rw [List.take_append_of_le_length (by omega), List.take_of_length_le (by omega)]
  have hcov : frameB d = coverC (coverC (le (edB d).length 4) ++ edB d) := rfl
  have t8L : (frameB d ++ r).take (8 + (edB d).length) = coverC (le (edB d).length 4) ++ edB d := by
    rw [frame_parts, List.append_assoc, List.append_assoc, ← List.append_assoc, List.take_append_of_le_length (by rw [List.length_append]; omega), List.take_of_length_le (by rw [List.length_append]; omega)]
  have t8 : (frameB d).take (12 + (edB d).length - 4) = coverC (le (edB d).length 4) ++ edB d := by
    have := t8L
    rw [List.take_append_of_le_length (by omega)] at this
    rw [show 12 + (edB d).length - 4 = 8 + (edB d).length by omega]
    exact this
  rw [frGet_head hm (r := (edB d ++ laidC (sumC (coverC (le (edB d).length 4) ++ edB d))) ++ r) (by rw [frame_parts, List.append_assoc]), if_neg (by rw [List.length_append]; omega), h12, t8, ← hcov]
  rw [if_neg (by simp), t8L, List.drop_append_of_le_length (by omega), List.drop_of_length_le (by omega), List.nil_append]
  have hg : getE (edB d) = (d, 0) := by unfold getE; rw [rdEd_put hd hm]
  rw [hg, if_pos rfl, hfl]
theorem frGet_short (hm : mayEd d = true) {k : Nat} (hk : k < (frameB d).length) : frGet ((frameB d).take k) = (Ed.none, 0, 22) := by
  have hfl := frameB_len d
  have h8 := head8_len d
  have hlen : ((frameB d).take k).length = k := by rw [List.length_take]; omega
  rcases Nat.lt_or_ge k 8 with h | h
  · unfold frGet
    rw [if_pos (by omega)]
  · rw [frGet_head hm (r := (edB d ++ laidC (sumC (coverC (le (edB d).length 4) ++ edB d))).take (k - 8)) (by rw [frame_parts, List.take_append, h8, List.take_of_length_le (by omega)]), if_pos (by omega)]
end
/-- what a beginning of frames tells -/
def begL : List Ed → Nat → List Ed × Nat × Nat
  | [], _ => ([], 0, 0)
  | d :: r, k => if k = 0 then ([], 0, 0) else if (frameB d).length ≤ k then (d :: (begL r (k - (frameB d).length)).1, (frameB d).length + (begL r (k - (frameB d).length)).2.1, (begL r (k - (frameB d).length)).2.2) else ([], 0, 22)
theorem begL_cons (d : Ed) (r : List Ed) (k : Nat) : begL (d :: r) k = if k = 0 then ([], 0, 0) else if (frameB d).length ≤ k then (d :: (begL r (k - (frameB d).length)).1, (frameB d).length + (begL r (k - (frameB d).length)).2.1, (begL r (k - (frameB d).length)).2.2) else ([], 0, 22) := rfl
theorem repL_begin : ∀ (l : List Ed) (k f : Nat), (∀ d ∈ l, d.fits ∧ mayEd d = true) → k ≤ (l.flatMap frameB).length → k ≤ f → repL f ((l.flatMap frameB).take k) = begL l k
  | [], k, f, _, hk, _ => by
    have : k = 0 := by simpa using hk
    subst this
    cases f with
    | zero => rfl
    | succ f => rfl
  | d :: r, k, f, h, hk, hf => by
    rcases Nat.eq_zero_or_pos k with h0 | h0
    · subst h0
      rw [List.take_zero]
      unfold begL
      rw [if_pos rfl]
      cases f with
      | zero => rfl
      | succ f => rfl
    · obtain ⟨f, rfl⟩ : ∃ f', f = f' + 1 := ⟨f - 1, by omega⟩
      have hd := h d (by simp)
      have hfl := frameB_len d
      rw [List.flatMap_cons, List.length_append] at hk
      have hlen : ((frameB d ++ r.flatMap frameB).take k).length = k := by rw [List.length_take, List.length_append]; omega
      rw [repL_succ, List.flatMap_cons, if_neg (show ¬ ((frameB d ++ r.flatMap frameB).take k).length = 0 by omega), begL_cons, if_neg (show ¬ k = 0 by omega)]
      by_cases hle : (frameB d).length ≤ k
      · rw [if_pos hle]
        have ht : (frameB d ++ r.flatMap frameB).take k = frameB d ++ (r.flatMap frameB).take (k - (frameB d).length) := by rw [List.take_append, List.take_of_length_le hle]
        rw [ht, frGet_put hd.1 hd.2, if_pos rfl]
        dsimp only
        rw [List.drop_left, repL_begin r (k - (frameB d).length) f (fun x hx => h x (by simp [hx])) (by omega) (by omega)]
      · rw [if_neg hle]
        have ht : (frameB d ++ r.flatMap frameB).take k = (frameB d).take k := List.take_append_of_le_length (by omega)
        rw [ht, frGet_short hd.2 (by omega), if_neg (by decide)]
theorem bytesM_len (l : List Ed) : (bytesM l).length = 16 + (l.flatMap frameB).length := by unfold bytesM; rw [List.length_append, headB_len]
/-- a beginning of a manifest's bytes -/
theorem replay_begin {l : List Ed} (h : ∀ d ∈ l, d.fits ∧ mayEd d = true) {k : Nat} (hk : k ≤ (bytesM l).length) (h16 : 16 ≤ k) : replayM ((bytesM l).take k) = ((begL l (k - 16)).1, 16 + (begL l (k - 16)).2.1, (begL l (k - 16)).2.2) := by
  rw [bytesM_len] at hk
  have hlen : ((bytesM l).take k).length = k := by rw [List.length_take, bytesM_len]; omega
  have hh := headB_len 2 0
  have ht : (bytesM l).take k = headB 2 0 ++ (l.flatMap frameB).take (k - 16) := by
    unfold bytesM
    rw [List.take_append, List.take_of_length_le (by omega), hh]
  have hck : chkH ((bytesM l).take k) 2 0 = 0 := by
    unfold chkH
    have : headGet ((bytesM l).take k) = (2, 0, 0) := by
      rw [ht]
      exact headGet_put (k := 2) (id := 0) (by decide) _
    rw [this]
    rfl
  unfold replayM
  rw [if_pos hck, hlen]
  have hdr : ((bytesM l).take k).drop 16 = (l.flatMap frameB).take (k - 16) := by rw [ht, List.drop_append_of_le_length (by omega), List.drop_of_length_le (by omega), List.nil_append]
  rw [hdr, repL_begin l (k - 16) k h (by omega) (by omega)]
theorem replay_short {l : List Ed} {k : Nat} (h16 : k < 16) : replayM ((bytesM l).take k) = ([], 0, 22) := by
  have hlen : ((bytesM l).take k).length < 16 := by rw [List.length_take]; omega
  have hck : chkH ((bytesM l).take k) 2 0 = 22 := by
    unfold chkH
    rw [headGet_short hlen]
    rfl
  unfold replayM
  rw [hck, if_neg (by decide)]
end Go.Proofs.YtmahadcohnhdkaaDoor
