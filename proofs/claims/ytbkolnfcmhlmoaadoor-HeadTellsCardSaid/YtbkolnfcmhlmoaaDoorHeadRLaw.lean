/- The document's head, plainly: what it tells is what the program tells. Plain Lean, no condition. -/
import Derived.Test.YtbkolnfcmhlmoaaDoorHeadR1
import Derived.Test.YtbkolnfcmhlmoaaDoorLeLaw
namespace Go.Proofs.YtbkolnfcmhlmoaaDoor

theorem headF_take {l : List UInt8} (h : 12 ≤ l.length) (hm : l.take 7 = magic) : headF (((l.getD 7 0).toNat : Nat) : Int) (numLE ((l.drop 8).take 4)) = l.take 12 := by
  obtain ⟨a0, a1, a2, a3, a4, a5, a6, a7, a8, a9, a10, a11, r, rfl⟩ : ∃ a0 a1 a2 a3 a4 a5 a6 a7 a8 a9 a10 a11 r, l = a0 :: a1 :: a2 :: a3 :: a4 :: a5 :: a6 :: a7 :: a8 :: a9 :: a10 :: a11 :: r := by
    match l, h with
    | a0 :: a1 :: a2 :: a3 :: a4 :: a5 :: a6 :: a7 :: a8 :: a9 :: a10 :: a11 :: r, _ => exact ⟨_, _, _, _, _, _, _, _, _, _, _, _, _, rfl⟩
  have e := le_numLE [a8, a9, a10, a11]
  simp only [List.length_cons, List.length_nil, Nat.zero_add, Nat.reduceAdd] at e
  unfold magic at hm
  simp at hm
  obtain ⟨rfl, rfl, rfl, rfl, rfl, rfl, rfl⟩ := hm
  unfold headF
  simp [e]
theorem headGet_long {l : List UInt8} (h : 16 ≤ l.length) : headGet l = if isH ((l.getD 7 0).toNat : Int) (numLE ((l.drop 8).take 4)) l then ((l.getD 7 0).toNat, numLE ((l.drop 8).take 4), 0) else (0, 0, 23) := by
  unfold headGet
  rw [if_neg (by omega)]
/-- the sum is wrong: bad -/
theorem headGet_wrong {l : List UInt8} (h : 16 ≤ l.length) (hr : (coverC ((l.take 16).take 12) == l.take 16) = false) : headGet l = (0, 0, 23) := by
  rcases headGet_cases l h with e | ⟨k, id, e⟩
  · exact e
  · exfalso
    have e2 : (l.take 16).take 12 = headF (k : Int) id := by
      rw [← e]
      unfold headB coverC
      rw [List.take_append_of_le_length (by rw [headF_len]; exact Nat.le_refl _), List.take_of_length_le (by rw [headF_len]; exact Nat.le_refl _)]
    rw [e2] at hr
    have e3 : coverC (headF (k : Int) id) = l.take 16 := e
    rw [e3] at hr
    simp at hr
/-- the letters are others: bad -/
theorem headGet_letters {l : List UInt8} (h : 16 ≤ l.length) (hr : (l.take 7 == magic) = false) : headGet l = (0, 0, 23) := by
  rcases headGet_cases l h with e | ⟨k, id, e⟩
  · exact e
  · exfalso
    have e2 : l.take 7 = magic := by
      have h3 : (l.take 16).take 7 = l.take 7 := by rw [List.take_take]; congr 1
      rw [← h3, ← e]
      unfold headB coverC headF magic
      simp
    rw [e2] at hr
    simp at hr
/-- the sum and the letters are right: a head just if kind and id may be -/
theorem headGet_right {l : List UInt8} (h : 16 ≤ l.length) (hr : (coverC ((l.take 16).take 12) == l.take 16) = true) (hm : (l.take 7 == magic) = true) :
    headGet l = if mayH ((l.getD 7 0).toNat : Int) (numLE ((l.drop 8).take 4)) then ((l.getD 7 0).toNat, numLE ((l.drop 8).take 4), 0) else (0, 0, 23) := by
  rw [headGet_long h]
  have e1 := headF_take (l := l) (by omega) (by simpa using hm)
  have e2 : (headB ((l.getD 7 0).toNat : Int) (numLE ((l.drop 8).take 4)) == l.take 16) = true := by
    unfold headB
    rw [e1]
    rw [List.take_take] at hr
    exact hr
  unfold isH
  rw [e2, Bool.and_true]
end Go.Proofs.YtbkolnfcmhlmoaaDoor
