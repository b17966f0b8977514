/- Heads, plainly: what was put is told; with bits turned it is bad. Plain Lean, no condition. -/
import Derived.Test.YtfapipamohlniaaDoorHead2
namespace Go.Proofs.YtfapipamohlniaaDoor

theorem numLE_le4 {id : Nat} (h : id < 4294967296) : numLE (le id 4) = id := by
  simp [le, List.range_succ, numLE, UInt8.toNat_ofNat']
  omega
theorem headGet_put {k id : Nat} (hm : mayH (k : Int) id = true) (r : List UInt8) : headGet (headB (k : Int) id ++ r) = (k, id, 0) := by
  have hk : (k = 1 ∨ k = 2) ∧ id < 16777216 := by unfold mayH at hm; simp only [decide_eq_true_eq] at hm; omega
  have hl := headB_len (k : Int) id
  have hF := headF_len (k : Int) id
  have e1 : headB (k : Int) id ++ r = [104, 111, 117, 114, 98, 107, 49, UInt8.ofNat k] ++ (le id 4 ++ (laidC (sumC (headF (k : Int) id)) ++ r)) := by
    unfold headB coverC headF
    simp
  have e7 : (headB (k : Int) id ++ r).getD 7 0 = UInt8.ofNat k := by rw [e1]; rfl
  have e8 : ((headB (k : Int) id ++ r).drop 8).take 4 = le id 4 := by
    rw [e1]
    show (List.take 4 (le id 4 ++ _)) = _
    rw [List.take_append_of_le_length (by simp [le_len]), List.take_of_length_le (by simp [le_len])]
  have ek : (UInt8.ofNat k).toNat = k := by rw [UInt8.toNat_ofNat']; omega
  unfold headGet isH
  rw [if_neg (by rw [List.length_append, hl]; omega), e7, e8, ek, numLE_le4 (by omega), hm, List.take_append_of_le_length (by omega), List.take_of_length_le (by omega)]
  simp
theorem headGet_short {l : List UInt8} (h : l.length < 16) : headGet l = (0, 0, 22) := by unfold headGet; rw [if_pos h]
theorem headGet_cases (l : List UInt8) (h : 16 ≤ l.length) : headGet l = (0, 0, 23) ∨ ∃ k id : Nat, headB (k : Int) id = l.take 16 := by
  unfold headGet
  rw [if_neg (by omega)]
  split
  · rename_i h2
    unfold isH at h2
    rw [Bool.and_eq_true, beq_iff_eq] at h2
    exact .inr ⟨_, _, h2.2⟩
  · exact .inl rfl
/-- bits turned within a head: bad -/
theorem headGet_turned {k id : Nat} (l : List UInt8) (h : 16 ≤ l.length) (m p : Nat) (hm : m < 4294967296) (h0 : m ≠ 0) (hp : p ≤ 128) (hx : numL (l.take 16) = numL (headB (k : Int) id) ^^^ (m * 2 ^ p)) : headGet l = (0, 0, 23) := by
  rcases headGet_cases l h with e | ⟨k', id', e⟩
  · exact e
  · refine absurd ?_ (turned (headB (k : Int) id) (l.take 16) (by rw [headB_len, List.length_take]; omega) m p hm h0 (by rw [headB_len]; omega) hx 4294967295)
    rw [← e]
    exact (cover_rest _).trans (cover_rest _).symm
theorem headGet_vals (l : List UInt8) : ((headGet l).2.2 = 22 ∧ l.length < 16) ∨ ((headGet l).2.2 = 23 ∧ (headGet l).1 = 0 ∧ (headGet l).2.1 = 0) ∨ (headGet l).2.2 = 0 := by
  unfold headGet
  split
  · rename_i h; exact .inl ⟨rfl, h⟩
  · split
    · exact .inr (.inr rfl)
    · exact .inr (.inl ⟨rfl, rfl, rfl⟩)
end Go.Proofs.YtfapipamohlniaaDoor
