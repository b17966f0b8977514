/- A record's run with bits turned: what is told of it. Plain Lean, no condition. -/
import Derived.Test.YtlnidmjnomoddaaDoorFlip
import Derived.Test.YtlnidmjnomoddaaDoorRecLaw
namespace Go.Proofs.YtlnidmjnomoddaaDoor
open Go.RowKit

theorem flip_getS {q kd : Nat} {a b : List UInt8} {s o : Nat} {l R T : List UInt8} {M f k L : Nat} (hm : mayR q (kd : Int) a.length b.length s o = true) (hR : R = runR q kd a b s o) (hL : R.length = L) (h : Flip l R M f k) (hM : M % 2 = 1) (hMl : M < 4294967296) (hk1 : 1 ≤ k) (hf : f + k ≤ 8 * L) :
    getS (l ++ T) = (if f < 168 then 0 else L, 23) := by
  have hll : l.length = R.length := h.len
  have hrl := runR_len q kd a b s o
  rw [← hR, hL] at hrl
  have ho := odd_mod hM hk1
  have hmm : M % 2 ^ k < 4294967296 := Nat.lt_of_le_of_lt (Nat.mod_le _ _) hMl
  have hx := h.num
  generalize M % 2 ^ k = m at *
  by_cases hf2 : f < 168
  · rw [if_pos hf2]
    have ht := numL_turn R l 21 (by omega) hll m f (by omega) hx
    have ho2 := odd_mod ho (show 1 ≤ 8 * 21 - f by omega)
    have hr : rightL (R.take 21) = true := by rw [hR, run_head]; exact rightL_cover _
    have hw := rightL_turned (a := R.take 21) (b := l.take 21) (by rw [List.length_take]; omega) (by rw [List.length_take, List.length_take, hll]) hr _ f (Nat.lt_of_le_of_lt (Nat.mod_le _ _) hmm) (by omega) (by rw [List.length_take]; omega) ht
    exact getS_bad (by rw [List.length_append]; omega) (by rw [List.take_append_of_le_length (by omega)]; exact hw)
  · rw [if_neg hf2]
    have ht := numL_same R l 21 (by omega) hll m f (by omega) hx
    have hr : rightL R = true := by rw [hR]; unfold runR; exact rightL_cover _
    have hw := rightL_turned (a := R) (b := l) (by omega) hll.symm hr m f hmm (by omega) (by omega) hx
    have h21 : (l ++ T).take 21 = headC q kd a.length b.length s o := by rw [List.take_append_of_le_length (by omega), ht, hR, run_head]
    rw [getS_head hm (by rw [List.length_append]; omega) h21, if_neg (by rw [List.length_append]; omega), ← hrl, List.take_append_of_le_length (by omega), List.take_of_length_le (by omega), hw]
    simp
end Go.Proofs.YtlnidmjnomoddaaDoor
