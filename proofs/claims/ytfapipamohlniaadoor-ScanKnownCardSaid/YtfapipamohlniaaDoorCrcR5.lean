/- The document's answer, chapter 02: Cover. -/
import Derived.Test.YtfapipamohlniaaDoorCrcR4
namespace Go.Proofs.YtfapipamohlniaaDoor
open Go.RowKit

theorem laidC_snoc (S j : Nat) (hj : j < 4) : (laidC S).take (j + 1) = (laidC S).take j ++ [UInt8.ofNat (S / 256 ^ j)] := by
  have hc : j = 0 ∨ j = 1 ∨ j = 2 ∨ j = 3 := by omega
  rcases hc with rfl | rfl | rfl | rfl <;> simp [laidC]
set_option maxHeartbeats 1000000 in
theorem rcover_any (l : List UInt8) (A : Option Addr) (n c : Nat) (w : World) (hn : n ≤ 1000000000000) (h : Rd w w.heap.size 1 A n (bcells l)) :
    Calls Tryd.prog 31 #[.slice A n c] w (RetOwn w 5 1 (n + 4) (bcells (coverC l))) := by
  have o0 : w.ownsRow w.heap.size 5 1 (.slice none 0 0) 0 [] := World.ownsRow_nil _ _ _ _
  have HS := fun W h => Lib.hid (rsum_any l A n c W hn h)
  have hSl := sumC_lt l
  have HC := Lib.hid (show coverC l = l ++ laidC (sumC l) from rfl)
  generalize sumC l = S at *
  go_enter Tryd.func31, Tryd.ntmps31
  go_wp2_with (at_builtin; refine wpList_app eltU8 rfl (.tmp 6) (.tmp 7) rfl rfl o0 rfl h (bcells_one _) (by omega) (by unfold maxLen; omega) (Below.refl _ _) (Nat.le_refl _) ?_; intro v2 w2 o2 b2 x1 x2; clear x1 x2)
  rw [Nat.zero_add, List.nil_append] at o2
  refine (HS _ (h.after b2)).out.mono ?_
  rintro e w3 ⟨rfl, b3⟩
  have o3 : Ow _ _ _ _ _ _ _ := Ow.after o2 b3
  have hb := belowGo b2 b3
  have o3 : w3.ownsRow w.heap.size 5 1 v2 (n + 0) (bcells (l ++ (laidC S).take 0)) := by rw [List.take_zero, List.append_nil]; exact o3
  have hS0 : S / 256 ^ 0 = S := by simp
  have H0 := Lib.hid hS0
  clear HS o2 b2 b3 o0 h hS0
  go_wp2_with fail
  go_loopw [3, 4, 5] (fun v s i wr => ∃ j : Nat, j ≤ 4 ∧ i = .int .i64 (j : Int) ∧ s = .int .u32 ((S / 256 ^ j : Nat) : Int) ∧ wr.ownsRow w.heap.size 5 1 v (n + j) (bcells (l ++ (laidC S).take j)) ∧ Below w.heap.size w wr) (fun _ _ i _ => 4 - (intOf i).toNat)
  case atStart => exact ⟨0, by omega, rfl, by rw [H0.out], o3, hb⟩
  case round =>
    clear o3 hb
    obtain ⟨j, hj, rfl, rfl, ho, hb⟩ := hrel
    have hs := hb.size
    by_cases hlt : j < 4
    · have HL := Lib.hid (laidC_snoc S j hlt)
      obtain ⟨y, hy⟩ : ∃ y, y = S / 256 ^ j := ⟨_, rfl⟩
      have hyl : y < 4294967296 := by rw [hy]; exact Nat.lt_of_le_of_lt (Nat.div_le_self _ _) hSl
      have HY := Lib.hid (show y / 256 = S / 256 ^ (j + 1) by rw [hy, Nat.pow_succ, Nat.div_div_eq_div_mul])
      have HB := Lib.hid (show ((UInt8.ofNat y).toNat : Int) = (y : Int) % 256 by rw [UInt8.toNat_ofNat']; omega)
      rw [← hy] at HL ⊢
      clear hy
      go_wp2_with (at_builtin; refine wpList_push eltU8 rfl (.tmp 15) (.tmp 19) rfl (W := wr) rfl ho rfl rfl (by simp [Value.oneCell']) (by omega) (by unfold maxLen; omega) hb hs ?_; intro v' w' hown' hb' x1 x2; clear x1 x2)
      go_roundw
      case rel =>
        refine ⟨j + 1, by omega, by go_num, by rw [← HY.out]; go_num, ?_, hb'⟩
        rw [HL.out, ← List.append_assoc, bcells_append]
        simp only [bcells, List.map_cons, List.map_nil, HB.out] at hown' ⊢
        exact hown'
      case measure => simp [intOf]; omega
    · obtain rfl : j = 4 := by omega
      rw [List.take_of_length_le (by rw [laidC_len]; exact Nat.le_refl _), ← HC.out] at ho
      go_wp2_with fail
      go_ret
      exact ⟨_, rfl, ho, hb⟩
end Go.Proofs.YtfapipamohlniaaDoor
