/- What prefix.Put comes to. For every number and bytes. -/
import Derived.Test.YtohddbehcfoecaaPre1
namespace Go.Proofs.Ytohddbehcfoecaa
open Go.RowKit

def be (m k : Nat) : List UInt8 := (List.range k).map fun i => UInt8.ofNat (m / 2 ^ (8 * (k - 1 - i)))
theorem be_len (m k : Nat) : (be m k).length = k := by simp [be]
theorem be_take_succ (m : Nat) {k i : Nat} (hi : i < k) : (be m k).take (i + 1) = (be m k).take i ++ [UInt8.ofNat (m / 2 ^ (8 * (k - 1 - i)))] := by
  rw [List.take_succ_eq_append_getElem (by rw [be_len]; exact hi)]
  simp [be]
def pword (x : Nat) : Nat := if psize x = 9 then x else x + (256 - 2 ^ (9 - psize x)) * 256 ^ (psize x - 1)
def phead (x : Nat) : List UInt8 := if psize x = 9 then [255] else []
def pform (x : Nat) : List UInt8 := phead x ++ be (pword x) (min (psize x) 8)
theorem pform_len (x : Nat) : (pform x).length = psize x := by
  have := psize_le x
  unfold pform phead
  split <;> simp [be_len] <;> omega
theorem psize_cases (x : Nat) : (psize x = 1 ∧ x < 128) ∨ (psize x = 2 ∧ 128 ≤ x ∧ x < 16384) ∨ (psize x = 3 ∧ 16384 ≤ x ∧ x < 2097152) ∨ (psize x = 4 ∧ 2097152 ≤ x ∧ x < 268435456) ∨ (psize x = 5 ∧ 268435456 ≤ x ∧ x < 34359738368) ∨ (psize x = 6 ∧ 34359738368 ≤ x ∧ x < 4398046511104) ∨ (psize x = 7 ∧ 4398046511104 ≤ x ∧ x < 562949953421312) ∨ (psize x = 8 ∧ 562949953421312 ≤ x ∧ x < 72057594037927936) ∨ (psize x = 9 ∧ 72057594037927936 ≤ x) := by
  unfold psize; (repeat' split) <;> omega
theorem pword_lt (x : Nat) (hx : x < 18446744073709551616) : pword x < 18446744073709551616 := by
  unfold pword
  rcases psize_cases x with ⟨e, h⟩ | ⟨e, h⟩ | ⟨e, h⟩ | ⟨e, h⟩ | ⟨e, h⟩ | ⟨e, h⟩ | ⟨e, h⟩ | ⟨e, h⟩ | ⟨e, h⟩ <;> rw [e] <;> simp <;> omega
theorem pword_or (x : Nat) (h9 : psize x ≠ 9) : bits BinOp.or IntKind.u64 (x : Int) (IntKind.u64.wrap (255 * 2 ^ (9 - psize x) % 256 * 2 ^ (8 * (psize x - 1)))) = (pword x : Int) := by
  unfold pword
  rw [if_neg h9]
  rcases psize_cases x with ⟨e, h⟩ | ⟨e, h⟩ | ⟨e, h⟩ | ⟨e, h⟩ | ⟨e, h⟩ | ⟨e, h⟩ | ⟨e, h⟩ | ⟨e, h⟩ | ⟨e, h⟩
  all_goals first
    | exact absurd e h9
    | (rw [e]
       rw [IntKind.wrap_u64]
       simp only [Nat.reduceSub, Nat.reduceMul, Int.reducePow, Int.reduceMul, Int.reduceMod, Nat.reducePow]
       first
         | (rw [bits_join_low .u64 64 (by decide) wraps_u64 7] <;> omega)
         | (rw [bits_join_low .u64 64 (by decide) wraps_u64 14] <;> omega)
         | (rw [bits_join_low .u64 64 (by decide) wraps_u64 21] <;> omega)
         | (rw [bits_join_low .u64 64 (by decide) wraps_u64 28] <;> omega)
         | (rw [bits_join_low .u64 64 (by decide) wraps_u64 35] <;> omega)
         | (rw [bits_join_low .u64 64 (by decide) wraps_u64 42] <;> omega)
         | (rw [bits_join_low .u64 64 (by decide) wraps_u64 49] <;> omega)
         | (rw [bits_join_low .u64 64 (by decide) wraps_u64 56] <;> omega))
theorem byte_of (m s : Nat) : ((UInt8.ofNat (m / 2 ^ s)).toNat : Int) = (m : Int) / 2 ^ s % 256 := by
  simp

theorem put_any (a : List UInt8) (A : Option Addr) (n c : Nat) (x : Nat) (hx : x < 18446744073709551616) (w : World) (h : Rd w w.heap.size 1 A n (bcells a)) (hn : n + 9 ≤ 140737488355328) :
    Calls Try.prog 41 #[.slice A n c, .int .u64 (x : Int)] w (RetOwn w 5 1 (n + psize x) (bcells (a ++ pform x))) := by
  have HS := Lib.hid (size_any x hx w)
  have HC := Lib.hid (clone_any a A n c w h (by omega))
  have hk1 := psize_pos x
  have hk9 := psize_le x
  obtain ⟨k, hk⟩ : ∃ k, k = psize x := ⟨_, rfl⟩
  rw [← hk] at HS hk1 hk9 ⊢
  have HK := Lib.hid hk
  clear hk
  go_enter Try.func41, Try.ntmps41
  go_wp2_with fail
  refine HS.out.mono ?_
  rintro e w1 ⟨rfl, rfl⟩
  go_wp2_with fail
  refine HC.out.mono ?_
  rintro e w1 ⟨v, rfl, hown, hbel⟩
  have hs1 := hbel.size
  clear HC h HS
  have e8 : ((8 : Nat) : Int) = 8 := rfl
  obtain ⟨kk, hkk⟩ : ∃ kk, kk = min k 8 := ⟨_, rfl⟩
  have hmin : min (k : Int) 8 = (kk : Int) := by omega
  have HKK := Lib.hid hkk
  clear hkk
  by_cases h9 : k = 9
  · subst h9
    have hmin9 : min (9 : Int) 8 = (kk : Int) := hmin
    go_wp2_with (at_builtin; refine wpList_push eltU8 rfl (.tmp 13) (.tmp 14) rfl (W := w1) rfl hown rfl rfl (by simp [Value.oneCell']) (by omega) (by unfold maxLen; omega) hbel hs1 ?_; intro v' w' hown' hb' _ _)
    have hown0 : w'.ownsRow w.heap.size 5 1 v' (n + 1 + 0) (bcells (a ++ [255])) := by rw [bcells_append]; exact hown'
    have hb0 := hb'
    have hpw : pword x = x := by unfold pword; rw [if_pos HK.out.symm]
    have HP := Lib.hid hpw
    clear hpw
    go_loopw [0, 28] (fun v i wr => ∃ j : Nat, j ≤ kk ∧ i = .int .i64 j ∧ wr.ownsRow w.heap.size 5 1 v (n + 1 + j) (bcells (a ++ [255] ++ (be x kk).take j)) ∧ Below w.heap.size w wr) (fun _ i _ => kk - (intOf i).toNat)
    case atStart => exact ⟨0, Nat.zero_le _, rfl, by rw [List.take_zero, List.append_nil]; exact hown0, hb0⟩
    case round =>
      obtain ⟨j, hj, rfl, hrow, hB⟩ := hrel
      have hs := hB.size
      by_cases hlt : j < kk
      · have en : (kk : Int) - 1 - (j : Int) = ((kk - 1 - j : Nat) : Int) := by omega
        have HB := Lib.hid (byte_of x (8 * (kk - 1 - j)))
        have HT := Lib.hid (be_take_succ x hlt)
        go_wp2_with (at_builtin; refine wpList_push eltU8 rfl (.tmp 31) (.tmp 41) rfl (W := wr) rfl hrow rfl rfl (by simp [Value.oneCell']) (by omega) (by unfold maxLen; omega) hB hs ?_; intro v' w' hown' hb' _ _)
        go_roundw
        case rel =>
          refine ⟨j + 1, by omega, by go_num, ?_, hb'⟩
          rw [HT.out, ← List.append_assoc, bcells_append]
          simp only [bcells, List.map_cons, List.map_nil, HB.out] at hown' ⊢
          exact hown'
        case measure => simp [intOf]; omega
      · obtain rfl : j = kk := by omega
        go_wp2
        go_ret
        refine ⟨_, rfl, ?_, hB⟩
        rw [List.take_of_length_le (by rw [be_len]; exact Nat.le_refl _)] at hrow
        have hj8 : j = 8 := HKK.out
        have hf : pform x = [255] ++ be x j := by unfold pform phead; rw [if_pos HK.out.symm, HP.out, ← HK.out, HKK.out]
        rw [hf, ← List.append_assoc]
        have e : n + 9 = n + 1 + j := by omega
        rw [e]
        exact hrow
  · have e9 : ((k : Int) == 9) = false := by simp; omega
    have hor := pword_or x (by rw [← HK.out]; exact h9)
    rw [← HK.out] at hor
    have hlt := pword_lt x hx
    have HPW := Lib.hid (show pword x = pword x from rfl)
    obtain ⟨m, hm⟩ : ∃ m, m = pword x := ⟨_, rfl⟩
    rw [← hm] at hor hlt
    have HM := Lib.hid hm
    clear hm
    have hown0 : w1.ownsRow w.heap.size 5 1 v (n + 0) (bcells a) := hown
    have hb0 := hbel
    go_wp2
    go_loopw [0, 28] (fun v i wr => ∃ j : Nat, j ≤ kk ∧ i = .int .i64 j ∧ wr.ownsRow w.heap.size 5 1 v (n + j) (bcells (a ++ (be m kk).take j)) ∧ Below w.heap.size w wr) (fun _ i _ => kk - (intOf i).toNat)
    case atStart => exact ⟨0, Nat.zero_le _, rfl, by rw [List.take_zero, List.append_nil]; exact hown0, hb0⟩
    case round =>
      obtain ⟨j, hj, rfl, hrow, hB⟩ := hrel
      have hs := hB.size
      by_cases hlt : j < kk
      · have en : (kk : Int) - 1 - (j : Int) = ((kk - 1 - j : Nat) : Int) := by omega
        have HB := Lib.hid (byte_of m (8 * (kk - 1 - j)))
        have HT := Lib.hid (be_take_succ m hlt)
        go_wp2_with (at_builtin; refine wpList_push eltU8 rfl (.tmp 31) (.tmp 41) rfl (W := wr) rfl hrow rfl rfl (by simp [Value.oneCell']) (by omega) (by unfold maxLen; omega) hB hs ?_; intro v' w' hown' hb' _ _)
        go_roundw
        case rel =>
          refine ⟨j + 1, by omega, by go_num, ?_, hb'⟩
          rw [HT.out, ← List.append_assoc, bcells_append]
          simp only [bcells, List.map_cons, List.map_nil, HB.out] at hown' ⊢
          exact hown'
        case measure => simp [intOf]; omega
      · obtain rfl : j = kk := by omega
        go_wp2
        go_ret
        refine ⟨_, rfl, ?_, hB⟩
        rw [List.take_of_length_le (by rw [be_len]; exact Nat.le_refl _)] at hrow
        have hj8 : j = k := by have := HKK.out; omega
        have hf : pform x = be m j := by unfold pform phead; rw [if_neg (by rw [← HK.out]; exact h9), ← HM.out, ← HK.out, HKK.out]; rfl
        rw [hf, ← hj8]
        exact hrow
end Go.Proofs.Ytohddbehcfoecaa
