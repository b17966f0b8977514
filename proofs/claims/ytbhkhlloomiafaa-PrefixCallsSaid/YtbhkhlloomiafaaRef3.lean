/- The document's answer, chapter 01: Fold, Unfold, Fixed, Read, Narrow. For every input. -/
import Derived.Test.YtbhkhlloomiafaaRef2
import Derived.Test.YtbhkhlloomiafaaFixLaw
namespace Go.Proofs.Ytbhkhlloomiafaa
open Go.RowKit

theorem rfold_any (x : Int) (h0 : -9223372036854775808 ≤ x) (h1 : x < 9223372036854775808) (w : World) :
    Calls Try.prog 30 #[.int .i64 x] w fun e w' => e = .returned (.int .u64 (foldN x : Int)) ∧ w = w' := by
  by_cases hx : 0 ≤ x
  · go_enter Try.func30, Try.ntmps30
    go_wp2
    go_ret
    exact ⟨ret_int (by unfold foldN; rw [if_pos hx]; try simp only [IntKind.wrap_u64]
                       omega), rfl⟩
  · go_enter Try.func30, Try.ntmps30
    go_wp2
    go_ret
    exact ⟨ret_int (by unfold foldN; rw [if_neg (by omega)]; try simp only [IntKind.wrap_u64]
                       omega), rfl⟩
theorem runfold_any (n : Nat) (h1 : n < 18446744073709551616) (w : World) :
    Calls Try.prog 31 #[.int .u64 n] w fun e w' => e = .returned (.int .i64 (unfoldN n)) ∧ w = w' := by
  by_cases hx : n % 2 = 0
  · have e1 : ((n : Int) % 2 == 0) = true := by simp; omega
    go_enter Try.func31, Try.ntmps31
    go_wp2
    go_ret
    exact ⟨ret_int (by unfold unfoldN; rw [if_pos hx]; try simp only [IntKind.wrap_i64]
                       omega), rfl⟩
  · have e1 : ((n : Int) % 2 == 0) = false := by simp; omega
    go_enter Try.func31, Try.ntmps31
    go_wp2
    go_ret
    exact ⟨ret_int (by unfold unfoldN; rw [if_neg hx]; try simp only [IntKind.wrap_i64]
                       omega), rfl⟩
theorem bitsFit_fits (n m : Nat) : bitsFit n m = fits n ((m : Nat) : Int) := by
  have h0 := Nat.two_pow_pos m
  unfold bitsFit fits
  rw [decide_eq_decide, Int.toNat_natCast, Nat.div_eq_zero_iff]
  omega
theorem rnarrow_any (n : Nat) (hn : n < 18446744073709551616) (s : Int) (w : World) :
    Calls Try.prog 27 #[.int .u64 (n : Int), .int .i64 s] w fun e w' => e = .returned (.tuple #[.int .u32 (narrowN n s), .int .i64 (narrowE n s)]) ∧ Below w.heap.size w w' := by
  by_cases h1 : s < 1
  · have e1 : narrowN n s = 0 := by unfold narrowN; rw [if_pos (by omega)]
    have e2 : narrowE n s = 1 := by unfold narrowE; rw [if_pos (by omega)]
    rw [e1, e2]
    clear e1 e2
    go_enter Try.func27, Try.ntmps27
    go_wp2
    go_ret2
    exact ⟨rfl, Below.refl _ _⟩
  · by_cases h2 : 32 < s
    · have e1 : narrowN n s = 0 := by unfold narrowN; rw [if_pos (by omega)]
      have e2 : narrowE n s = 1 := by unfold narrowE; rw [if_pos (by omega)]
      rw [e1, e2]
      clear e1 e2
      go_enter Try.func27, Try.ntmps27
      go_wp2
      go_ret2
      exact ⟨rfl, Below.refl _ _⟩
    · obtain ⟨m, rfl⟩ := Int.eq_ofNat_of_zero_le (show 0 ≤ s by omega)
      have HB := rbits_any n hn m (by omega) w
      rw [bitsFit_fits] at HB
      cases hf : fits n (m : Int) with
      | false =>
        have e1 : narrowN n m = 0 := by unfold narrowN; rw [if_neg (by omega), if_neg (by rw [hf]; decide)]
        have e2 : narrowE n m = 3 := by unfold narrowE; rw [if_neg (by omega), if_neg (by rw [hf]; decide)]
        rw [e1, e2]
        rw [hf] at HB
        have HB' := Lib.hid HB
        clear e1 e2 HB hf
        go_enter Try.func27, Try.ntmps27
        go_wp2_with fail
        refine HB'.out.mono ?_
        rintro e w1 ⟨v1, rfl, o1, b1⟩
        go_wp2
        go_ret2
        exact ⟨rfl, b1⟩
      | true =>
        have e1 : narrowN n m = n := by unfold narrowN; rw [if_neg (by omega), if_pos (by rw [hf])]
        have e2 : narrowE n m = 0 := by unfold narrowE; rw [if_neg (by omega), if_pos (by rw [hf])]
        have hlt : n < 4294967296 := by
          unfold fits at hf
          have := Nat.pow_le_pow_right (n := 2) (by omega) (show (m : Int).toNat ≤ 32 by omega)
          simp at hf
          simp at this
          omega
        rw [e1, e2]
        rw [hf] at HB
        have HB' := Lib.hid HB
        clear e1 e2 HB hf
        go_enter Try.func27, Try.ntmps27
        go_wp2_with fail
        refine HB'.out.mono ?_
        rintro e w1 ⟨v1, rfl, o1, b1⟩
        go_wp2
        go_ret2
        exact ⟨rfl, b1⟩
theorem byte_mod (x : Nat) : ((UInt8.ofNat x).toNat : Int) = (x : Int) % 256 := by simp
theorem le_take (x j k : Nat) (h : j ≤ k) : (le x k).take j = le x j := by
  unfold le
  rw [← List.map_take, List.take_range, Nat.min_eq_left h]

set_option maxHeartbeats 1000000 in
theorem rfixed_any (a : List UInt8) (A : Option Addr) (n c : Nat) (x : Nat) (hx : x < 18446744073709551616) (s : Int) (w : World) (h : Rd w w.heap.size 1 A n (bcells a)) (hn : n + 9 ≤ 140737488355328) :
    Calls Try.prog 25 #[.slice A n c, .int .u64 (x : Int), .int .i64 s] w (RetFixed w 5 (fixedB a x s).length (bcells (fixedB a x s)) (fixedE x s)) := by
  have hln := h.1
  rw [bcells_len, Nat.mul_one] at hln
  by_cases hs : s < 1 ∨ 8 < s
  · have e1 : fixedB a x s = [] := by unfold fixedB fixedOk; rw [if_neg (by simp; omega)]
    have e2 : fixedE x s = 1 := by unfold fixedE; rw [if_pos hs]
    rw [e1, e2]
    clear e1 e2
    rcases hs with hs | hs
    all_goals
      go_enter Try.func25, Try.ntmps25
      go_wp2
      go_ret2
      exact ⟨_, rfl, World.ownsRow_nil _ _ _ _, Below.refl _ _⟩
  · obtain ⟨k, rfl⟩ := Int.eq_ofNat_of_zero_le (show 0 ≤ s by omega)
    have hk1 : 1 ≤ k := by omega
    have hk8 : k ≤ 8 := by omega
    have HO := Lib.hid (rown_any a A n c w h (by omega))
    have HLT := Lib.hid (fun j (hj : j ≤ k) => le_take x j k hj)
    have hd : ∀ j, x / 2 ^ (8 * j) / 256 = x / 2 ^ (8 * (j + 1)) := fun j => by rw [Nat.div_div_eq_div_mul, show 8 * (j + 1) = 8 * j + 8 by omega, Nat.pow_add]
    have HD := Lib.hid hd
    have hfit : fits x (8 * (k : Int)) = decide (x / 2 ^ (8 * k) = 0) := by rw [fits_mul, ← bitsFit_fits]; rfl
    have HF := Lib.hid hfit
    have HB := fun j => Lib.hid (byte_of x (8 * j))
    have HSU := fun j => Lib.hid (le_succ x j)
    have HX := Lib.hid (show x / 2 ^ (8 * 0) = x by simp)
    have HLN := Lib.hid hln
    have i1 : ¬ ((k : Int) < 1) := by omega
    have i2 : ¬ ((8 : Int) < (k : Int)) := by omega
    clear hd hfit h hln
    go_enter Try.func25, Try.ntmps25
    go_wp2_with fail
    refine HO.out.mono ?_
    rintro e w1 ⟨v, rfl, hown, hbel⟩
    clear HO
    go_wp2
    go_loopw [1, 8, 9] (fun y v i wr => ∃ j : Nat, j ≤ k ∧ i = .int .i64 (j : Int) ∧ y = .int .u64 ((x / 2 ^ (8 * j) : Nat) : Int) ∧ wr.ownsRow w.heap.size 5 1 v (n + j) (bcells (a ++ le x j)) ∧ Below w.heap.size w wr) (fun _ _ i _ => k - (intOf i).toNat)
    case atStart => exact ⟨0, Nat.zero_le _, rfl, by rw [HX.out], by rw [show le x 0 = [] from rfl, List.append_nil]; exact hown, hbel⟩
    case round =>
      obtain ⟨j, hj, rfl, rfl, hrow, hB⟩ := hrel
      have hs := hB.size
      by_cases hlt : j < k
      · have HB' := HB j
        have HS' := HSU j
        have HD' := Lib.hid (HD.out j)
        have hbm := byte_mod (x / 2 ^ (8 * j))
        have HBM := Lib.hid hbm
        have hxj : x / 2 ^ (8 * j) < 18446744073709551616 := Nat.lt_of_le_of_lt (Nat.div_le_self _ _) hx
        clear hbm HD HB HSU
        generalize x / 2 ^ (8 * j) = y at *
        go_wp2_with (at_builtin; refine wpList_push eltU8 rfl (.tmp 23) (.tmp 27) rfl (W := wr) rfl hrow rfl rfl (by simp [Value.oneCell']) (by omega) (by unfold maxLen; omega) hB hs ?_; intro v' w' hown' hb' _ _)
        go_roundw
        case rel =>
          refine ⟨j + 1, by omega, by go_num, ?_, ?_, hb'⟩
          · rw [← HD'.out]; simp
          · rw [HS'.out, ← List.append_assoc, bcells_append]
            have e := HBM.out
            simp only [bcells, List.map_cons, List.map_nil, e] at hown' ⊢
            exact hown'
        case measure => simp [intOf]; omega
      · obtain rfl : j = k := by omega
        cases hf : fits x (8 * (j : Int)) with
        | true =>
          have hz : x / 2 ^ (8 * j) = 0 := by have := HF.out; rw [hf] at this; simpa using this.symm
          rw [hz]
          have e1 : fixedB a x j = a ++ le x j := by unfold fixedB fixedOk; rw [hf, if_pos (by simp; omega), Int.toNat_natCast]
          have e2 : fixedE x j = 0 := by unfold fixedE; rw [if_neg (by omega), hf, if_pos rfl]
          have E1 := Lib.hid e1
          have E2 := Lib.hid e2
          have EL := Lib.hid (show (a ++ le x j).length = n + j by rw [List.length_append, le_len, HLN.out])
          clear e1 e2 hz hf HD HB HSU
          go_wp2
          go_ret2
          refine ⟨_, by rw [E2.out]; rfl, ?_, hB⟩
          rw [E1.out, EL.out]
          exact hrow
        | false =>
          have hz : 0 < x / 2 ^ (8 * j) := by have := HF.out; rw [hf] at this; simp at this; rw [Nat.pos_iff_ne_zero]; intro h0; rw [Nat.div_eq_zero_iff] at h0; have := Nat.two_pow_pos (8 * j); omega
          have e1 : fixedB a x j = [] := by unfold fixedB fixedOk; rw [hf, if_neg (by simp)]
          have e2 : fixedE x j = 3 := by unfold fixedE; rw [if_neg (by omega), hf, if_neg (by simp)]
          have E1 := Lib.hid e1
          have E2 := Lib.hid e2
          have hxj : x / 2 ^ (8 * j) < 18446744073709551616 := Nat.lt_of_le_of_lt (Nat.div_le_self _ _) hx
          clear e1 e2 hf HD HB HSU HF
          generalize x / 2 ^ (8 * j) = y at *
          go_wp2
          go_ret2
          refine ⟨_, by rw [E2.out]; rfl, ?_, hB⟩
          rw [E1.out]
          exact World.ownsRow_nil _ _ _ _

set_option maxHeartbeats 1000000 in
theorem rread_any (l : List UInt8) (A : Option Addr) (n c : Nat) (s : Int) (w : World) (h : Rd w w.heap.size 1 A n (bcells l)) :
    Calls Try.prog 26 #[.slice A n c, .int .i64 s] w fun e w' => e = .returned (.tuple #[.int .u64 (readN l s), .int .i64 (readE l s)]) ∧ w = w' := by
  have hln := h.1
  rw [bcells_len, Nat.mul_one] at hln
  by_cases hs : s < 1 ∨ 8 < s
  · have e1 : readN l s = 0 := by unfold readN; rw [if_pos (by omega)]
    have e2 : readE l s = 1 := by unfold readE; rw [if_pos hs]
    rw [e1, e2]
    clear e1 e2
    rcases hs with hs | hs
    all_goals
      go_enter Try.func26, Try.ntmps26
      go_wp2
      go_ret2
      exact ⟨rfl, rfl⟩
  · obtain ⟨k, rfl⟩ := Int.eq_ofNat_of_zero_le (show 0 ≤ s by omega)
    have hk1 : 1 ≤ k := by omega
    have hk8 : k ≤ 8 := by omega
    have i1 : ¬ ((k : Int) < 1) := by omega
    have i2 : ¬ ((8 : Int) < (k : Int)) := by omega
    by_cases hsh : n < k
    · have e1 : readN l k = 0 := by unfold readN; rw [if_pos (by omega)]
      have e2 : readE l k = 4 := by unfold readE; rw [if_neg hs, if_pos (by omega)]
      rw [e1, e2]
      clear e1 e2
      go_enter Try.func26, Try.ntmps26
      go_wp2
      go_ret2
      exact ⟨rfl, rfl⟩
    · have E := Lib.hid (read_whole (l := l) hk1 hk8 (by omega))
      have hmx := h.2.1
      unfold maxLen at hmx
      obtain ⟨b, off, rfl, hblk, hcell⟩ := h.2.2 (by omega)
      have hg : ∀ j, j < n → w.cell? ⟨b, off + j, none⟩ = some (.int .u8 ((l.getD j 0).toNat : Int)) := fun j hj => by
        rw [hcell j _ (bcells_get (by omega))]; simp [List.getD, show j < l.length by omega]
      have HT := Lib.hid (fun r (hr : r < k) => (show numLE ((l.take k).drop (k - (r + 1))) = (l.getD (k - 1 - r) 0).toNat + 256 * numLE ((l.take k).drop (k - r)) by
        have hlt : k - (r + 1) < (l.take k).length := by rw [List.length_take]; omega
        rw [List.drop_eq_getElem_cons hlt, numLE_cons, show k - (r + 1) + 1 = k - r by omega]
        congr 2
        simp [List.getD, show k - 1 - r = k - (r + 1) by omega, show k - (r + 1) < l.length by omega]))
      have HM := Lib.hid (fun r (hr : r < k) => (show numLE ((l.take k).drop (k - r)) < 72057594037927936 by
        have h1 := numLE_lt ((l.take k).drop (k - r))
        have h2 := Nat.pow_le_pow_right (n := 2) (by omega) (show 8 * ((l.take k).drop (k - r)).length ≤ 56 by rw [List.length_drop, List.length_take]; omega)
        omega))
      have HA := Lib.hid (show (l.take k).drop (k - k) = l.take k by rw [Nat.sub_self]; rfl)
      have H0 := Lib.hid (show (l.take k).drop (k - 0) = [] by rw [Nat.sub_zero]; exact List.drop_of_length_le (by rw [List.length_take]; omega))
      clear hcell h hln
      go_enter Try.func26, Try.ntmps26
      go_wp2
      go_loopw [6, 7] (fun v i wr => ∃ r : Nat, r ≤ k ∧ i = .int .i64 ((k : Int) - 1 - (r : Int)) ∧ wr = w ∧ v = .int .u64 ((numLE ((l.take k).drop (k - r)) : Nat) : Int)) (fun _ i _ => (intOf i + 1).toNat)
      case atStart => exact ⟨0, Nat.zero_le _, by simp, rfl, by rw [H0.out]; rfl⟩
      case round =>
        obtain ⟨r, hr, rfl, rfl, rfl⟩ := hrel
        by_cases hrk : r < k
        · have hgj := hg (k - 1 - r) (by omega)
          have hm := HM.out r hrk
          have HT' := Lib.hid (HT.out r hrk)
          have e1 : (k : Int) - 1 - (r : Int) = ((k - 1 - r : Nat) : Int) := by omega
          have hu := (l.getD (k - 1 - r) 0).toNat_lt
          have hlt' : k - 1 - r < n := by omega
          clear hg
          generalize l.getD (k - 1 - r) 0 = u at *
          generalize u.toNat = y at *
          generalize numLE ((l.take k).drop (k - r)) = m at *
          have hst : IntKind.u64.wrap (IntKind.u64.wrap (256 * (m : Int)) + (y : Int)) = ((y + 256 * m : Nat) : Int) := by simp only [IntKind.wrap_u64]; omega
          rw [e1]
          go_wp2
          go_roundw
          case rel =>
            refine ⟨r + 1, by omega, ?_, trivial, by rw [HT'.out]; first | rfl | (congr 1 <;> omega)⟩
            congr 1 <;> omega
          case measure => simp [intOf] <;> omega
        · obtain rfl : r = k := by omega
          have e1 : (r : Int) - 1 - (r : Int) = -1 := by omega
          rw [e1, HA.out]
          have HE := E
          rw [← E.out.1]
          have E2 := Lib.hid E.out.2
          clear hg
          go_wp2
          go_ret2
          exact ⟨by rw [E2.out]; rfl, rfl⟩
end Go.Proofs.Ytbhkhlloomiafaa
