/- Package prefix: fixed numbers. For every number, size and bytes. -/
import Derived.Test.YtfapipamohlniaaDoorBit
namespace Go.Proofs.YtfapipamohlniaaDoor
open Go.RowKit
theorem ret_bool {a b : Bool} (h : a = b) : Ending.returned (.bool a) = .returned (.bool b) := by rw [h]
theorem ret_int {k : IntKind} {a b : Int} (h : a = b) : Ending.returned (.int k a) = .returned (.int k b) := by rw [h]
theorem byte_of (m s : Nat) : ((UInt8.ofNat (m / 2 ^ s)).toNat : Int) = (m : Int) / 2 ^ s % 256 := by
  simp

def le (m k : Nat) : List UInt8 := (List.range k).map fun i => UInt8.ofNat (m / 2 ^ (8 * i))
theorem le_len (m k : Nat) : (le m k).length = k := by simp [le]
theorem le_succ (m k : Nat) : le m (k + 1) = le m k ++ [UInt8.ofNat (m / 2 ^ (8 * k))] := by simp [le, List.range_succ]
def numLE (l : List UInt8) : Nat := l.foldr (fun c n => c.toNat + 256 * n) 0
theorem numLE_cons (c : UInt8) (l : List UInt8) : numLE (c :: l) = c.toNat + 256 * numLE l := rfl
theorem numLE_snoc (c : UInt8) : ∀ l : List UInt8, numLE (l ++ [c]) = numLE l + c.toNat * 2 ^ (8 * l.length)
  | [] => by simp [numLE]
  | d :: l => by
    rw [List.cons_append, numLE_cons, numLE_cons, numLE_snoc c l, List.length_cons, Nat.mul_add, Nat.mul_add 8, Nat.pow_add, ← Nat.add_assoc]
    congr 1
    rw [show 2 ^ (8 * 1) = 256 from rfl, ← Nat.mul_assoc (c.toNat), Nat.mul_comm 256]
theorem numLE_lt : ∀ l : List UInt8, numLE l < 2 ^ (8 * l.length)
  | [] => by simp [numLE]
  | d :: l => by
    have := numLE_lt l
    have hd := d.toNat_lt
    rw [numLE_cons, List.length_cons, Nat.mul_add, Nat.pow_add, show 2 ^ (8 * 1) = 256 from rfl]
    omega
theorem numLE_take (l : List UInt8) {j : Nat} (h : j < l.length) : numLE (l.take (j + 1)) = numLE (l.take j) + (l.getD j 0).toNat * 2 ^ (8 * j) := by
  rw [List.take_succ_eq_append_getElem h, numLE_snoc, List.length_take, Nat.min_eq_left (by omega)]
  simp [List.getD, h]
def fits (n : Nat) (s : Int) : Bool := decide (n < 2 ^ s.toNat)
def fixedOk (n : Nat) (s : Int) : Bool := decide (1 ≤ s) && decide (s ≤ 8) && fits n (8 * s)
def fixedB (a : List UInt8) (n : Nat) (s : Int) : List UInt8 := if fixedOk n s then a ++ le n s.toNat else []
def fixedE (n : Nat) (s : Int) : Nat := if s < 1 ∨ 8 < s then 1 else if fits n (8 * s) then 0 else 3
def readN (l : List UInt8) (s : Int) : Nat := if s < 1 ∨ 8 < s ∨ (l.length : Int) < s then 0 else numLE (l.take s.toNat)
def readE (l : List UInt8) (s : Int) : Nat := if s < 1 ∨ 8 < s then 1 else if (l.length : Int) < s then 4 else 0
def narrowN (n : Nat) (s : Int) : Nat := if s < 1 ∨ 32 < s then 0 else if fits n s then n else 0
def narrowE (n : Nat) (s : Int) : Nat := if s < 1 ∨ 32 < s then 1 else if fits n s then 0 else 3

theorem sized_any (s : Int) (w : World) :
    Calls Tryd.prog 55 #[.int .i64 s] w fun e w' => e = .returned (.bool (decide (1 ≤ s) && decide (s ≤ 8))) ∧ w = w' := by
  go_enter Tryd.func55, Tryd.ntmps55
  by_cases h1 : 1 ≤ s
  · by_cases h2 : s ≤ 8
    · go_wp2
      go_ret
      exact ⟨ret_bool (by simp; omega), rfl⟩
    · go_wp2
      go_ret
      exact ⟨ret_bool (by simp; omega), rfl⟩
  · go_wp2
    go_ret
    exact ⟨ret_bool (by simp; omega), rfl⟩
theorem bitLen_fits (n : Nat) (hn : n < 18446744073709551616) (m : Nat) : (Lib.bitLen n ≤ m) ↔ n < 2 ^ m := by
  rcases Nat.eq_zero_or_pos n with rfl | h0
  · have := Nat.two_pow_pos m
    have e : Lib.bitLen 0 = 0 := by decide
    rw [e]
    omega
  · have ⟨a, b, c, d⟩ := bitLen_bounds n (by omega) hn
    constructor
    · intro h
      exact Nat.lt_of_lt_of_le d (Nat.pow_le_pow_right (by omega) h)
    · intro h
      rcases Nat.lt_or_ge m (Lib.bitLen n) with hb | hb
      · have := Nat.pow_le_pow_right (n := 2) (by omega) (show m ≤ Lib.bitLen n - 1 by omega)
        omega
      · exact hb
theorem below_any (n : Nat) (hn : n < 18446744073709551616) (s : Int) (h0 : 0 ≤ s) (w : World) :
    Calls Tryd.prog 65 #[.int .u64 (n : Int), .int .i64 s] w fun e w' => e = .returned (.bool (fits n s)) ∧ w = w' := by
  have HL := Lib.hid (Tryd.bits_Len64 (n : Int) w (by omega) (by omega))
  rw [Int.toNat_natCast] at HL
  have HB := Lib.hid (bitLen_fits n hn s.toNat)
  generalize Lib.bitLen n = bl at *
  go_enter Tryd.func65, Tryd.ntmps65
  go_wp2_with fail
  refine HL.out.mono ?_
  rintro e w1 ⟨rfl, rfl⟩
  go_wp2
  go_ret
  refine ⟨ret_bool ?_, rfl⟩
  unfold fits
  rw [decide_eq_decide, ← HB.out]
  omega

def RetFixed (w : World) (E n : Nat) (xs : List Value) (code : Nat) (e : Ending) (w' : World) : Prop := ∃ v, e = .returned (.tuple #[v, .int .i64 (code : Int)]) ∧ w'.ownsRow w.heap.size E 1 v n xs ∧ Below w.heap.size w w'

theorem fixed_any (a : List UInt8) (A : Option Addr) (n c : Nat) (x : Nat) (hx : x < 18446744073709551616) (s : Int) (w : World) (h : Rd w w.heap.size 1 A n (bcells a)) (hn : n + 9 ≤ 140737488355328) :
    Calls Tryd.prog 57 #[.slice A n c, .int .u64 (x : Int), .int .i64 s] w (RetFixed w 5 (fixedB a x s).length (bcells (fixedB a x s)) (fixedE x s)) := by
  have hln := h.1
  rw [bcells_len, Nat.mul_one] at hln
  have HS := Lib.hid (sized_any s w)
  by_cases hs : s < 1 ∨ 8 < s
  · have e1 : fixedB a x s = [] := by unfold fixedB fixedOk; rw [if_neg (by simp; omega)]
    have e2 : fixedE x s = 1 := by unfold fixedE; rw [if_pos hs]
    have e3 : (decide (1 ≤ s) && decide (s ≤ 8)) = false := by simp; omega
    rw [e1, e2]
    rw [e3] at HS
    clear e1 e2 e3
    go_enter Tryd.func57, Tryd.ntmps57
    go_wp2_with fail
    refine HS.out.mono ?_
    rintro e w1 ⟨rfl, rfl⟩
    go_wp2
    go_ret2
    exact ⟨_, rfl, World.ownsRow_nil _ _ _ _, Below.refl _ _⟩
  · have e3 : (decide (1 ≤ s) && decide (s ≤ 8)) = true := by simp; omega
    rw [e3] at HS
    have HB := below_any x hx (8 * s) (by omega) w
    cases hf : fits x (8 * s) with
    | false =>
      have e1 : fixedB a x s = [] := by unfold fixedB fixedOk; rw [e3, hf, if_neg (by simp)]
      have e2 : fixedE x s = 3 := by unfold fixedE; rw [if_neg hs, hf, if_neg (by simp)]
      rw [hf] at HB
      have HB' := Lib.hid HB
      rw [e1, e2]
      clear e1 e2 e3 hf HB
      go_enter Tryd.func57, Tryd.ntmps57
      go_wp2_with fail
      refine HS.out.mono ?_
      rintro e w1 ⟨rfl, rfl⟩
      go_wp2_with fail
      refine HB'.out.mono ?_
      rintro e w1 ⟨rfl, rfl⟩
      go_wp2
      go_ret2
      exact ⟨_, rfl, World.ownsRow_nil _ _ _ _, Below.refl _ _⟩
    | true =>
      obtain ⟨k, rfl⟩ := Int.eq_ofNat_of_zero_le (show 0 ≤ s by omega)
      have e1 : fixedB a x k = a ++ le x k := by unfold fixedB fixedOk; rw [e3, hf, if_pos (by simp), Int.toNat_natCast]
      have e2 : fixedE x k = 0 := by unfold fixedE; rw [if_neg hs, hf, if_pos (by simp)]
      rw [hf] at HB
      have HB' := Lib.hid HB
      have HC := Lib.hid (clone_any a A n c w h (by omega))
      rw [e1, e2, List.length_append, le_len, hln]
      clear e1 e2 e3 hf HB h
      go_enter Tryd.func57, Tryd.ntmps57
      go_wp2_with fail
      refine HS.out.mono ?_
      rintro e w1 ⟨rfl, rfl⟩
      go_wp2_with fail
      refine HB'.out.mono ?_
      rintro e w1 ⟨rfl, rfl⟩
      go_wp2_with fail
      refine HC.out.mono ?_
      rintro e w2 ⟨v, rfl, hown, hbel⟩
      clear HS HB' HC
      go_wp2
      go_loopw [0, 22] (fun v i wr => ∃ j : Nat, j ≤ k ∧ i = .int .i64 j ∧ wr.ownsRow w.heap.size 5 1 v (n + j) (bcells (a ++ le x j)) ∧ Below w.heap.size w wr) (fun _ i _ => k - (intOf i).toNat)
      case atStart => exact ⟨0, Nat.zero_le _, rfl, by rw [show le x 0 = [] from rfl, List.append_nil]; exact hown, hbel⟩
      case round =>
        obtain ⟨j, hj, rfl, hrow, hB⟩ := hrel
        have hs := hB.size
        by_cases hlt : j < k
        · have HB := Lib.hid (byte_of x (8 * j))
          have HT := Lib.hid (le_succ x j)
          go_wp2_with (at_builtin; refine wpList_push eltU8 rfl (.tmp 25) (.tmp 31) rfl (W := wr) rfl hrow rfl rfl (by simp [Value.oneCell']) (by omega) (by unfold maxLen; omega) hB hs ?_; intro v' w' hown' hb' _ _)
          go_roundw
          case rel =>
            refine ⟨j + 1, by omega, by go_num, ?_, hb'⟩
            rw [HT.out, ← List.append_assoc, bcells_append]
            simp only [bcells, List.map_cons, List.map_nil, HB.out] at hown' ⊢
            exact hown'
          case measure => simp [intOf]; omega
        · obtain rfl : j = k := by omega
          go_wp2
          go_ret2
          exact ⟨_, rfl, hrow, hB⟩

theorem read_or (m u j : Nat) (hm : m < 2 ^ (8 * j)) (hu : u < 256) (hj : j < 8) : bits BinOp.or IntKind.u64 (m : Int) (IntKind.u64.wrap ((u : Int) * 2 ^ (8 * j))) = ((m + u * 2 ^ (8 * j) : Nat) : Int) := by
  have hc : j = 0 ∨ j = 1 ∨ j = 2 ∨ j = 3 ∨ j = 4 ∨ j = 5 ∨ j = 6 ∨ j = 7 := by omega
  rw [IntKind.wrap_u64]
  rcases hc with rfl | rfl | rfl | rfl | rfl | rfl | rfl | rfl
  all_goals simp only [Nat.reduceMul, Nat.reducePow, Int.reducePow] at hm ⊢
  · rw [bits_join_low .u64 64 (by decide) wraps_u64 0] <;> omega
  · rw [bits_join_low .u64 64 (by decide) wraps_u64 8] <;> omega
  · rw [bits_join_low .u64 64 (by decide) wraps_u64 16] <;> omega
  · rw [bits_join_low .u64 64 (by decide) wraps_u64 24] <;> omega
  · rw [bits_join_low .u64 64 (by decide) wraps_u64 32] <;> omega
  · rw [bits_join_low .u64 64 (by decide) wraps_u64 40] <;> omega
  · rw [bits_join_low .u64 64 (by decide) wraps_u64 48] <;> omega
  · rw [bits_join_low .u64 64 (by decide) wraps_u64 56] <;> omega
theorem numLE_64 (l : List UInt8) {j : Nat} (hj : j ≤ 8) : numLE (l.take j) < 18446744073709551616 := by
  have h1 := numLE_lt (l.take j)
  have h2 := Nat.pow_le_pow_right (n := 2) (by omega) (show 8 * (l.take j).length ≤ 64 by rw [List.length_take]; omega)
  omega
theorem numLE_8j (l : List UInt8) {j : Nat} (hj : j ≤ l.length) : numLE (l.take j) < 2 ^ (8 * j) := by
  have h1 := numLE_lt (l.take j)
  rwa [List.length_take, Nat.min_eq_left hj] at h1

theorem read_any (l : List UInt8) (A : Option Addr) (n c : Nat) (s : Int) (w : World) (h : Rd w w.heap.size 1 A n (bcells l)) :
    Calls Tryd.prog 44 #[.slice A n c, .int .i64 s] w fun e w' => e = .returned (.tuple #[.int .u64 (readN l s), .int .i64 (readE l s)]) ∧ w = w' := by
  have hln := h.1
  rw [bcells_len, Nat.mul_one] at hln
  have HS := Lib.hid (sized_any s w)
  by_cases hs : s < 1 ∨ 8 < s
  · have e1 : readN l s = 0 := by unfold readN; rw [if_pos (by omega)]
    have e2 : readE l s = 1 := by unfold readE; rw [if_pos hs]
    have e3 : (decide (1 ≤ s) && decide (s ≤ 8)) = false := by simp; omega
    rw [e1, e2]
    rw [e3] at HS
    clear e1 e2 e3
    go_enter Tryd.func44, Tryd.ntmps44
    go_wp2_with fail
    refine HS.out.mono ?_
    rintro e w1 ⟨rfl, rfl⟩
    go_wp2
    go_ret2
    exact ⟨rfl, rfl⟩
  · have e3 : (decide (1 ≤ s) && decide (s ≤ 8)) = true := by simp; omega
    rw [e3] at HS
    clear e3
    by_cases hsh : (n : Int) < s
    · have e1 : readN l s = 0 := by unfold readN; rw [if_pos (by omega)]
      have e2 : readE l s = 4 := by unfold readE; rw [if_neg hs, if_pos (by omega)]
      rw [e1, e2]
      clear e1 e2
      go_enter Tryd.func44, Tryd.ntmps44
      go_wp2_with fail
      refine HS.out.mono ?_
      rintro e w1 ⟨rfl, rfl⟩
      go_wp2
      go_ret2
      exact ⟨rfl, rfl⟩
    · obtain ⟨k, rfl⟩ := Int.eq_ofNat_of_zero_le (show 0 ≤ s by omega)
      have E1 := Lib.hid (show readN l k = numLE (l.take k) by unfold readN; rw [if_neg (by omega), Int.toNat_natCast])
      have e2 : readE l k = 0 := by unfold readE; rw [if_neg hs, if_neg (by omega)]
      rw [e2]
      have hmx := h.2.1
      unfold maxLen at hmx
      obtain ⟨b, off, rfl, hblk, hcell⟩ := h.2.2 (by omega)
      have hg : ∀ j, j < n → w.cell? ⟨b, off + j, none⟩ = some (.int .u8 ((l.getD j 0).toNat : Int)) := fun j hj => by
        rw [hcell j _ (bcells_get (by omega))]; simp [List.getD, show j < l.length by omega]
      have HLN := Lib.hid hln
      clear e2 hcell h hln
      go_enter Tryd.func44, Tryd.ntmps44
      go_wp2_with fail
      refine HS.out.mono ?_
      rintro e w1 ⟨rfl, rfl⟩
      clear HS
      go_wp2
      go_loopw [6, 18] (fun v i wr => ∃ j : Nat, j ≤ k ∧ i = .int .i64 j ∧ wr = w ∧ v = .int .u64 (numLE (l.take j) : Nat)) (fun _ i _ => k - (intOf i).toNat)
      case atStart => exact ⟨0, Nat.zero_le _, rfl, rfl, rfl⟩
      case round =>
        obtain ⟨j, hj, rfl, rfl, rfl⟩ := hrel
        by_cases hjk : j < k
        · have hgj := hg j (by omega)
          have hlen : j < l.length := by have := HLN.out; omega
          have HT := Lib.hid (numLE_take l hlen)
          have hm1 := numLE_64 l (show j ≤ 8 by omega)
          have hor := read_or (numLE (l.take j)) (l.getD j 0).toNat j (numLE_8j l (by omega)) (UInt8.toNat_lt _) (by omega)
          have hu := (l.getD j 0).toNat_lt
          clear hg
          generalize l.getD j 0 = u at *
          generalize u.toNat = y at *
          generalize numLE (l.take j) = m at *
          go_wp2
          go_roundw
          case rel => exact ⟨j + 1, by omega, by go_num, trivial, by rw [HT.out]; simp⟩
          case measure => simp [intOf]; omega
        · obtain rfl : j = k := by omega
          have hm1 := numLE_64 l (show j ≤ 8 by omega)
          clear hg
          go_wp2
          go_ret2
          exact ⟨by rw [E1.out]; rfl, rfl⟩
end Go.Proofs.YtfapipamohlniaaDoor
