/- Several texts in one: Byt, Bit, Pre1, Pre2, Pre3, Pre4, Pre5, OrdLaw, BackLaw. No condition of its own. -/
import Derived.Test.YtedjolkkidciiaaRows
import Derived.Test.YtedjolkkidciiaaGA
import Derived.Test.YtedjolkkidciiaaShelf
import Derived.Lib.Bytes
import Derived.Shelf.Bytes.SlClone
import Derived.Shelf.Bytes.SlEqualAll
import Derived.Lib.EndianBits
import Derived.Lib.ItoaNum
import Derived.Laws.Bits64b
import Derived.Lib.Bytealg
namespace Go.Proofs.Ytedjolkkidciiaa
open Go.RowKit

def bnum (l : List UInt8) : List Int := l.map fun u => (u.toNat : Int)
def bcells (l : List UInt8) : List Value := l.map fun u => .int .u8 (u.toNat : Int)
theorem bnum_len (l : List UInt8) : (bnum l).length = l.length := by simp [bnum]
theorem bcells_len (l : List UInt8) : (bcells l).length = l.length := by simp [bcells]
theorem bnum_cells (l : List UInt8) : (bnum l).map (Value.int .u8) = bcells l := by simp [bnum, bcells, Function.comp_def]
theorem bnum_bytes (l : List UInt8) : Lib.bytesOf (bnum l) = l := by
  unfold Lib.bytesOf bnum
  rw [List.map_map]
  conv => rhs; rw [← List.map_id l]
  apply List.map_congr_left
  intro u _
  simp
theorem bcells_append (a b : List UInt8) : bcells (a ++ b) = bcells a ++ bcells b := by simp [bcells]
theorem bcells_get {l : List UInt8} {k : Nat} (hk : k < l.length) : (bcells l)[k]? = some (.int .u8 (l[k].toNat : Int)) := by simp [bcells, hk]
theorem bcells_one (l : List UInt8) : ∀ u ∈ bcells l, u.oneCell' = true := by
  intro u hu
  unfold bcells at hu
  rw [List.mem_map] at hu
  obtain ⟨x, _, rfl⟩ := hu
  rfl
theorem bytesIn {w : World} {B n : Nat} {A : Option Addr} {l : List UInt8} (h : Rd w B 1 A n (bcells l)) : Lib.BytesIn w A n (bnum l) := by
  have hl : l.length = n := by have := h.1; rw [bcells_len] at this; omega
  rcases Nat.eq_zero_or_pos n with h0 | h0
  · subst h0
    exact Lib.BytesIn.nil _ _ _
  · obtain ⟨b, off, rfl, _, hc⟩ := h.2.2 h0
    refine Lib.BytesIn.of_cells fun i hi => ?_
    rw [add_none, hc i _ (bcells_get (by omega))]
    simp [bnum, List.getD, show i < l.length by omega]
theorem Try.infoU8 : (Try.prog.info? 5).map (fun i => (i.zero, i.size, i.bytes)) = some (some (.int .u8 0), 1, 1) := by kernel_rfl
theorem eltU8 : Elt Try.prog 22 5 (.int .u8 0) 1 1 := ⟨Try.underlying22, Try.infoU8, rfl, by omega⟩

theorem equal_any (a b : List UInt8) (A : Option Addr) (n c : Nat) (A' : Option Addr) (n' c' : Nat) (w : World) {B B' : Nat} (h : Rd w B 1 A n (bcells a)) (h' : Rd w B' 1 A' n' (bcells b)) :
    Calls Try.prog 13 #[.slice A n c, .slice A' n' c'] w fun e w' => e = .returned (.bool (a == b)) ∧ w = w' := by
  have h1 := h.1
  have h2 := h'.1
  rw [bcells_len] at h1 h2
  refine (Try.bytes_Equal_all A A' n c n' c' (bnum a) (bnum b) w (by rw [bnum_len]; omega) (by rw [bnum_len]; omega) (bytesIn h) (bytesIn h')).mono fun e w' ⟨he, hw⟩ => ⟨?_, hw.symm⟩
  rw [he, bnum_bytes, bnum_bytes]
theorem clone_any (a : List UInt8) (A : Option Addr) (n c : Nat) (w : World) {B : Nat} (h : Rd w B 1 A n (bcells a)) (hn : n ≤ 140737488355328) :
    Calls Try.prog 23 #[.slice A n c] w (RetOwn w 5 1 n (bcells a)) := by
  have h1 := h.1
  rw [bcells_len] at h1
  cases A with
  | none =>
    have h0 : n = 0 := by
      rcases Nat.eq_zero_or_pos n with h0 | h0
      · exact h0
      · obtain ⟨_, _, e, _⟩ := h.2.2 h0; cases e
    subst h0
    have ha : a = [] := List.eq_nil_of_length_eq_zero (by omega)
    subst ha
    refine (Try.bytes_Clone_nil 0 c w).mono fun e w' ⟨he, hw⟩ => ?_
    subst hw
    exact ⟨_, he, World.ownsRow_nil _ _ _ _, Below.refl _ _⟩
  | some ad =>
    refine (Try.bytes_Clone_at ad n c (bnum a) w (by rw [bnum_len]; omega) hn (fun i hi => ?_)).mono fun e w' ⟨v, he, hown, _, hb⟩ => ⟨v, he, by rw [← bnum_cells]; exact hown, hb⟩
    obtain ⟨b, off, e, _, hc⟩ := h.2.2 (by omega)
    injection e with e
    subst e
    rw [add_none, hc i _ (bcells_get (by omega))]
    simp [bnum, List.getD, show i < a.length by omega]
end Go.Proofs.Ytedjolkkidciiaa

namespace Go.Proofs.Ytedjolkkidciiaa
open Go.RowKit

theorem or1_nat (a : Nat) : a ||| 1 = a / 2 * 2 + 1 := by
  apply Nat.eq_of_testBit_eq
  intro i
  rw [Nat.testBit_or]
  cases i with
  | zero => simp
  | succ i => simp [Nat.testBit_succ]; congr 1; omega
theorem or1 (a : Nat) (ha : a < 18446744073709551616) : bits .or .u64 (a : Int) 1 = ((a / 2 * 2 + 1 : Nat) : Int) := by
  have := bits_or_u64_nat a 1 ha (by omega)
  rw [or1_nat] at this
  exact this
theorem and1 (a : Nat) (ha : a < 18446744073709551616) : bits .and .u64 (a : Int) 1 = ((a % 2 : Nat) : Int) := by
  have := bits_and_u64_nat a 1 ha (by omega)
  rw [Nat.and_one_is_mod] at this
  exact this
theorem xor0_u64 (x : Int) (h0 : 0 ≤ x) (h1 : x < 18446744073709551616) : bits .xor .u64 x 0 = x := by
  obtain ⟨a, rfl⟩ := Int.eq_ofNat_of_zero_le h0
  have := bits_xor_u64_nat a 0 (by omega) (by omega)
  rw [Nat.xor_zero] at this
  exact this
theorem xor_u64_all (x : Int) (h0 : 0 ≤ x) (h1 : x < 18446744073709551616) : bits .xor .u64 x 18446744073709551615 = 18446744073709551615 - x := by
  show IntKind.u64.wrap ((BitVec.ofInt 64 x ^^^ BitVec.ofInt 64 18446744073709551615).toNat : Int) = _
  have e : BitVec.ofInt 64 18446744073709551615 = BitVec.allOnes 64 := by decide
  rw [e, BitVec.xor_allOnes, BitVec.toNat_not, BitVec.toNat_ofInt, IntKind.wrap_u64]
  omega
theorem xor0_i64 (x : Int) (h0 : -9223372036854775808 ≤ x) (h1 : x < 9223372036854775808) : bits .xor .i64 x 0 = x := by
  show IntKind.i64.wrap ((BitVec.ofInt 64 x ^^^ BitVec.ofInt 64 0).toNat : Int) = _
  have e : BitVec.ofInt 64 0 = 0#64 := by decide
  rw [e, BitVec.xor_zero, BitVec.toNat_ofInt, IntKind.wrap_i64]
  omega
theorem xor_i64_all (x : Int) (h0 : -9223372036854775808 ≤ x) (h1 : x < 9223372036854775808) : bits .xor .i64 x (-1) = -1 - x := by
  show IntKind.i64.wrap ((BitVec.ofInt 64 x ^^^ BitVec.ofInt 64 (-1)).toNat : Int) = _
  have e : BitVec.ofInt 64 (-1) = BitVec.allOnes 64 := by decide
  rw [e, BitVec.xor_allOnes, BitVec.toNat_not, BitVec.toNat_ofInt, IntKind.wrap_i64]
  omega
theorem bitLen_bounds (m : Nat) (h0 : m ≠ 0) (h1 : m < 18446744073709551616) : 1 ≤ Lib.bitLen m ∧ Lib.bitLen m ≤ 64 ∧ 2 ^ (Lib.bitLen m - 1) ≤ m ∧ m < 2 ^ Lib.bitLen m := by
  have ⟨a, b, c⟩ := Lib.bitLenAux_bounds 64 m (by omega) h0
  refine ⟨a, ?_, b, c⟩
  unfold Lib.bitLen
  rcases Nat.lt_or_ge 64 (Lib.bitLenAux 64 m) with h | h
  · have := Nat.pow_le_pow_right (n := 2) (by omega) (show 64 ≤ Lib.bitLenAux 64 m - 1 by omega)
    omega
  · exact h
end Go.Proofs.Ytedjolkkidciiaa

namespace Go.Proofs.Ytedjolkkidciiaa
open Go.RowKit

theorem ret_bool {a b : Bool} (h : a = b) : Ending.returned (.bool a) = .returned (.bool b) := by rw [h]
theorem ret_int {k : IntKind} {a b : Int} (h : a = b) : Ending.returned (.int k a) = .returned (.int k b) := by rw [h]
def psize (n : Nat) : Nat := if n < 128 then 1 else if n < 16384 then 2 else if n < 2097152 then 3 else if n < 268435456 then 4 else if n < 34359738368 then 5 else if n < 4398046511104 then 6 else if n < 562949953421312 then 7 else if n < 72057594037927936 then 8 else 9
theorem psize_pos (n : Nat) : 1 ≤ psize n := by unfold psize; (repeat' split) <;> omega
theorem psize_le (n : Nat) : psize n ≤ 9 := by unfold psize; (repeat' split) <;> omega
theorem psize_bits (n bl : Nat) (hn : n < 18446744073709551616) (h0 : 1 ≤ bl) (h1 : bl ≤ 64) (h2 : 2 ^ (bl - 1) ≤ n / 2 * 2 + 1) (h3 : n / 2 * 2 + 1 < 2 ^ bl) : min ((bl + 6) / 7) 9 = psize n := by
  have key : ∀ j, bl ≤ j ↔ n / 2 * 2 + 1 < 2 ^ j := fun j => by
    constructor
    · intro h
      exact Nat.lt_of_lt_of_le h3 (Nat.pow_le_pow_right (by omega) h)
    · intro h
      rcases Nat.lt_or_ge j bl with hb | hb
      · have := Nat.pow_le_pow_right (n := 2) (by omega) (show j ≤ bl - 1 by omega)
        omega
      · exact hb
  have k1 := key 7
  have k2 := key 14
  have k3 := key 21
  have k4 := key 28
  have k5 := key 35
  have k6 := key 42
  have k7 := key 49
  have k8 := key 56
  simp only [Nat.reducePow] at k1 k2 k3 k4 k5 k6 k7 k8
  clear key h2 h3
  unfold psize
  (repeat' split) <;> omega
def foldN (x : Int) : Nat := if 0 ≤ x then (2 * x).toNat else (-2 * x - 1).toNat
def unfoldN (n : Nat) : Int := if n % 2 = 0 then ((n / 2 : Nat) : Int) else -((n / 2 : Nat) : Int) - 1

theorem size_any (n : Nat) (hn : n < 18446744073709551616) (w : World) :
    Calls Try.prog 39 #[.int .u64 (n : Int)] w fun e w' => e = .returned (.int .i64 (psize n : Int)) ∧ w = w' := by
  have hor := or1 n hn
  obtain ⟨m, hm⟩ : ∃ m, m = n / 2 * 2 + 1 := ⟨_, rfl⟩
  have HL := Lib.hid (Try.bits_Len64 (m : Int) w (by omega) (by omega))
  have hbl := bitLen_bounds m (by omega) (by omega)
  rw [Int.toNat_natCast] at HL
  obtain ⟨bl, hb⟩ : ∃ bl, bl = Lib.bitLen m := ⟨_, rfl⟩
  rw [← hb] at HL hbl
  rw [← hm] at hor
  have hps := psize_bits n bl hn hbl.1 hbl.2.1 (by rw [← hm]; exact hbl.2.2.1) (by rw [← hm]; exact hbl.2.2.2)
  obtain ⟨hb1, hb2, -, -⟩ := hbl
  have hps' := Lib.hid hps
  clear hps hb hm
  go_enter Try.func39, Try.ntmps39
  go_wp2_with fail
  refine HL.out.mono ?_
  rintro e w' ⟨rfl, rfl⟩
  go_wp2
  go_ret
  exact ⟨ret_int (by have := hps'.out; omega), rfl⟩
end Go.Proofs.Ytedjolkkidciiaa

namespace Go.Proofs.Ytedjolkkidciiaa
open Go.RowKit

def be (m k : Nat) : List UInt8 := (List.range k).map fun i => UInt8.ofNat (m / 2 ^ (8 * (k - 1 - i)))
theorem be_len (m k : Nat) : (be m k).length = k := by simp [be]
theorem be_take_succ (m : Nat) {k i : Nat} (hi : i < k) : (be m k).take (i + 1) = (be m k).take i ++ [UInt8.ofNat (m / 2 ^ (8 * (k - 1 - i)))] := by
  rw [List.take_succ_eq_append_getElem (by rw [be_len]; exact hi)]
  simp [be]
def pword (x : Nat) : Nat := if psize x = 9 then x else x + (256 - 2 ^ (9 - psize x)) * 256 ^ (psize x - 1)
def phead (x : Nat) : List UInt8 := if psize x = 9 then [255] else []
def pform (x : Nat) : List UInt8 := phead x ++ be (pword x) (min (psize x) 8)
theorem pform_len (x : Nat) : (pform x).length = psize x := by
  have := psize_le x
  unfold pform phead
  split <;> simp [be_len] <;> omega
theorem psize_cases (x : Nat) : (psize x = 1 ∧ x < 128) ∨ (psize x = 2 ∧ 128 ≤ x ∧ x < 16384) ∨ (psize x = 3 ∧ 16384 ≤ x ∧ x < 2097152) ∨ (psize x = 4 ∧ 2097152 ≤ x ∧ x < 268435456) ∨ (psize x = 5 ∧ 268435456 ≤ x ∧ x < 34359738368) ∨ (psize x = 6 ∧ 34359738368 ≤ x ∧ x < 4398046511104) ∨ (psize x = 7 ∧ 4398046511104 ≤ x ∧ x < 562949953421312) ∨ (psize x = 8 ∧ 562949953421312 ≤ x ∧ x < 72057594037927936) ∨ (psize x = 9 ∧ 72057594037927936 ≤ x) := by
  unfold psize; (repeat' split) <;> omega
theorem pword_lt (x : Nat) (hx : x < 18446744073709551616) : pword x < 18446744073709551616 := by
  unfold pword
  rcases psize_cases x with ⟨e, h⟩ | ⟨e, h⟩ | ⟨e, h⟩ | ⟨e, h⟩ | ⟨e, h⟩ | ⟨e, h⟩ | ⟨e, h⟩ | ⟨e, h⟩ | ⟨e, h⟩ <;> rw [e] <;> simp <;> omega
theorem pword_or (x : Nat) (h9 : psize x ≠ 9) : bits BinOp.or IntKind.u64 (x : Int) (IntKind.u64.wrap (255 * 2 ^ (9 - psize x) % 256 * 2 ^ (8 * (psize x - 1)))) = (pword x : Int) := by
  unfold pword
  rw [if_neg h9]
  rcases psize_cases x with ⟨e, h⟩ | ⟨e, h⟩ | ⟨e, h⟩ | ⟨e, h⟩ | ⟨e, h⟩ | ⟨e, h⟩ | ⟨e, h⟩ | ⟨e, h⟩ | ⟨e, h⟩
  all_goals first
    | exact absurd e h9
    | (rw [e]
       rw [IntKind.wrap_u64]
       simp only [Nat.reduceSub, Nat.reduceMul, Int.reducePow, Int.reduceMul, Int.reduceMod, Nat.reducePow]
       first
         | (rw [bits_join_low .u64 64 (by decide) wraps_u64 7] <;> omega)
         | (rw [bits_join_low .u64 64 (by decide) wraps_u64 14] <;> omega)
         | (rw [bits_join_low .u64 64 (by decide) wraps_u64 21] <;> omega)
         | (rw [bits_join_low .u64 64 (by decide) wraps_u64 28] <;> omega)
         | (rw [bits_join_low .u64 64 (by decide) wraps_u64 35] <;> omega)
         | (rw [bits_join_low .u64 64 (by decide) wraps_u64 42] <;> omega)
         | (rw [bits_join_low .u64 64 (by decide) wraps_u64 49] <;> omega)
         | (rw [bits_join_low .u64 64 (by decide) wraps_u64 56] <;> omega))
theorem byte_of (m s : Nat) : ((UInt8.ofNat (m / 2 ^ s)).toNat : Int) = (m : Int) / 2 ^ s % 256 := by
  simp

theorem put_any (a : List UInt8) (A : Option Addr) (n c : Nat) (x : Nat) (hx : x < 18446744073709551616) (w : World) (h : Rd w w.heap.size 1 A n (bcells a)) (hn : n + 9 ≤ 140737488355328) :
    Calls Try.prog 30 #[.slice A n c, .int .u64 (x : Int)] w (RetOwn w 5 1 (n + psize x) (bcells (a ++ pform x))) := by
  have HS := Lib.hid (size_any x hx w)
  have HC := Lib.hid (clone_any a A n c w h (by omega))
  have hk1 := psize_pos x
  have hk9 := psize_le x
  obtain ⟨k, hk⟩ : ∃ k, k = psize x := ⟨_, rfl⟩
  rw [← hk] at HS hk1 hk9 ⊢
  have HK := Lib.hid hk
  clear hk
  go_enter Try.func30, Try.ntmps30
  go_wp2_with fail
  refine HS.out.mono ?_
  rintro e w1 ⟨rfl, rfl⟩
  go_wp2_with fail
  refine HC.out.mono ?_
  rintro e w1 ⟨v, rfl, hown, hbel⟩
  have hs1 := hbel.size
  clear HC h HS
  have e8 : ((8 : Nat) : Int) = 8 := rfl
  obtain ⟨kk, hkk⟩ : ∃ kk, kk = min k 8 := ⟨_, rfl⟩
  have hmin : min (k : Int) 8 = (kk : Int) := by omega
  have HKK := Lib.hid hkk
  clear hkk
  by_cases h9 : k = 9
  · subst h9
    have hmin9 : min (9 : Int) 8 = (kk : Int) := hmin
    go_wp2_with (at_builtin; refine wpList_push eltU8 rfl (.tmp 13) (.tmp 14) rfl (W := w1) rfl hown rfl rfl (by simp [Value.oneCell']) (by omega) (by unfold maxLen; omega) hbel hs1 ?_; intro v' w' hown' hb' _ _)
    have hown0 : w'.ownsRow w.heap.size 5 1 v' (n + 1 + 0) (bcells (a ++ [255])) := by rw [bcells_append]; exact hown'
    have hb0 := hb'
    have hpw : pword x = x := by unfold pword; rw [if_pos HK.out.symm]
    have HP := Lib.hid hpw
    clear hpw
    go_loopw [0, 28] (fun v i wr => ∃ j : Nat, j ≤ kk ∧ i = .int .i64 j ∧ wr.ownsRow w.heap.size 5 1 v (n + 1 + j) (bcells (a ++ [255] ++ (be x kk).take j)) ∧ Below w.heap.size w wr) (fun _ i _ => kk - (intOf i).toNat)
    case atStart => exact ⟨0, Nat.zero_le _, rfl, by rw [List.take_zero, List.append_nil]; exact hown0, hb0⟩
    case round =>
      obtain ⟨j, hj, rfl, hrow, hB⟩ := hrel
      have hs := hB.size
      by_cases hlt : j < kk
      · have en : (kk : Int) - 1 - (j : Int) = ((kk - 1 - j : Nat) : Int) := by omega
        have HB := Lib.hid (byte_of x (8 * (kk - 1 - j)))
        have HT := Lib.hid (be_take_succ x hlt)
        go_wp2_with (at_builtin; refine wpList_push eltU8 rfl (.tmp 31) (.tmp 41) rfl (W := wr) rfl hrow rfl rfl (by simp [Value.oneCell']) (by omega) (by unfold maxLen; omega) hB hs ?_; intro v' w' hown' hb' _ _)
        go_roundw
        case rel =>
          refine ⟨j + 1, by omega, by go_num, ?_, hb'⟩
          rw [HT.out, ← List.append_assoc, bcells_append]
          simp only [bcells, List.map_cons, List.map_nil, HB.out] at hown' ⊢
          exact hown'
        case measure => simp [intOf]; omega
      · obtain rfl : j = kk := by omega
        go_wp2
        go_ret
        refine ⟨_, rfl, ?_, hB⟩
        rw [List.take_of_length_le (by rw [be_len]; exact Nat.le_refl _)] at hrow
        have hj8 : j = 8 := HKK.out
        have hf : pform x = [255] ++ be x j := by unfold pform phead; rw [if_pos HK.out.symm, HP.out, ← HK.out, HKK.out]
        rw [hf, ← List.append_assoc]
        have e : n + 9 = n + 1 + j := by omega
        rw [e]
        exact hrow
  · have e9 : ((k : Int) == 9) = false := by simp; omega
    have hor := pword_or x (by rw [← HK.out]; exact h9)
    rw [← HK.out] at hor
    have hlt := pword_lt x hx
    have HPW := Lib.hid (show pword x = pword x from rfl)
    obtain ⟨m, hm⟩ : ∃ m, m = pword x := ⟨_, rfl⟩
    rw [← hm] at hor hlt
    have HM := Lib.hid hm
    clear hm
    have hown0 : w1.ownsRow w.heap.size 5 1 v (n + 0) (bcells a) := hown
    have hb0 := hbel
    go_wp2
    go_loopw [0, 28] (fun v i wr => ∃ j : Nat, j ≤ kk ∧ i = .int .i64 j ∧ wr.ownsRow w.heap.size 5 1 v (n + j) (bcells (a ++ (be m kk).take j)) ∧ Below w.heap.size w wr) (fun _ i _ => kk - (intOf i).toNat)
    case atStart => exact ⟨0, Nat.zero_le _, rfl, by rw [List.take_zero, List.append_nil]; exact hown0, hb0⟩
    case round =>
      obtain ⟨j, hj, rfl, hrow, hB⟩ := hrel
      have hs := hB.size
      by_cases hlt : j < kk
      · have en : (kk : Int) - 1 - (j : Int) = ((kk - 1 - j : Nat) : Int) := by omega
        have HB := Lib.hid (byte_of m (8 * (kk - 1 - j)))
        have HT := Lib.hid (be_take_succ m hlt)
        go_wp2_with (at_builtin; refine wpList_push eltU8 rfl (.tmp 31) (.tmp 41) rfl (W := wr) rfl hrow rfl rfl (by simp [Value.oneCell']) (by omega) (by unfold maxLen; omega) hB hs ?_; intro v' w' hown' hb' _ _)
        go_roundw
        case rel =>
          refine ⟨j + 1, by omega, by go_num, ?_, hb'⟩
          rw [HT.out, ← List.append_assoc, bcells_append]
          simp only [bcells, List.map_cons, List.map_nil, HB.out] at hown' ⊢
          exact hown'
        case measure => simp [intOf]; omega
      · obtain rfl : j = kk := by omega
        go_wp2
        go_ret
        refine ⟨_, rfl, ?_, hB⟩
        rw [List.take_of_length_le (by rw [be_len]; exact Nat.le_refl _)] at hrow
        have hj8 : j = k := by have := HKK.out; omega
        have hf : pform x = be m j := by unfold pform phead; rw [if_neg (by rw [← HK.out]; exact h9), ← HM.out, ← HK.out, HKK.out]; rfl
        rw [hf, ← hj8]
        exact hrow
end Go.Proofs.Ytedjolkkidciiaa

namespace Go.Proofs.Ytedjolkkidciiaa
open Go.RowKit

def num (l : List UInt8) : Nat := l.foldl (fun n c => n * 256 + c.toNat) 0
theorem num_snoc (l : List UInt8) (c : UInt8) : num (l ++ [c]) = num l * 256 + c.toNat := by simp [num]
def lead (b : UInt8) : Nat := 9 - Lib.bitLen (255 - b.toNat)
def getNum (l : List UInt8) (k : Nat) : Nat := if k < 9 then num (l.take k) % 18446744073709551616 % 2 ^ (7 * k) else num (l.take k) % 18446744073709551616
def getP (l : List UInt8) : Nat × Nat × Nat := if l.length = 0 then (0, 0, 4) else if l.length < lead (l.getD 0 0) then (0, 0, 4) else if psize (getNum l (lead (l.getD 0 0))) = lead (l.getD 0 0) then (getNum l (lead (l.getD 0 0)), lead (l.getD 0 0), 0) else (0, 0, 5)

theorem xor_u8_all (x : Nat) (h : x < 256) : bits BinOp.xor IntKind.u8 IntKind.u8.max (x : Int) = ((255 - x : Nat) : Int) := by
  have all : ∀ j : Fin 256, bits BinOp.xor IntKind.u8 IntKind.u8.max (j.val : Int) = ((255 - j.val : Nat) : Int) := by decide +kernel
  exact all ⟨x, h⟩
theorem bitLen8 (m : Nat) (h : m < 256) : Lib.bitLen m ≤ 8 := Lib.bitLen_le8 ⟨m, h⟩

theorem take_num (l : List UInt8) {j : Nat} (h : j < l.length) : num (l.take (j + 1)) % 18446744073709551616 = (num (l.take j) * 256 + (l.getD j 0).toNat) % 18446744073709551616 := by
  rw [List.take_succ_eq_append_getElem h, num_snoc]
  simp [List.getD, h]
theorem shl_or (m : Nat) (u : UInt8) : bits BinOp.or IntKind.u64 (IntKind.u64.wrap (((m % 18446744073709551616 : Nat) : Int) * 256)) (u.toNat : Int) = (((m * 256 + u.toNat) % 18446744073709551616 : Nat) : Int) := by
  have hu : u.toNat < 256 := u.toNat_lt
  rw [IntKind.wrap_u64, bits_join .u64 64 (by decide) wraps_u64 8] <;> omega
theorem and_mask (m k : Nat) (hm : m < 18446744073709551616) (h1 : 1 ≤ k) (h8 : k ≤ 8) : bits BinOp.and IntKind.u64 (m : Int) (IntKind.u64.wrap (IntKind.u64.wrap (2 ^ (7 * k)) - 1)) = ((m % 2 ^ (7 * k) : Nat) : Int) := by
  have hc : k = 1 ∨ k = 2 ∨ k = 3 ∨ k = 4 ∨ k = 5 ∨ k = 6 ∨ k = 7 ∨ k = 8 := by omega
  have go : ∀ i : Nat, i ≤ 56 → bits BinOp.and IntKind.u64 (m : Int) (2 ^ i - 1) = ((m % 2 ^ i : Nat) : Int) := fun i hi => by
    rw [bits_mask .u64 64 (by decide) wraps_u64 i (by omega) _ (by omega) (by omega)]
    simp
  rw [← go (7 * k) (by omega)]
  congr 1
  rcases hc with rfl | rfl | rfl | rfl | rfl | rfl | rfl | rfl <;> (simp only [IntKind.wrap_u64]; decide)

theorem get_any (l : List UInt8) (A : Option Addr) (n c : Nat) (w : World) (hnc : n ≤ c) (h : Rd w w.heap.size 1 A n (bcells l)) :
    Calls Try.prog 41 #[.slice A n c] w fun e w' => e = .returned (.tuple #[.int .u64 (getP l).1, .int .i64 (getP l).2.1, .int .i64 (getP l).2.2]) ∧ w = w' := by
  have hln := h.1
  have hmx := h.2.1
  unfold maxLen at hmx
  rw [bcells_len, Nat.mul_one] at hln
  rcases Nat.eq_zero_or_pos n with h0 | h0
  · subst h0
    go_enter Try.func41, Try.ntmps41
    go_wp2
    go_ret3
    unfold getP
    rw [if_pos hln]
    exact ⟨rfl, rfl⟩
  · obtain ⟨b, off, rfl, hblk, hcell⟩ := h.2.2 h0
    have hg : ∀ j, j < n → w.cell? ⟨b, off + j, none⟩ = some (.int .u8 ((l.getD j 0).toNat : Int)) := fun j hj => by
      rw [hcell j _ (bcells_get (by omega))]; simp [List.getD, show j < l.length by omega]
    have e0 : ((n : Int) == 0) = false := by simp; omega
    have hg0 := hg 0 h0
    rw [Nat.add_zero] at hg0
    obtain ⟨b0, hb0⟩ : ∃ b0, b0 = l.getD 0 0 := ⟨_, rfl⟩
    rw [← hb0] at hg0
    have hxx : bits BinOp.xor IntKind.u8 IntKind.u8.max (b0.toNat : Int) = ((255 - b0.toNat : Nat) : Int) := xor_u8_all _ b0.toNat_lt
    have HL := Lib.hid (Try.bits_LeadingZeros8 ((255 - b0.toNat : Nat) : Int) w (by omega) (by omega))
    rw [Int.toNat_natCast] at HL
    have hb8 := bitLen8 (255 - b0.toNat) (by omega)
    have hkd : lead b0 = 9 - Lib.bitLen (255 - b0.toNat) := rfl
    obtain ⟨k, hk⟩ : ∃ k, k = lead b0 := ⟨_, rfl⟩
    rw [← hk] at hkd
    have e8 : 8 - (Lib.bitLen (255 - b0.toNat) : Int) + 1 = (k : Int) := by omega
    have hk1 : 1 ≤ k := by omega
    have hk9 : k ≤ 9 := by omega
    have hg' : getP l = if n < k then (0, 0, 4) else if psize (getNum l k) = k then (getNum l k, k, 0) else (0, 0, 5) := by
      unfold getP
      rw [if_neg (by omega), ← hb0, ← hk, hln]
    have HG := Lib.hid hg'
    have HC := Lib.hid hcell
    have HLN := Lib.hid hln
    generalize 255 - b0.toNat = d at *
    generalize Lib.bitLen d = bl at *
    clear hk hb0 hg' hcell h hln hkd
    go_enter Try.func41, Try.ntmps41
    go_wp2_with fail
    refine HL.out.mono ?_
    rintro e w1 ⟨rfl, rfl⟩
    by_cases hlt : n < k
    · go_wp2
      go_ret3
      exact ⟨by rw [HG.out, if_pos hlt]; rfl, rfl⟩
    · go_wp2
      go_loopw [6, 26] (fun v i wr => ∃ j : Nat, j ≤ k ∧ i = .int .i64 j ∧ wr = w1 ∧ v = .int .u64 (num (l.take j) % 18446744073709551616 : Nat)) (fun _ i _ => k - (intOf i).toNat)
      case atStart => exact ⟨0, Nat.zero_le _, rfl, rfl, rfl⟩
      case round =>
        obtain ⟨j, hj, rfl, rfl, rfl⟩ := hrel
        by_cases hjk : j < k
        · have hgj := hg j (by omega)
          have HT := Lib.hid (take_num l (by have := HLN.out; omega : j < l.length))
          have hor := shl_or (num (l.take j)) (l.getD j 0)
          clear hg hg0
          generalize l.getD j 0 = u at *
          have hu := u.toNat_lt
          generalize u.toNat = y at *
          generalize num (l.take j) = m at *
          have hm := Nat.mod_lt m (show 18446744073709551616 > 0 by omega)
          generalize m % 18446744073709551616 = m' at *
          go_wp2
          go_roundw
          case rel => exact ⟨j + 1, by omega, by go_num, trivial, by rw [HT.out]; simp⟩
          case measure => simp [intOf]; omega
        · obtain rfl : j = k := by omega
          have hm := Nat.mod_lt (num (l.take j)) (show 18446744073709551616 > 0 by omega)
          clear hg hg0 HC
          by_cases h9 : j < 9
          · have hand := and_mask (num (l.take j) % 18446744073709551616) j hm hk1 (by omega)
            have HN := Lib.hid (show getNum l j = num (l.take j) % 18446744073709551616 % 2 ^ (7 * j) by unfold getNum; rw [if_pos h9])
            generalize num (l.take j) % 18446744073709551616 = m at *
            have hm2 := Nat.mod_lt m (Nat.two_pow_pos (7 * j))
            have hm3 : m % 2 ^ (7 * j) < 18446744073709551616 := Nat.lt_of_le_of_lt (Nat.mod_le _ _) hm
            generalize m % 2 ^ (7 * j) = z at *
            have HS := Lib.hid (size_any z hm3 wr)
            clear hm2
            go_wp2_with fail
            refine HS.out.mono ?_
            rintro e w1 ⟨rfl, rfl⟩
            by_cases hz : psize z = j
            · have ez : ((psize z : Int) != (j : Int)) = false := by simp; omega
              go_wp2
              go_ret3
              exact ⟨by rw [HG.out, if_neg hlt, HN.out, if_pos hz]; rfl, rfl⟩
            · have ez : ((psize z : Int) != (j : Int)) = true := by simp; omega
              go_wp2
              go_ret3
              exact ⟨by rw [HG.out, if_neg hlt, HN.out, if_neg hz]; rfl, rfl⟩
          · obtain rfl : j = 9 := by omega
            have HN := Lib.hid (show getNum l 9 = num (l.take 9) % 18446744073709551616 by unfold getNum; rw [if_neg h9])
            generalize num (l.take 9) % 18446744073709551616 = z at *
            have HS := Lib.hid (size_any z hm wr)
            go_wp2_with fail
            refine HS.out.mono ?_
            rintro e w1 ⟨rfl, rfl⟩
            by_cases hz : psize z = 9
            · have ez : ((psize z : Int) != (9 : Int)) = false := by simp; omega
              go_wp2
              go_ret3
              exact ⟨by rw [HG.out, if_neg hlt, HN.out, if_pos hz]; rfl, rfl⟩
            · have ez : ((psize z : Int) != (9 : Int)) = true := by simp; omega
              go_wp2
              go_ret3
              exact ⟨by rw [HG.out, if_neg hlt, HN.out, if_neg hz]; rfl, rfl⟩
end Go.Proofs.Ytedjolkkidciiaa

namespace Go.Proofs.Ytedjolkkidciiaa
open Go.RowKit

def le (m k : Nat) : List UInt8 := (List.range k).map fun i => UInt8.ofNat (m / 2 ^ (8 * i))
theorem le_len (m k : Nat) : (le m k).length = k := by simp [le]
theorem le_succ (m k : Nat) : le m (k + 1) = le m k ++ [UInt8.ofNat (m / 2 ^ (8 * k))] := by simp [le, List.range_succ]
def numLE (l : List UInt8) : Nat := l.foldr (fun c n => c.toNat + 256 * n) 0
theorem numLE_cons (c : UInt8) (l : List UInt8) : numLE (c :: l) = c.toNat + 256 * numLE l := rfl
theorem numLE_snoc (c : UInt8) : ∀ l : List UInt8, numLE (l ++ [c]) = numLE l + c.toNat * 2 ^ (8 * l.length)
  | [] => by simp [numLE]
  | d :: l => by
    rw [List.cons_append, numLE_cons, numLE_cons, numLE_snoc c l, List.length_cons, Nat.mul_add, Nat.mul_add 8, Nat.pow_add, ← Nat.add_assoc]
    congr 1
    rw [show 2 ^ (8 * 1) = 256 from rfl, ← Nat.mul_assoc (c.toNat), Nat.mul_comm 256]
theorem numLE_lt : ∀ l : List UInt8, numLE l < 2 ^ (8 * l.length)
  | [] => by simp [numLE]
  | d :: l => by
    have := numLE_lt l
    have hd := d.toNat_lt
    rw [numLE_cons, List.length_cons, Nat.mul_add, Nat.pow_add, show 2 ^ (8 * 1) = 256 from rfl]
    omega
theorem numLE_take (l : List UInt8) {j : Nat} (h : j < l.length) : numLE (l.take (j + 1)) = numLE (l.take j) + (l.getD j 0).toNat * 2 ^ (8 * j) := by
  rw [List.take_succ_eq_append_getElem h, numLE_snoc, List.length_take, Nat.min_eq_left (by omega)]
  simp [List.getD, h]
def fits (n : Nat) (s : Int) : Bool := decide (n < 2 ^ s.toNat)
def fixedOk (n : Nat) (s : Int) : Bool := decide (1 ≤ s) && decide (s ≤ 8) && fits n (8 * s)
def fixedB (a : List UInt8) (n : Nat) (s : Int) : List UInt8 := if fixedOk n s then a ++ le n s.toNat else []
def fixedE (n : Nat) (s : Int) : Nat := if s < 1 ∨ 8 < s then 1 else if fits n (8 * s) then 0 else 3
def readN (l : List UInt8) (s : Int) : Nat := if s < 1 ∨ 8 < s ∨ (l.length : Int) < s then 0 else numLE (l.take s.toNat)
def readE (l : List UInt8) (s : Int) : Nat := if s < 1 ∨ 8 < s then 1 else if (l.length : Int) < s then 4 else 0
def narrowN (n : Nat) (s : Int) : Nat := if s < 1 ∨ 32 < s then 0 else if fits n s then n else 0
def narrowE (n : Nat) (s : Int) : Nat := if s < 1 ∨ 32 < s then 1 else if fits n s then 0 else 3

theorem bitLen_fits (n : Nat) (hn : n < 18446744073709551616) (m : Nat) : (Lib.bitLen n ≤ m) ↔ n < 2 ^ m := by
  rcases Nat.eq_zero_or_pos n with rfl | h0
  · have := Nat.two_pow_pos m
    have e : Lib.bitLen 0 = 0 := by decide
    rw [e]
    omega
  · have ⟨a, b, c, d⟩ := bitLen_bounds n (by omega) hn
    constructor
    · intro h
      exact Nat.lt_of_lt_of_le d (Nat.pow_le_pow_right (by omega) h)
    · intro h
      rcases Nat.lt_or_ge m (Lib.bitLen n) with hb | hb
      · have := Nat.pow_le_pow_right (n := 2) (by omega) (show m ≤ Lib.bitLen n - 1 by omega)
        omega
      · exact hb
end Go.Proofs.Ytedjolkkidciiaa

namespace Go.Proofs.Ytedjolkkidciiaa
open Go.RowKit

def RetFixed (w : World) (E n : Nat) (xs : List Value) (code : Nat) (e : Ending) (w' : World) : Prop := ∃ v, e = .returned (.tuple #[v, .int .i64 (code : Int)]) ∧ w'.ownsRow w.heap.size E 1 v n xs ∧ Below w.heap.size w w'

theorem read_or (m u j : Nat) (hm : m < 2 ^ (8 * j)) (hu : u < 256) (hj : j < 8) : bits BinOp.or IntKind.u64 (m : Int) (IntKind.u64.wrap ((u : Int) * 2 ^ (8 * j))) = ((m + u * 2 ^ (8 * j) : Nat) : Int) := by
  have hc : j = 0 ∨ j = 1 ∨ j = 2 ∨ j = 3 ∨ j = 4 ∨ j = 5 ∨ j = 6 ∨ j = 7 := by omega
  rw [IntKind.wrap_u64]
  rcases hc with rfl | rfl | rfl | rfl | rfl | rfl | rfl | rfl
  all_goals simp only [Nat.reduceMul, Nat.reducePow, Int.reducePow] at hm ⊢
  · rw [bits_join_low .u64 64 (by decide) wraps_u64 0] <;> omega
  · rw [bits_join_low .u64 64 (by decide) wraps_u64 8] <;> omega
  · rw [bits_join_low .u64 64 (by decide) wraps_u64 16] <;> omega
  · rw [bits_join_low .u64 64 (by decide) wraps_u64 24] <;> omega
  · rw [bits_join_low .u64 64 (by decide) wraps_u64 32] <;> omega
  · rw [bits_join_low .u64 64 (by decide) wraps_u64 40] <;> omega
  · rw [bits_join_low .u64 64 (by decide) wraps_u64 48] <;> omega
  · rw [bits_join_low .u64 64 (by decide) wraps_u64 56] <;> omega
theorem numLE_64 (l : List UInt8) {j : Nat} (hj : j ≤ 8) : numLE (l.take j) < 18446744073709551616 := by
  have h1 := numLE_lt (l.take j)
  have h2 := Nat.pow_le_pow_right (n := 2) (by omega) (show 8 * (l.take j).length ≤ 64 by rw [List.length_take]; omega)
  omega
theorem numLE_8j (l : List UInt8) {j : Nat} (hj : j ≤ l.length) : numLE (l.take j) < 2 ^ (8 * j) := by
  have h1 := numLE_lt (l.take j)
  rwa [List.length_take, Nat.min_eq_left hj] at h1

end Go.Proofs.Ytedjolkkidciiaa

namespace Go.Proofs.Ytedjolkkidciiaa
open Go.RowKit

theorem num_acc (n : Nat) : ∀ l : List UInt8, l.foldl (fun n c => n * 256 + c.toNat) n = n * 256 ^ l.length + num l
  | [] => by simp [num]
  | c :: l => by
    have h1 := num_acc (n * 256 + c.toNat) l
    have h2 := num_acc c.toNat l
    unfold num at *
    simp only [List.foldl_cons, Nat.zero_mul, Nat.zero_add, List.length_cons]
    rw [h1, h2, Nat.pow_succ, Nat.add_mul]
    have : n * 256 * 256 ^ l.length = n * (256 ^ l.length * 256) := by rw [Nat.mul_assoc, Nat.mul_comm 256]
    omega
theorem num_cons (c : UInt8) (l : List UInt8) : num (c :: l) = c.toNat * 256 ^ l.length + num l := by
  have := num_acc c.toNat l
  unfold num at *
  simp only [List.foldl_cons, Nat.zero_mul, Nat.zero_add]
  exact this
theorem num_lt : ∀ l : List UInt8, num l < 256 ^ l.length
  | [] => by simp [num]
  | c :: l => by
    have h1 := num_lt l
    have h2 := c.toNat_lt
    rw [num_cons, List.length_cons, Nat.pow_succ]
    have : c.toNat * 256 ^ l.length ≤ 255 * 256 ^ l.length := Nat.mul_le_mul_right _ (by omega)
    omega
theorem cmp_num : ∀ (a b : List UInt8), a.length = b.length → Lib.compareBytes a b = if num a < num b then -1 else if num b < num a then 1 else 0
  | [], [], _ => by simp [Lib.compareBytes]
  | [], _ :: _, h => by simp at h
  | _ :: _, [], h => by simp at h
  | c :: a, d :: b, h => by
    have hl : a.length = b.length := by simpa using h
    have ih := cmp_num a b hl
    have h1 := num_lt a
    have h2 := num_lt b
    rw [num_cons, num_cons]
    rw [hl] at h1 ⊢
    unfold Lib.compareBytes
    have p : ∀ u v : UInt8, u.toNat < v.toNat → u.toNat * 256 ^ b.length + 256 ^ b.length ≤ v.toNat * 256 ^ b.length := fun u v huv => by
      have := Nat.mul_le_mul_right (256 ^ b.length) (show u.toNat + 1 ≤ v.toNat from huv)
      rw [Nat.add_mul] at this
      omega
    by_cases hcd : c < d
    · have := p c d hcd
      rw [if_pos hcd, if_pos (by omega)]
    · rw [if_neg hcd]
      by_cases hdc : d < c
      · have := p d c hdc
        rw [if_pos hdc, if_neg (by omega), if_pos (by omega)]
      · rw [if_neg hdc, ih]
        have e : c.toNat = d.toNat := by
          have : ¬ c.toNat < d.toNat := hcd
          have : ¬ d.toNat < c.toNat := hdc
          omega
        rw [e]
        simp only [Nat.add_lt_add_iff_left]
theorem num_append : ∀ (a b : List UInt8), num (a ++ b) = num a * 256 ^ b.length + num b
  | [], b => by simp [num]
  | c :: a, b => by rw [List.cons_append, num_cons, num_append a b, num_cons, List.length_append, Nat.pow_add, Nat.add_mul, Nat.mul_assoc]; omega
theorem be_cons (m k : Nat) : be m (k + 1) = UInt8.ofNat (m / 2 ^ (8 * k)) :: be m k := by
  unfold be
  rw [List.range_succ_eq_map, List.map_cons, List.map_map]
  congr 1
  apply List.map_congr_left
  intro i hi
  simp only [Function.comp]
  congr 3
  omega
theorem num_be (m : Nat) : ∀ k, num (be m k) = m % 256 ^ k
  | 0 => by simp [be, num, Nat.mod_one]
  | k + 1 => by
    rw [be_cons, num_cons, num_be m k, be_len, Nat.pow_succ, Nat.mod_mul, show (256 : Nat) ^ k = 2 ^ (8 * k) by rw [Nat.pow_mul]]
    simp only [UInt8.toNat_ofNat', Nat.reducePow]
    rw [Nat.mul_comm, Nat.add_comm]
theorem num_pform (x : Nat) (hx : x < 18446744073709551616) : num (pform x) = if psize x = 9 then 255 * 256 ^ 8 + x else pword x := by
  by_cases h9 : psize x = 9
  · have e : pform x = 255 :: be x 8 := by unfold pform phead pword; rw [if_pos h9, if_pos h9, h9]; rfl
    rw [e, num_cons, be_len, num_be, if_pos h9]
    have : (255 : UInt8).toNat = 255 := rfl
    rw [this]
    omega
  · have h1 := psize_le x
    have e : pform x = be (pword x) (psize x) := by unfold pform phead; rw [if_neg h9, Nat.min_eq_left (by omega)]; rfl
    rw [e, num_be, if_neg h9]
    unfold pword
    rw [if_neg h9]
    rcases psize_cases x with ⟨e, h⟩ | ⟨e, h⟩ | ⟨e, h⟩ | ⟨e, h⟩ | ⟨e, h⟩ | ⟨e, h⟩ | ⟨e, h⟩ | ⟨e, h⟩ | ⟨e, h⟩ <;> rw [e] <;> simp only [Nat.reduceSub, Nat.reducePow, Nat.reduceMul] <;> omega
theorem pform_lt {a b : Nat} (ha : a < 18446744073709551616) (hb : b < 18446744073709551616) (h : psize a = psize b) : num (pform a) < num (pform b) ↔ a < b := by
  rw [num_pform a ha, num_pform b hb]
  unfold pword
  rw [h]
  split <;> omega
theorem psize_mono {a b : Nat} (h : a ≤ b) : psize a ≤ psize b := by
  rcases psize_cases a with g | g | g | g | g | g | g | g | g <;> rcases psize_cases b with k | k | k | k | k | k | k | k | k <;> omega
theorem lead_mono : ∀ c d : UInt8, c.toNat ≤ d.toNat → lead c ≤ lead d := by
  intro c d h
  have : ∀ m n : Nat, m ≤ n → n < 256 → Lib.bitLen m ≤ Lib.bitLen n := by
    intro m n hmn hn
    rcases Nat.eq_zero_or_pos m with rfl | h0
    · have e : Lib.bitLen 0 = 0 := by decide
      omega
    · rw [bitLen_fits m (by omega)]
      have := bitLen_bounds n (by omega) (by omega)
      omega
  have := this (255 - d.toNat) (255 - c.toNat) (by omega) (by omega)
  unfold lead
  omega
theorem lead_of (c : UInt8) (k : Nat) (h1 : 1 ≤ k) (h8 : k ≤ 8) (h : 256 - 2 ^ (9 - k) ≤ c.toNat) (h' : c.toNat < 256 - 2 ^ (8 - k)) : lead c = k := by
  have all : ∀ (j : Fin 256) (k : Fin 9), 1 ≤ k.val → 256 - 2 ^ (9 - k.val) ≤ j.val → j.val < 256 - 2 ^ (8 - k.val) → 9 - Lib.bitLen (255 - j.val) = k.val := by decide +kernel
  exact all ⟨c.toNat, c.toNat_lt⟩ ⟨k, by omega⟩ h1 h h'
theorem pform_lead (x : Nat) : ∃ c t, pform x = c :: t ∧ lead c = psize x := by
  unfold pform phead pword
  rcases psize_cases x with ⟨e, h⟩ | ⟨e, h⟩ | ⟨e, h⟩ | ⟨e, h⟩ | ⟨e, h⟩ | ⟨e, h⟩ | ⟨e, h⟩ | ⟨e, h⟩ | ⟨e, h⟩
  case inr.inr.inr.inr.inr.inr.inr.inr => exact ⟨255, _, by rw [e]; rfl, by rw [e]; decide⟩
  all_goals
    rw [e]
    refine ⟨_, _, (by simp only [Nat.reduceEqDiff, ↓reduceIte, List.nil_append, Nat.reduceLeDiff, Nat.min_eq_left]; exact be_cons _ _), ?_⟩
    apply lead_of _ _ (by omega) (by omega)
    · simp only [UInt8.toNat_ofNat', Nat.reduceSub, Nat.reducePow, Nat.reduceMul]; omega
    · simp only [UInt8.toNat_ofNat', Nat.reduceSub, Nat.reducePow, Nat.reduceMul]; omega
theorem pform_cmp {a b : Nat} (ha : a < 18446744073709551616) (hb : b < 18446744073709551616) : Lib.compareBytes (pform a) (pform b) = if a < b then -1 else if b < a then 1 else 0 := by
  by_cases h : psize a = psize b
  · rw [cmp_num _ _ (by rw [pform_len, pform_len, h])]
    simp only [pform_lt ha hb h, pform_lt hb ha h.symm]
  · obtain ⟨c, s, e1, h1⟩ := pform_lead a
    obtain ⟨d, t, e2, h2⟩ := pform_lead b
    rw [e1, e2]
    unfold Lib.compareBytes
    rcases Nat.lt_or_ge a b with hab | hab
    · have := psize_mono (Nat.le_of_lt hab)
      have hcd : c.toNat < d.toNat := by
        rcases Nat.lt_or_ge c.toNat d.toNat with g | g
        · exact g
        · have := lead_mono d c g; omega
      have p1 : c < d := hcd
      rw [if_pos hab, if_pos p1]
    · have := psize_mono hab
      have hcd : d.toNat < c.toNat := by
        rcases Nat.lt_or_ge d.toNat c.toNat with g | g
        · exact g
        · have := lead_mono c d g; omega
      have hne : a ≠ b := fun g => h (by rw [g])
      have n1 : ¬ c < d := fun (g : c.toNat < d.toNat) => by omega
      have p1 : d < c := hcd
      rw [if_neg n1, if_pos p1, if_neg (by omega), if_pos (by omega)]
theorem pform_no {a b : Nat} (ha : a < 18446744073709551616) (hb : b < 18446744073709551616) (h : a ≠ b) : (pform a).isPrefixOf (pform b) = false := by
  cases hp : (pform a).isPrefixOf (pform b) with
  | false => rfl
  | true =>
    rw [List.isPrefixOf_iff_prefix] at hp
    obtain ⟨t, ht⟩ := hp
    exfalso
    by_cases hs : psize a = psize b
    · have hl := congrArg List.length ht
      rw [List.length_append, pform_len, pform_len] at hl
      have : t = [] := List.eq_nil_of_length_eq_zero (by omega)
      subst this
      rw [List.append_nil] at ht
      have h1 := pform_lt ha hb hs
      have h2 := pform_lt hb ha hs.symm
      rw [ht] at h1 h2
      omega
    · obtain ⟨c, s, e1, h1⟩ := pform_lead a
      obtain ⟨d, u, e2, h2⟩ := pform_lead b
      rw [e1, e2] at ht
      injection ht with hcd _
      subst hcd
      omega
end Go.Proofs.Ytedjolkkidciiaa

namespace Go.Proofs.Ytedjolkkidciiaa
open Go.RowKit

theorem num_inj : ∀ (a b : List UInt8), a.length = b.length → num a = num b → a = b
  | [], [], _, _ => rfl
  | [], _ :: _, h, _ => by simp at h
  | _ :: _, [], h, _ => by simp at h
  | c :: a, d :: b, h, hn => by
    have hl : a.length = b.length := by simpa using h
    have h1 := num_lt a
    have h2 := num_lt b
    rw [num_cons, num_cons] at hn
    rw [hl] at h1 hn
    have p : ∀ u v : UInt8, u.toNat < v.toNat → u.toNat * 256 ^ b.length + 256 ^ b.length ≤ v.toNat * 256 ^ b.length := fun u v huv => by
      have := Nat.mul_le_mul_right (256 ^ b.length) (show u.toNat + 1 ≤ v.toNat from huv)
      rw [Nat.add_mul] at this
      omega
    have e : c.toNat = d.toNat := by
      rcases Nat.lt_trichotomy c.toNat d.toNat with g | g | g
      · have := p c d g; omega
      · exact g
      · have := p d c g; omega
    rw [e] at hn
    rw [UInt8.toNat_inj.1 e, num_inj a b hl (by omega)]
theorem getP_form (x : Nat) (hx : x < 18446744073709551616) (r : List UInt8) : getP (pform x ++ r) = (x, psize x, 0) := by
  obtain ⟨c, t, e, h⟩ := pform_lead x
  have hl := pform_len x
  have hk := psize_pos x
  have h0 : (pform x ++ r).getD 0 0 = c := by rw [e]; rfl
  have hlen : (pform x ++ r).length = psize x + r.length := by rw [List.length_append, hl]
  have ht : (pform x ++ r).take (psize x) = pform x := by rw [List.take_append_of_le_length (by omega), List.take_of_length_le (by omega)]
  have hn : getNum (pform x ++ r) (psize x) = x := by
    unfold getNum
    rw [ht, num_pform x hx]
    unfold pword
    rcases psize_cases x with ⟨e, h⟩ | ⟨e, h⟩ | ⟨e, h⟩ | ⟨e, h⟩ | ⟨e, h⟩ | ⟨e, h⟩ | ⟨e, h⟩ | ⟨e, h⟩ | ⟨e, h⟩ <;> rw [e] <;> simp <;> omega
  unfold getP
  rw [h0, h, hlen, if_neg (by omega), if_neg (by omega), hn, if_pos rfl]
theorem getP_cut (x : Nat) (r : List UInt8) (j : Nat) (hj : j < psize x) : getP ((pform x ++ r).take j) = (0, 0, 4) := by
  obtain ⟨c, t, e, h⟩ := pform_lead x
  have hl := pform_len x
  have hlen : ((pform x ++ r).take j).length = j := by rw [List.length_take, List.length_append, hl]; omega
  unfold getP
  rcases Nat.eq_zero_or_pos j with rfl | h0
  · rw [if_pos hlen]
  · have hg : ((pform x ++ r).take j).getD 0 0 = c := by
      rw [e]
      obtain ⟨i, rfl⟩ : ∃ i, j = i + 1 := ⟨j - 1, by omega⟩
      rfl
    rw [if_neg (by omega), hg, h, hlen, if_pos hj]
theorem getP_whole (x : Nat) (hx : x < 18446744073709551616) (r : List UInt8) (j : Nat) (hj : psize x ≤ j) : getP ((pform x ++ r).take j) = (x, psize x, 0) := by
  rw [List.take_append, List.take_of_length_le (by rw [pform_len]; exact hj)]
  exact getP_form x hx _
theorem lead_range (c : UInt8) : (lead c = 9 ∧ c.toNat = 255) ∨ (1 ≤ lead c ∧ lead c ≤ 8 ∧ 256 - 2 ^ (9 - lead c) ≤ c.toNat ∧ c.toNat < 256 - 2 ^ (8 - lead c)) := by
  have all : ∀ j : Fin 256, (9 - Lib.bitLen (255 - j.val) = 9 ∧ j.val = 255) ∨ (1 ≤ 9 - Lib.bitLen (255 - j.val) ∧ 9 - Lib.bitLen (255 - j.val) ≤ 8 ∧ 256 - 2 ^ (9 - (9 - Lib.bitLen (255 - j.val))) ≤ j.val ∧ j.val < 256 - 2 ^ (8 - (9 - Lib.bitLen (255 - j.val)))) := by decide +kernel
  exact all ⟨c.toNat, c.toNat_lt⟩
theorem getP_any (l : List UInt8) : ((getP l).2.2 = 0 ∧ (getP l).2.1 ≤ l.length ∧ (getP l).1 < 18446744073709551616 ∧ pform (getP l).1 = l.take (getP l).2.1) ∨ (((getP l).2.2 = 4 ∨ (getP l).2.2 = 5) ∧ (getP l).1 = 0 ∧ (getP l).2.1 = 0) := by
  unfold getP
  cases l with
  | nil => right; simp
  | cons c t =>
    rw [if_neg (by simp)]
    have h0 : (c :: t).getD 0 0 = c := rfl
    rw [h0]
    split
    · right; simp
    · rename_i hlen
      split
      · left
        rename_i hs
        have hk : 1 ≤ lead c := by rcases lead_range c with ⟨h, _⟩ | ⟨h, _⟩ <;> omega
        have hlt : getNum (c :: t) (lead c) < 18446744073709551616 := by
          have hm := Nat.mod_lt (num ((c :: t).take (lead c))) (show 18446744073709551616 > 0 by omega)
          unfold getNum
          split
          · exact Nat.lt_of_le_of_lt (Nat.mod_le _ _) hm
          · exact hm
        refine ⟨rfl, by show lead c ≤ _; omega, hlt, ?_⟩
        show pform (getNum (c :: t) (lead c)) = (c :: t).take (lead c)
        have hl2 : ((c :: t).take (lead c)).length = lead c := by rw [List.length_take]; omega
        apply num_inj _ _ (by rw [pform_len, hs, hl2])
        rw [num_pform _ hlt, hs]
        obtain ⟨k, hk'⟩ : ∃ k, lead c = k + 1 := ⟨lead c - 1, by omega⟩
        have hz := num_lt (t.take k)
        have hzl : (t.take k).length = k := by rw [hk'] at hl2; simpa using hl2
        rw [hzl] at hz
        have hnum : num ((c :: t).take (lead c)) = c.toNat * 256 ^ k + num (t.take k) := by
          rw [hk', List.take_succ_cons, num_cons, hzl]
        unfold pword
        rw [hs]
        unfold getNum
        rw [hnum, hk']
        generalize num (t.take k) = z at *
        rcases lead_range c with ⟨h, hc⟩ | ⟨_, h8, hc1, hc2⟩
        · rw [hk'] at h
          obtain rfl : k = 8 := by omega
          rw [hc]
          simp
          simp at hz
          omega
        · rw [hk'] at h8 hc1 hc2
          have hcase : k = 0 ∨ k = 1 ∨ k = 2 ∨ k = 3 ∨ k = 4 ∨ k = 5 ∨ k = 6 ∨ k = 7 := by omega
          have hcl := c.toNat_lt
          generalize c.toNat = y at *
          clear hs hlt hnum hl2 hzl hk' h0 hlen hk
          rcases hcase with rfl | rfl | rfl | rfl | rfl | rfl | rfl | rfl <;> simp at hz hc1 hc2 ⊢ <;> omega
      · right; simp
end Go.Proofs.Ytedjolkkidciiaa
