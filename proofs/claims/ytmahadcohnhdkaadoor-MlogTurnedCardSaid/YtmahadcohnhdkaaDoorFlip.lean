/- Bits turned within a row of bytes. Plain laws, no condition. -/
import Derived.Test.YtmahadcohnhdkaaDoorGC
import Derived.Laws.OwnMore
namespace Go.Proofs.YtmahadcohnhdkaaDoor
open Go.RowKit

theorem numL_set : ∀ (l : List UInt8) (j b : Nat) (c : UInt8), (hj : j < l.length) → b < 8 → c.toNat = (l[j]'hj).toNat ^^^ 2 ^ b → numL (l.set j c) = numL l ^^^ 2 ^ (8 * j + b)
  | [], j, _, _, hj, _, _ => absurd hj (by simp)
  | a :: t, 0, b, c, _, hb, hc => by
    have hc : c.toNat = a.toNat ^^^ 2 ^ b := hc
    have h1 := a.toNat_lt
    have h2 := c.toNat_lt
    show c.toNat + 256 * numL t = (a.toNat + 256 * numL t) ^^^ 2 ^ (8 * 0 + b)
    rw [show (256 : Nat) = 2 ^ 8 from rfl, ← xor_add _ _ 8 (by omega), ← xor_add _ _ 8 (by omega), hc, Nat.mul_zero, Nat.zero_add, Nat.xor_assoc, Nat.xor_assoc, Nat.xor_comm (2 ^ b)]
  | a :: t, j + 1, b, c, hj, hb, hc => by
    have ih := numL_set t j b c (by simpa using hj) hb hc
    have h1 := a.toNat_lt
    show a.toNat + 256 * numL (t.set j c) = (a.toNat + 256 * numL t) ^^^ 2 ^ (8 * (j + 1) + b)
    rw [ih, show (256 : Nat) = 2 ^ 8 from rfl, ← xor_add _ _ 8 (by omega), ← xor_add _ _ 8 (by omega), Nat.xor_assoc]
    congr 1
    rw [Nat.mul_comm, ← xor_mul_pow, Nat.mul_comm (2 ^ 8)]
    congr 1
    rw [← Nat.pow_add]
    congr 1
    omega

theorem mod_bit (m k : Nat) : m % 2 ^ (k + 1) = m % 2 ^ k + 2 ^ k * (m / 2 ^ k % 2) := by
  rw [Nat.pow_succ, Nat.mod_mul]
theorem flip_yes (N m k f : Nat) (h : m / 2 ^ k % 2 = 1) : (N ^^^ (m % 2 ^ k * 2 ^ f)) ^^^ 2 ^ (f + k) = N ^^^ (m % 2 ^ (k + 1) * 2 ^ f) := by
  have hx : (m % 2 ^ k) ^^^ (2 ^ k * 1) = m % 2 ^ k + 2 ^ k * 1 := xor_add _ _ k (Nat.mod_lt _ (Nat.two_pow_pos k))
  rw [mod_bit, h, ← hx, ← xor_mul_pow, Nat.xor_assoc, Nat.mul_one, ← Nat.pow_add, Nat.add_comm k f]
theorem flip_no (m k : Nat) (h : m / 2 ^ k % 2 = 0) : m % 2 ^ (k + 1) = m % 2 ^ k := by rw [mod_bit, h]; omega

/-- l is L with the bits of m below k turned, from bit f on -/
structure Flip (l L : List UInt8) (m f k : Nat) : Prop where
  len : l.length = L.length
  num : numL l = numL L ^^^ (m % 2 ^ k * 2 ^ f)
theorem Flip.zero (L : List UInt8) (m f : Nat) : Flip L L m f 0 := ⟨rfl, by rw [Nat.pow_zero, Nat.mod_one, Nat.zero_mul, Nat.xor_zero]⟩
theorem Flip.skip {l L : List UInt8} {m f k : Nat} (h : Flip l L m f k) (hb : m / 2 ^ k % 2 = 0) : Flip l L m f (k + 1) := ⟨h.len, by rw [h.num, flip_no _ _ hb]⟩
theorem Flip.set {l L : List UInt8} {m f k : Nat} (h : Flip l L m f k) (hb : m / 2 ^ k % 2 = 1) (j b : Nat) (hj : j < l.length) (hb8 : b < 8) (he : 8 * j + b = f + k) : Flip (l.set j (UInt8.ofNat ((l[j]'hj).toNat ^^^ 2 ^ b))) L m f (k + 1) := by
  have h8 : (2 : Nat) ^ b < 2 ^ 8 := Nat.pow_lt_pow_right (by decide) hb8
  have h1 := (l[j]'hj).toNat_lt
  have hx : (l[j]'hj).toNat ^^^ 2 ^ b < 2 ^ 8 := Nat.xor_lt_two_pow h1 h8
  exact ⟨by rw [List.length_set, h.len], by rw [numL_set l j b _ hj hb8 (by rw [UInt8.toNat_ofNat']; exact Nat.mod_eq_of_lt hx), h.num, he, flip_yes _ _ _ _ hb]⟩
theorem or1_u32 (a : Nat) (ha : a < 4294967296) : bits .or .u32 (a : Int) 1 = ((a / 2 * 2 + 1 : Nat) : Int) := by
  have h1 : (BitVec.ofInt 32 (a : Int)).toNat = a := by
    rw [BitVec.ofInt_natCast, BitVec.toNat_ofNat]; exact Nat.mod_eq_of_lt (by omega)
  show IntKind.u32.wrap ((BitVec.ofInt 32 (a : Int) ||| BitVec.ofInt 32 1).toNat : Int) = _
  rw [BitVec.toNat_or, h1, show (BitVec.ofInt 32 1).toNat = 1 from rfl, or1_nat, IntKind.wrap_u32]
  omega
theorem and1_u32 (a : Nat) (ha : a < 4294967296) : bits .and .u32 (a : Int) 1 = ((a % 2 : Nat) : Int) := by
  have := bits_and_u32_nat a 1 ha (by omega)
  rw [Nat.and_one_is_mod] at this
  exact this

theorem bits_xor_u8_nat (a b : Nat) (ha : a < 256) (hb : b < 256) : bits .xor .u8 (a : Int) (b : Int) = ((a ^^^ b : Nat) : Int) := by
  have hx : a ^^^ b < 2 ^ 8 := Nat.xor_lt_two_pow (by omega) (by omega)
  have h1 : (BitVec.ofInt 8 (a : Int)).toNat = a := by
    rw [BitVec.ofInt_natCast, BitVec.toNat_ofNat]; exact Nat.mod_eq_of_lt (by omega)
  have h2 : (BitVec.ofInt 8 (b : Int)).toNat = b := by
    rw [BitVec.ofInt_natCast, BitVec.toNat_ofNat]; exact Nat.mod_eq_of_lt (by omega)
  show IntKind.u8.wrap ((BitVec.ofInt 8 (a : Int) ^^^ BitVec.ofInt 8 (b : Int)).toNat : Int) = _
  rw [BitVec.toNat_xor, h1, h2, IntKind.wrap_u8]
  omega
theorem xor_bit (u : UInt8) (b : Nat) (hb : b < 8) : bits .xor .u8 (u.toNat : Int) (2 ^ b % 256) = ((UInt8.ofNat (u.toNat ^^^ 2 ^ b)).toNat : Int) := by
  have h8 : (2 : Nat) ^ b < 2 ^ 8 := Nat.pow_lt_pow_right (by decide) hb
  have h1 := u.toNat_lt
  have hx : u.toNat ^^^ 2 ^ b < 2 ^ 8 := Nat.xor_lt_two_pow h1 h8
  have e : ((2 : Int) ^ b % 256) = ((2 ^ b : Nat) : Int) := by
    rw [← Nat.mod_eq_of_lt h8]
    simp
  rw [e, bits_xor_u8_nat _ _ h1 h8, UInt8.toNat_ofNat', Nat.mod_eq_of_lt hx]
theorem bset_eq (l : List UInt8) (j : Nat) (V : UInt8) : (bcells l).set j (.int .u8 (V.toNat : Int)) = bcells (l.set j V) := by unfold bcells; rw [List.map_set]
theorem numL_cut (a : List UInt8) (n : Nat) (hn : n ≤ a.length) : numL (a.take n) = numL a % 2 ^ (8 * n) := by
  have ea : numL a = numL (a.take n) + 256 ^ n * numL (a.drop n) := by
    have := numL_append (a.take n) (a.drop n)
    rwa [List.take_append_drop, List.length_take, Nat.min_eq_left hn] at this
  have la := numL_lt (a.take n)
  rw [List.length_take, Nat.min_eq_left hn] at la
  rw [show (256 : Nat) ^ n = 2 ^ (8 * n) by rw [Nat.pow_mul]] at ea la
  rw [ea, Nat.add_mul_mod_self_left, Nat.mod_eq_of_lt la]
/-- the first n bytes, where bits are turned from bit p on -/
theorem numL_turn (a b : List UInt8) (n : Nat) (hn : n ≤ a.length) (hl : b.length = a.length) (m p : Nat) (hp : p ≤ 8 * n) (h : numL b = numL a ^^^ (m * 2 ^ p)) : numL (b.take n) = numL (a.take n) ^^^ (m % 2 ^ (8 * n - p) * 2 ^ p) := by
  rw [numL_cut a n hn, numL_cut b n (by omega), h, Nat.xor_mod_two_pow]
  congr 1
  have e : (2 : Nat) ^ (8 * n) = 2 ^ (8 * n - p) * 2 ^ p := by rw [← Nat.pow_add]; congr 1; omega
  rw [e, Nat.mul_mod_mul_right]
theorem numL_same (a b : List UInt8) (n : Nat) (hn : n ≤ a.length) (hl : b.length = a.length) (m p : Nat) (hp : 8 * n ≤ p) (h : numL b = numL a ^^^ (m * 2 ^ p)) : b.take n = a.take n := by
  refine numL_inj _ _ (by rw [List.length_take, List.length_take, hl]) ?_
  rw [numL_cut a n hn, numL_cut b n (by omega), h, Nat.xor_mod_two_pow]
  have e : m * 2 ^ p = 2 ^ (8 * n) * (m * 2 ^ (p - 8 * n)) := by
    rw [Nat.mul_comm (2 ^ (8 * n)), Nat.mul_assoc, ← Nat.pow_add]; congr 2; omega
  rw [e, Nat.mul_mod_right, Nat.xor_zero]
theorem odd_mod {M k : Nat} (h : M % 2 = 1) (hk : 1 ≤ k) : M % 2 ^ k % 2 = 1 := by
  obtain ⟨j, rfl⟩ : ∃ j, k = j + 1 := ⟨k - 1, by omega⟩
  have : M % 2 ^ (j + 1) % 2 = M % 2 := Nat.mod_mod_of_dvd _ ⟨2 ^ j, by rw [Nat.pow_succ, Nat.mul_comm]⟩
  omega
end Go.Proofs.YtmahadcohnhdkaaDoor
