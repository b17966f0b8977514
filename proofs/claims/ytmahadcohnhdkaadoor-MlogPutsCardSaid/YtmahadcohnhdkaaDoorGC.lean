/- Several texts in one: FixLaw, Pfx, CrcLaw, Crc1, CrcRt, Head1, Head2, HeadLaw. No condition of its own. -/
import Derived.Test.YtmahadcohnhdkaaDoorGP
import Derived.Test.YtmahadcohnhdkaaDoorGA
import Derived.Test.YtmahadcohnhdkaaDoorGB
import Derived.Laws.Cover3
import Derived.Lib.SlBytesConst
namespace Go.Proofs.YtmahadcohnhdkaaDoor
open Go.RowKit

theorem le_cons (m k : Nat) : le m (k + 1) = UInt8.ofNat m :: le (m / 256) k := by
  unfold le
  rw [List.range_succ_eq_map, List.map_cons, List.map_map]
  congr 1
  · simp
  · apply List.map_congr_left
    intro i _
    simp only [Function.comp]
    congr 1
    rw [show 8 * (i + 1) = 8 + 8 * i by omega, Nat.pow_add, ← Nat.div_div_eq_div_mul]
theorem le_numLE : ∀ s : List UInt8, le (numLE s) s.length = s
  | [] => rfl
  | c :: s => by
    have hc := c.toNat_lt
    rw [List.length_cons, le_cons, numLE_cons, show (c.toNat + 256 * numLE s) / 256 = numLE s by omega, le_numLE s]
    congr 1
    apply UInt8.toNat_inj.1
    simp only [UInt8.toNat_ofNat']
    omega
theorem numLE_le : ∀ (k m : Nat), m < 2 ^ (8 * k) → numLE (le m k) = m
  | 0, m, h => by have : m = 0 := by simpa using h
                  subst this; rfl
  | k + 1, m, h => by
    rw [le_cons, numLE_cons, numLE_le k (m / 256) (by
      rw [show 8 * (k + 1) = 8 * k + 8 by omega, Nat.pow_add] at h
      exact Nat.div_lt_of_lt_mul (by rw [Nat.mul_comm]; exact h))]
    simp only [UInt8.toNat_ofNat']
    omega
theorem fits_iff (n k : Nat) : fits n ((k : Nat) : Int) = true ↔ n < 2 ^ k := by unfold fits; simp
theorem fits_8 {n : Nat} (hn : n < 18446744073709551616) : fits n (8 * ((8 : Nat) : Int)) = true := by unfold fits; simpa using hn
theorem fits_mul (n k : Nat) : fits n (8 * (k : Int)) = fits n ((8 * k : Nat) : Int) := by congr 1
theorem shr_fits (n k : Nat) : ((n : Int) / 2 ^ k == 0) = fits n ((k : Nat) : Int) := by
  have h0 := Nat.two_pow_pos k
  have e : ((n : Int) / 2 ^ k) = ((n / 2 ^ k : Nat) : Int) := by simp
  rw [e]
  unfold fits
  rw [Bool.eq_iff_iff, beq_iff_eq, decide_eq_true_eq, Int.toNat_natCast]
  have : n / 2 ^ k = 0 ↔ n < 2 ^ k := by rw [Nat.div_eq_zero_iff]; omega
  omega
theorem fixed_yes {n k : Nat} (h1 : 1 ≤ k) (h8 : k ≤ 8) (h : fits n (8 * (k : Int)) = true) : fixedB [] n k = le n k ∧ fixedE n k = 0 := by
  unfold fixedB fixedE fixedOk
  rw [h]
  constructor
  · rw [if_pos (by simp; omega)]; simp
  · rw [if_neg (by omega), if_pos rfl]
theorem fixed_no {n k : Nat} (h1 : 1 ≤ k) (h8 : k ≤ 8) (h : fits n (8 * (k : Int)) = false) : fixedB [] n k = [] ∧ fixedE n k = 3 := by
  unfold fixedB fixedE fixedOk
  rw [h]
  constructor
  · rw [if_neg (by simp)]
  · rw [if_neg (by omega), if_neg (by simp)]
theorem read_whole {l : List UInt8} {k : Nat} (h1 : 1 ≤ k) (h8 : k ≤ 8) (h : k ≤ l.length) : readN l k = numLE (l.take k) ∧ readE l k = 0 := by
  unfold readN readE
  exact ⟨by rw [if_neg (by omega), Int.toNat_natCast], by rw [if_neg (by omega), if_neg (by omega)]⟩
theorem read_short {l : List UInt8} {k : Nat} (h1 : 1 ≤ k) (h8 : k ≤ 8) (h : l.length < k) : readN l k = 0 ∧ readE l k = 4 := by
  unfold readN readE
  exact ⟨by rw [if_pos (by omega)], by rw [if_neg (by omega), if_pos (by omega)]⟩
theorem read_le {n k : Nat} (l : List UInt8) (h1 : 1 ≤ k) (h8 : k ≤ 8) (h : fits n (8 * (k : Int)) = true) : readN (le n k ++ l) k = n ∧ readE (le n k ++ l) k = 0 := by
  have := read_whole (l := le n k ++ l) h1 h8 (by rw [List.length_append, le_len]; omega)
  rw [List.take_append_of_le_length (by rw [le_len]; exact Nat.le_refl _), List.take_of_length_le (by rw [le_len]; exact Nat.le_refl _), numLE_le] at this
  · exact this
  · rw [fits_mul, fits_iff] at h; exact h
theorem read_fits {l : List UInt8} {k : Nat} (h1 : 1 ≤ k) (h8 : k ≤ 8) (h : k ≤ l.length) : readN l k < 18446744073709551616 ∧ fits (readN l k) (8 * (k : Int)) = true ∧ le (readN l k) k = l.take k := by
  have e := (read_whole h1 h8 h).1
  rw [e]
  refine ⟨numLE_64 l h8, by rw [fits_mul, fits_iff]; exact numLE_8j l h, ?_⟩
  have := le_numLE (l.take k)
  rwa [List.length_take, Nat.min_eq_left h] at this
theorem narrow_is {n k : Nat} (h1 : 1 ≤ k) (h2 : k ≤ 32) : narrowN n k = (if fits n ((k : Nat) : Int) then n else 0) ∧ narrowE n k = (if fits n ((k : Nat) : Int) then 0 else 3) := by
  unfold narrowN narrowE
  exact ⟨by rw [if_neg (by omega)], by rw [if_neg (by omega)]⟩
end Go.Proofs.YtmahadcohnhdkaaDoor



namespace Go.Proofs.YtmahadcohnhdkaaDoor

/-- a row of bytes as a number, the least byte first -/
def numL : List UInt8 → Nat
  | [] => 0
  | c :: l => c.toNat + 256 * numL l
theorem numL_lt : ∀ l : List UInt8, numL l < 256 ^ l.length
  | [] => by decide
  | c :: l => by
    have := numL_lt l
    have := c.toNat_lt
    rw [numL, List.length_cons, Nat.pow_succ]
    omega
theorem numL_inj : ∀ (a b : List UInt8), a.length = b.length → numL a = numL b → a = b
  | [], [], _, _ => rfl
  | u :: a, v :: b, hl, h => by
    rw [numL, numL] at h
    have hu := u.toNat_lt
    have hv := v.toNat_lt
    rw [numL_inj a b (by simpa using hl) (by omega), UInt8.toNat_inj.1 (show u.toNat = v.toNat by omega)]
theorem numL_append : ∀ (a b : List UInt8), numL (a ++ b) = numL a + 256 ^ a.length * numL b
  | [], b => by simp [numL]
  | u :: a, b => by
    rw [List.cons_append, numL, numL_append a b, numL, List.length_cons, Nat.pow_succ, Nat.mul_add, Nat.add_assoc, ← Nat.mul_assoc, Nat.mul_comm 256 (256 ^ _)]

theorem xor_mul_pow (a b k : Nat) : (a * 2 ^ k) ^^^ (b * 2 ^ k) = (a ^^^ b) * 2 ^ k := by
  rw [← Nat.shiftLeft_eq, ← Nat.shiftLeft_eq, ← Nat.shiftLeft_eq, Nat.shiftLeft_xor_distrib]
theorem xor_div2 (a b : Nat) : (a ^^^ b) / 2 = (a / 2) ^^^ (b / 2) := by
  have := Nat.shiftRight_xor_distrib (i := 1) (a := a) (b := b)
  simpa [Nat.shiftRight_eq_div_pow] using this
theorem xor_mod2 (a b : Nat) : (a ^^^ b) % 2 = (a % 2 + b % 2) % 2 := by
  have := Nat.xor_mod_two_pow (n := 1) (a := a) (b := b)
  rw [Nat.pow_one] at this
  rw [this]
  rcases Nat.mod_two_eq_zero_or_one a with ha | ha <;> rcases Nat.mod_two_eq_zero_or_one b with hb | hb <;> simp [ha, hb]
theorem xor_add (x y k : Nat) (h : x < 2 ^ k) : x ^^^ (2 ^ k * y) = x + 2 ^ k * y := by
  refine Nat.eq_of_testBit_eq fun i => ?_
  rw [Nat.testBit_xor, Nat.add_comm, Nat.testBit_two_pow_mul_add y h i]
  by_cases hi : i < k
  · rw [if_pos hi]
    have : (2 ^ k * y).testBit i = false := by rw [Nat.testBit_two_pow_mul]; simp; omega
    rw [this, Bool.xor_false]
  · rw [if_neg hi]
    have : x.testBit i = false := Nat.testBit_lt_two_pow (Nat.lt_of_lt_of_le h (Nat.pow_le_pow_right (by decide) (by omega)))
    rw [this, Bool.false_xor, Nat.testBit_two_pow_mul]
    simp; omega

/-- the modulus but its greatest power -/
def modC : Nat := 2197175160
/-- a step -/
def stepC (a : Nat) : Nat := (a / 2) ^^^ (if a % 2 = 1 then modC else 0)
theorem stepC_xor (a b : Nat) : stepC (a ^^^ b) = stepC a ^^^ stepC b := by
  unfold stepC
  rw [xor_div2, xor_mod2]
  have ha := Nat.mod_two_eq_zero_or_one a
  have hb := Nat.mod_two_eq_zero_or_one b
  rcases ha with ha | ha <;> rcases hb with hb | hb <;> simp [ha, hb]
  · rw [Nat.xor_assoc]
  · rw [Nat.xor_assoc, Nat.xor_comm (b / 2), ← Nat.xor_assoc]
  · rw [Nat.xor_assoc, Nat.xor_comm (b / 2), ← Nat.xor_assoc modC, Nat.xor_self, Nat.zero_xor]
theorem stepC_even (a : Nat) : stepC (a * 2) = a := by
  unfold stepC
  rw [show a * 2 / 2 = a by omega, if_neg (by omega), Nat.xor_zero]
theorem stepC_lt {a : Nat} (h : a < 4294967296) : stepC a < 4294967296 := by
  unfold stepC
  refine Nat.xor_lt_two_pow (n := 32) (by omega) ?_
  split <;> decide
theorem stepC_zero {a : Nat} (h : a < 4294967296) (e : stepC a = 0) : a = 0 := by
  unfold stepC at e
  split at e
  · have e2 : a / 2 = modC := by
      have := congrArg (· ^^^ modC) e
      simpa [Nat.xor_assoc] using this
    unfold modC at e2
    omega
  · rw [Nat.xor_zero] at e
    omega

/-- so many steps -/
def stepsC : Nat → Nat → Nat
  | 0, a => a
  | n + 1, a => stepsC n (stepC a)
theorem stepsC_xor : ∀ (n a b : Nat), stepsC n (a ^^^ b) = stepsC n a ^^^ stepsC n b
  | 0, _, _ => rfl
  | n + 1, a, b => by rw [stepsC, stepsC, stepsC, stepC_xor, stepsC_xor n]
theorem stepsC_add : ∀ (m n a : Nat), stepsC (m + n) a = stepsC n (stepsC m a)
  | 0, n, a => by rw [Nat.zero_add]; rfl
  | m + 1, n, a => by rw [show m + 1 + n = (m + n) + 1 by omega, stepsC, stepsC, stepsC_add m n]
theorem stepsC_mul : ∀ (n a : Nat), stepsC n (a * 2 ^ n) = a
  | 0, a => by simp [stepsC]
  | n + 1, a => by rw [stepsC, Nat.pow_succ, ← Nat.mul_assoc, stepC_even, stepsC_mul n a]
theorem stepsC_lt : ∀ (n : Nat) {a : Nat}, a < 4294967296 → stepsC n a < 4294967296
  | 0, _, h => h
  | n + 1, _, h => stepsC_lt n (stepC_lt h)
theorem stepsC_zero : ∀ (n : Nat) {a : Nat}, a < 4294967296 → stepsC n a = 0 → a = 0
  | 0, _, _, e => e
  | n + 1, _, h, e => stepC_zero h (stepsC_zero n (stepC_lt h) e)
theorem stepsC_z : ∀ n, stepsC n 0 = 0
  | 0 => rfl
  | n + 1 => by rw [stepsC, show stepC 0 = 0 by decide, stepsC_z n]
theorem xor_zero_eq {a b : Nat} (h : a ^^^ b = 0) : a = b := by
  have := congrArg (· ^^^ b) h
  simpa [Nat.xor_assoc] using this
theorem stepsC_inj (n : Nat) {a b : Nat} (ha : a < 4294967296) (hb : b < 4294967296) (e : stepsC n a = stepsC n b) : a = b :=
  xor_zero_eq (stepsC_zero n (Nat.xor_lt_two_pow (n := 32) ha hb) (by rw [stepsC_xor, e, Nat.xor_self]))

/-- the sum of a row: bytes into a register -/
def byteC (s : Nat) (c : UInt8) : Nat := stepsC 8 (s ^^^ c.toNat)
def runC (s : Nat) (l : List UInt8) : Nat := l.foldl byteC s
theorem runC_steps : ∀ (l : List UInt8) (s : Nat), runC s l = stepsC (8 * l.length) (s ^^^ numL l)
  | [], s => by simp [runC, numL, stepsC]
  | c :: l, s => by
    have ih := runC_steps l (byteC s c)
    rw [runC, List.foldl_cons]
    rw [runC] at ih
    rw [ih, List.length_cons, show 8 * (l.length + 1) = 8 + 8 * l.length by omega, stepsC_add, byteC]
    have e : numL l = stepsC 8 (numL l * 2 ^ 8) := (stepsC_mul 8 _).symm
    have e2 : c.toNat ^^^ (numL l * 2 ^ 8) = numL (c :: l) := by
      rw [Nat.mul_comm, xor_add c.toNat (numL l) 8 c.toNat_lt]; rfl
    rw [e, ← stepsC_xor, Nat.xor_assoc, e2]
theorem runC_lt (s : Nat) (l : List UInt8) (h : s < 4294967296) : runC s l < 4294967296 := by
  induction l generalizing s with
  | nil => exact h
  | cons c l ih => exact ih _ (stepsC_lt 8 (Nat.xor_lt_two_pow (n := 32) h (Nat.lt_of_lt_of_le c.toNat_lt (by decide))))
theorem runC_append (s : Nat) (a b : List UInt8) : runC s (a ++ b) = runC (runC s a) b := by simp [runC]

/-- the sum that a row bears -/
def sumC (l : List UInt8) : Nat := 4294967295 ^^^ runC 4294967295 l
theorem sumC_lt (l : List UInt8) : sumC l < 4294967296 := Nat.xor_lt_two_pow (n := 32) (by decide) (runC_lt _ _ (by decide))
/-- a number in four bytes, the lowest one first -/
def laidC (n : Nat) : List UInt8 := [UInt8.ofNat n, UInt8.ofNat (n / 256), UInt8.ofNat (n / 65536), UInt8.ofNat (n / 16777216)]
theorem laidC_len (n : Nat) : (laidC n).length = 4 := rfl
theorem laidC_num {n : Nat} (h : n < 4294967296) : numL (laidC n) = n := by
  simp only [laidC, numL, UInt8.toNat_ofNat']
  omega
/-- a row and its sum -/
def coverC (l : List UInt8) : List UInt8 := l ++ laidC (sumC l)
theorem coverC_len (l : List UInt8) : (coverC l).length = l.length + 4 := by simp [coverC, laidC_len]
def restC : Nat := stepsC 32 4294967295
/-- a row with four bytes behind is right just if the register ends at one number -/
theorem right_iff (l v : List UInt8) (hv : v.length = 4) : v = laidC (sumC l) ↔ runC 4294967295 (l ++ v) = restC := by
  have hr := runC_lt 4294967295 l (by decide)
  have hn := numL_lt v
  rw [hv] at hn
  rw [runC_append, runC_steps v, hv]
  constructor
  · intro h
    rw [h, laidC_num (sumC_lt l), sumC, Nat.xor_comm 4294967295, ← Nat.xor_assoc, Nat.xor_self, Nat.zero_xor]
    rfl
  · intro h
    have h2 := stepsC_inj (8 * 4) (Nat.xor_lt_two_pow (n := 32) hr hn) (by decide) (h : _ = stepsC (8 * 4) 4294967295)
    refine numL_inj _ _ hv ?_
    rw [laidC_num (sumC_lt l), sumC]
    have := congrArg (runC 4294967295 l ^^^ ·) h2
    rw [← Nat.xor_assoc, Nat.xor_self, Nat.zero_xor] at this
    rw [this, Nat.xor_comm]
theorem cover_rest (l : List UInt8) : runC 4294967295 (coverC l) = restC := (right_iff l _ (laidC_len _)).1 rfl

/-- bits turned: a number of at most 32 bits, not 0, anywhere: the register no longer ends there -/
theorem turned (a b : List UInt8) (hl : a.length = b.length) (m p : Nat) (hm : m < 4294967296) (h0 : m ≠ 0) (hp : p ≤ 8 * a.length) (hx : numL b = numL a ^^^ (m * 2 ^ p)) (s : Nat) : runC s a ≠ runC s b := by
  intro e
  rw [runC_steps, runC_steps, hx, ← Nat.xor_assoc, ← hl, stepsC_xor _ (s ^^^ numL a)] at e
  have e2 : stepsC (8 * a.length) (m * 2 ^ p) = 0 := by
    have := congrArg (stepsC (8 * a.length) (s ^^^ numL a) ^^^ ·) e
    rw [Nat.xor_self, ← Nat.xor_assoc, Nat.xor_self, Nat.zero_xor] at this
    exact this.symm
  rw [show 8 * a.length = p + (8 * a.length - p) by omega, stepsC_add, stepsC_mul] at e2
  exact h0 (stepsC_zero _ hm e2)

/-- four steps by the table -/
def halfC : List Nat := [0, 274646895, 549293790, 820201905, 1098587580, 1361435347, 1640403810, 1905808397, 2197175160, 2460548119, 2722870694, 2987750089, 3280807620, 3553878443, 3811616794, 4084100981]
theorem half_steps (s : Nat) : stepsC 4 s = (s / 16) ^^^ halfC.getD (s % 16) 0 := by
  have e : s = (s / 16 * 2 ^ 4) ^^^ (s % 16) := by
    rw [Nat.xor_comm, Nat.mul_comm, xor_add _ _ 4 (by omega)]; omega
  have all : ∀ j : Fin 16, stepsC 4 j.val = halfC.getD j.val 0 := by decide
  have := all ⟨s % 16, by omega⟩
  conv => lhs; rw [e]
  rw [stepsC_xor, stepsC_mul]
  exact congrArg _ this
theorem byteC_half (s : Nat) (c : UInt8) : byteC s c = (((s ^^^ c.toNat) / 16 ^^^ halfC.getD ((s ^^^ c.toNat) % 16) 0) / 16) ^^^ halfC.getD (((s ^^^ c.toNat) / 16 ^^^ halfC.getD ((s ^^^ c.toNat) % 16) 0) % 16) 0 := by
  unfold byteC
  rw [show (8 : Nat) = 4 + 4 from rfl, stepsC_add, half_steps (s ^^^ c.toNat), half_steps]
end Go.Proofs.YtmahadcohnhdkaaDoor

namespace Go.Proofs.YtmahadcohnhdkaaDoor
open Go.RowKit

/-- the table lies as it is laid -/
def Tab (w : World) : Prop := 0 < w.heap.size ∧ ∀ i, i < 16 → w.cell? ⟨0, i, none⟩ = some (.int .u32 ((halfC.getD i 0 : Nat) : Int))
theorem Tab.below {w w' : World} {B : Nat} (h : Tab w) (hb : Below B w w') (hB : 0 < B) : Tab w' := ⟨Nat.lt_of_lt_of_le h.1 hb.size, fun i hi => (hb.cell (p := ⟨0, i, none⟩) hB).trans (h.2 i hi)⟩
theorem Tab.after {w w' : World} (h : Tab w) (hb : Below w.heap.size w w') : Tab w' := h.below hb h.1
theorem Tab.alloc {w : World} (h : Tab w) (o : Obj) : Tab (w.alloc o) := h.after ((Below.refl _ _).alloc (Nat.le_refl _) o)

theorem bits_xor_u32_nat (a b : Nat) (ha : a < 4294967296) (hb : b < 4294967296) : bits .xor .u32 (a : Int) (b : Int) = ((a ^^^ b : Nat) : Int) := by
  have hx : a ^^^ b < 2 ^ 32 := Nat.xor_lt_two_pow (by omega) (by omega)
  have h1 : (BitVec.ofInt 32 (a : Int)).toNat = a := by
    rw [BitVec.ofInt_natCast, BitVec.toNat_ofNat]; exact Nat.mod_eq_of_lt (by omega)
  have h2 : (BitVec.ofInt 32 (b : Int)).toNat = b := by
    rw [BitVec.ofInt_natCast, BitVec.toNat_ofNat]; exact Nat.mod_eq_of_lt (by omega)
  show IntKind.u32.wrap ((BitVec.ofInt 32 (a : Int) ^^^ BitVec.ofInt 32 (b : Int)).toNat : Int) = _
  rw [BitVec.toNat_xor, h1, h2, IntKind.wrap_u32]
  omega
theorem bits_and_u32_nat (a b : Nat) (ha : a < 4294967296) (hb : b < 4294967296) : bits .and .u32 (a : Int) (b : Int) = ((a &&& b : Nat) : Int) := by
  have hx : a &&& b < 2 ^ 32 := Nat.and_lt_two_pow _ (by omega)
  have h1 : (BitVec.ofInt 32 (a : Int)).toNat = a := by
    rw [BitVec.ofInt_natCast, BitVec.toNat_ofNat]; exact Nat.mod_eq_of_lt (by omega)
  have h2 : (BitVec.ofInt 32 (b : Int)).toNat = b := by
    rw [BitVec.ofInt_natCast, BitVec.toNat_ofNat]; exact Nat.mod_eq_of_lt (by omega)
  show IntKind.u32.wrap ((BitVec.ofInt 32 (a : Int) &&& BitVec.ofInt 32 (b : Int)).toNat : Int) = _
  rw [BitVec.toNat_and, h1, h2, IntKind.wrap_u32]
  omega
theorem and15_u32 (a : Nat) (ha : a < 4294967296) : bits .and .u32 (a : Int) 15 = ((a % 16 : Nat) : Int) := by
  have := bits_and_u32_nat a 15 ha (by omega)
  rw [show (15 : Nat) = 2 ^ 4 - 1 from rfl, Nat.and_two_pow_sub_one_eq_mod] at this
  exact this
theorem not_u32 (a : Nat) (ha : a < 4294967296) : bits .xor .u32 IntKind.u32.max (a : Int) = ((4294967295 ^^^ a : Nat) : Int) := bits_xor_u32_nat 4294967295 a (by omega) ha
theorem half_lt (i : Nat) : halfC.getD i 0 < 4294967296 := by
  have all : ∀ j : Fin 16, halfC.getD j.val 0 < 4294967296 := by decide
  by_cases h : i < 16
  · exact all ⟨i, h⟩
  · have : halfC[i]? = none := List.getElem?_eq_none (by show 16 ≤ i; omega)
    simp [List.getD, this]
/-- half a byte's steps -/
def halfS (s : Nat) : Nat := (s / 16) ^^^ halfC.getD (s % 16) 0
theorem halfS_lt {s : Nat} (h : s < 4294967296) : halfS s < 4294967296 := Nat.xor_lt_two_pow (n := 32) (by omega) (half_lt _)
theorem byteC_halfS (s : Nat) (c : UInt8) : byteC s c = halfS (halfS (s ^^^ c.toNat)) := byteC_half s c

set_option maxHeartbeats 1000000 in
theorem more_any (s : Nat) (hs : s < 4294967296) (l : List UInt8) (A : Option Addr) (n c : Nat) (w : World) (hT : Tab w) (h : Rd w w.heap.size 1 A n (bcells l)) :
    Calls Tryd.prog 52 #[.int .u32 (s : Int), .slice A n c] w fun e w' => e = .returned (.int .u32 ((4294967295 ^^^ runC (4294967295 ^^^ s) l : Nat) : Int)) ∧ w = w' := by
  have hln := h.1
  have hmx := h.2.1
  unfold maxLen at hmx
  rw [bcells_len, Nat.mul_one] at hln
  have e0 := not_u32 s hs
  obtain ⟨s0, hs0⟩ : ∃ s0, s0 = 4294967295 ^^^ s := ⟨_, rfl⟩
  have hs0l : s0 < 4294967296 := by rw [hs0]; exact Nat.xor_lt_two_pow (n := 32) (by decide) hs
  rw [← hs0] at e0 ⊢
  clear hs0
  have HL := Lib.hid hln
  obtain ⟨R, hR⟩ : ∃ R, R = runC s0 l := ⟨_, rfl⟩
  rw [← hR]
  have HRR := Lib.hid hR
  have HRD := Lib.hid h
  clear hln hR h
  go_enter Tryd.func52, Tryd.ntmps52
  go_wp2
  go_loop [0, 11] (fun v i => ∃ k : Nat, k ≤ n ∧ i = .int .i64 (k : Int) ∧ v = .int .u32 ((runC s0 (l.take k) : Nat) : Int)) (fun _ i => n - (intOf i).toNat)
  case atStart => exact ⟨0, Nat.zero_le _, rfl, rfl⟩
  case round =>
    obtain ⟨k, hk, rfl, rfl⟩ := hrel
    have hr := runC_lt s0 (l.take k) hs0l
    by_cases hlt : k < n
    · obtain ⟨b, off, rfl, hblk, hcell⟩ := HRD.out.2.2 (by omega)
      have hc := hcell k _ (bcells_get (by rw [HL.out]; exact hlt))
      have HS := Lib.hid (show runC s0 (l.take (k + 1)) = byteC (runC s0 (l.take k)) (l[k]'(by rw [HL.out]; exact hlt)) by
        rw [List.take_succ_eq_append_getElem (by rw [HL.out]; exact hlt), runC_append]; rfl)
      clear hcell hblk HRD HRR
      generalize l[k]'(by rw [HL.out]; exact hlt) = u at *
      generalize runC s0 (l.take k) = r at *
      have hu := u.toNat_lt
      rw [byteC_halfS] at HS
      generalize u.toNat = y at *
      have e1 := bits_xor_u32_nat r y hr (by omega)
      have hx : r ^^^ y < 4294967296 := Nat.xor_lt_two_pow (n := 32) hr (by omega)
      generalize r ^^^ y = x at *
      have e2 := and15_u32 x hx
      have c1 := hT.2 (x % 16) (Nat.mod_lt _ (by decide))
      have e3 := bits_xor_u32_nat (x / 16) (halfC.getD (x % 16) 0) (by omega) (half_lt _)
      have hx2 := halfS_lt hx
      have e3' : bits .xor .u32 ((x / 16 : Nat) : Int) ((halfC.getD (x % 16) 0 : Nat) : Int) = (halfS x : Int) := e3
      generalize halfS x = z at *
      have e4 := and15_u32 z hx2
      have c2 := hT.2 (z % 16) (Nat.mod_lt _ (by decide))
      have e5' : bits .xor .u32 ((z / 16 : Nat) : Int) ((halfC.getD (z % 16) 0 : Nat) : Int) = (halfS z : Int) := bits_xor_u32_nat (z / 16) (halfC.getD (z % 16) 0) (by omega) (half_lt _)
      obtain ⟨xm, hxm⟩ : ∃ m, m = x % 16 := ⟨_, rfl⟩
      obtain ⟨xd, hxd⟩ : ∃ m, m = x / 16 := ⟨_, rfl⟩
      obtain ⟨zm, hzm⟩ : ∃ m, m = z % 16 := ⟨_, rfl⟩
      obtain ⟨zd, hzd⟩ : ∃ m, m = z / 16 := ⟨_, rfl⟩
      have d1 : (x : Int) / 16 = (xd : Int) := by omega
      have d2 : (z : Int) / 16 = (zd : Int) := by omega
      have m1 : xm < 16 := by omega
      have m2 : zm < 16 := by omega
      rw [← hxm] at e2 c1 e3'
      rw [← hxd] at e3'
      rw [← hzm] at e4 c2 e5'
      rw [← hzd] at e5'
      clear hxm hxd hzm hzd e3
      generalize halfC.getD xm 0 = hA at *
      generalize halfC.getD zm 0 = hB at *
      clear hT
      go_wp2
      go_round
      case rel => exact ⟨k + 1, by omega, by go_num, by rw [HS.out]⟩
      case measure => simp [intOf]; omega
    · obtain rfl : k = n := by omega
      have hRr : runC s0 (l.take k) = R := by rw [List.take_of_length_le (by rw [HL.out]; omega), HRR.out]
      rw [hRr] at hr ⊢
      clear hRr
      have e6 := not_u32 R hr
      go_wp2
      go_ret
      exact ⟨by rw [← e6]; rfl, rfl⟩

theorem sum_any (l : List UInt8) (A : Option Addr) (n c : Nat) (w : World) (hT : Tab w) (h : Rd w w.heap.size 1 A n (bcells l)) :
    Calls Tryd.prog 39 #[.slice A n c] w fun e w' => e = .returned (.int .u32 (sumC l : Int)) ∧ w = w' := by
  have H := Lib.hid (more_any 0 (by decide) l A n c w hT h)
  go_enter Tryd.func39, Tryd.ntmps39
  go_wp2_with fail
  refine H.out.mono ?_
  rintro e w1 ⟨rfl, rfl⟩
  go_wp2_with fail
  go_ret
  exact ⟨rfl, rfl⟩

theorem laidC_cells (n : Nat) : (bcells (laidC n)).toArray = #[.int .u8 ((n % 256 : Nat) : Int), .int .u8 ((n / 256 % 256 : Nat) : Int), .int .u8 ((n / 65536 % 256 : Nat) : Int), .int .u8 ((n / 16777216 % 256 : Nat) : Int)] := by
  simp [bcells, laidC, UInt8.toNat_ofNat']

theorem laid_any (n : Nat) (hn : n < 4294967296) (w : World) : Calls Tryd.prog 38 #[.int .u32 (n : Int)] w fun e w' => e = .returned (.agg (bcells (laidC n)).toArray) ∧ Below w.heap.size w w' := by
  rw [laidC_cells n]
  obtain ⟨a0, h0⟩ : ∃ a, a = n % 256 := ⟨_, rfl⟩
  obtain ⟨a1, h1⟩ : ∃ a, a = n / 256 % 256 := ⟨_, rfl⟩
  obtain ⟨a2, h2⟩ : ∃ a, a = n / 65536 % 256 := ⟨_, rfl⟩
  obtain ⟨a3, h3⟩ : ∃ a, a = n / 16777216 % 256 := ⟨_, rfl⟩
  obtain ⟨b1, g1⟩ : ∃ a, a = n / 256 := ⟨_, rfl⟩
  obtain ⟨b2, g2⟩ : ∃ a, a = n / 65536 := ⟨_, rfl⟩
  obtain ⟨b3, g3⟩ : ∃ a, a = n / 16777216 := ⟨_, rfl⟩
  have i1 : (n : Int) / 256 = (b1 : Int) := by omega
  have i2 : (n : Int) / 65536 = (b2 : Int) := by omega
  have i3 : (n : Int) / 16777216 = (b3 : Int) := by omega
  have j0 : IntKind.u8.wrap (n : Int) = (a0 : Int) := by rw [IntKind.wrap_u8]; omega
  have j1 : IntKind.u8.wrap (b1 : Int) = (a1 : Int) := by rw [IntKind.wrap_u8]; omega
  have j2 : IntKind.u8.wrap (b2 : Int) = (a2 : Int) := by rw [IntKind.wrap_u8]; omega
  have j3 : (b3 : Int) = (a3 : Int) := by omega
  have l3 : b3 < 256 := by omega
  rw [← h0, ← h1, ← h2, ← h3, ← j3]
  clear h0 h1 h2 h3 g1 g2 g3 j3
  have b0 := (Below.refl w.heap.size w).alloc (Nat.le_refl _) (.cells #[.int .u8 (a0 : Int), .int .u8 (a1 : Int), .int .u8 (a2 : Int), .int .u8 (b3 : Int)] 76)
  have q0 := Blk.new w 76 #[.int .u8 (a0 : Int), .int .u8 (a1 : Int), .int .u8 (a2 : Int), .int .u8 (b3 : Int)]
  go_enter Tryd.func38, Tryd.ntmps38
  go_wp2
  exact bodyPost_ret (results_cell1 rfl rfl (res_load q0 Tryd.underlying76 rfl (by kernel_rfl))) rfl ⟨rfl, b0⟩

set_option maxHeartbeats 1000000 in
set_option maxRecDepth 100000 in
theorem cover_any (l : List UInt8) (A : Option Addr) (n c : Nat) (w : World) (hT : Tab w) (h : Rd w w.heap.size 1 A n (bcells l)) (hn : n + 4 ≤ 140737488355328) :
    Calls Tryd.prog 20 #[.slice A n c] w (RetOwn w 5 1 (n + 4) (bcells (coverC l))) := by
  have H1 := Lib.hid (sum_any l A n c w hT h)
  have H2 := Lib.hid (laid_any (sumC l) (sumC_lt l) w)
  have hcov : bcells (coverC l) = bcells l ++ bcells (laidC (sumC l)) := by unfold coverC; rw [bcells_append]
  rw [hcov]
  clear hcov
  have one4 := bcells_one (laidC (sumC l))
  have hc4 := laidC_cells (sumC l)
  rw [hc4] at H2
  have e4 : bcells (laidC (sumC l)) = [.int .u8 ((sumC l % 256 : Nat) : Int), .int .u8 ((sumC l / 256 % 256 : Nat) : Int), .int .u8 ((sumC l / 65536 % 256 : Nat) : Int), .int .u8 ((sumC l / 16777216 % 256 : Nat) : Int)] := by
    have := congrArg Array.toList hc4
    simpa using this
  clear hc4
  generalize bcells (laidC (sumC l)) = C at *
  generalize sumC l % 256 = d0 at *
  generalize sumC l / 256 % 256 = d1 at *
  generalize sumC l / 65536 % 256 = d2 at *
  generalize sumC l / 16777216 % 256 = d3 at *
  generalize sumC l = s at *
  have E4 := Lib.hid e4
  clear e4
  go_enter Tryd.func20, Tryd.ntmps20
  go_wp2_with fail
  refine H1.out.mono ?_
  rintro e w1 ⟨rfl, rfl⟩
  go_wp2_with fail
  refine H2.out.mono ?_
  rintro e w2 ⟨rfl, b2⟩
  have hz := b2.size
  go_wp2_with fail
  have q3 := Blk.newAt w2 76 #[.int .u8 (d0 : Int), .int .u8 (d1 : Int), .int .u8 (d2 : Int), .int .u8 (d3 : Int)] (g := w2.heap.size) rfl
  have hbw := belowAlloc b2 (.cells #[.int .u8 (d0 : Int), .int .u8 (d1 : Int), .int .u8 (d2 : Int), .int .u8 (d3 : Int)] 76)
  have r3 := (h.after b2).allocs (.cells #[.int .u8 (d0 : Int), .int .u8 (d1 : Int), .int .u8 (d2 : Int), .int .u8 (d3 : Int)] 76)
  obtain ⟨g3, hg3⟩ : ∃ g, g = w2.heap.size := ⟨_, rfl⟩
  rw [← hg3] at q3 ⊢
  clear hg3
  generalize w2.alloc (.cells #[.int .u8 (d0 : Int), .int .u8 (d1 : Int), .int .u8 (d2 : Int), .int .u8 (d3 : Int)] 76) = w3 at *
  have hcur : Below w3.heap.size w3 w3.drew := ⟨rfl, rfl, rfl, Nat.le_refl _, fun _ _ => rfl⟩
  refine wp_region_plan (fun _ => True) [.calms [0, 2], .act 1, .act 3, .calms [4]] (by kernel_rfl) (by rfl) (by kernel_rfl) (by kernel_rfl) trivial ?_
  have q3 := q3.after hcur
  have r3 := r3.after hcur
  have hbw := belowGo hbw hcur
  generalize w3.drew = w4 at *
  have hSa : ∀ (W : World), (Instr.sliceAt 76 (.pointer (some ⟨g3, 0, none⟩)) none none none).run Tryd.prog W = .ok (.slice (some ⟨g3, 0, none⟩) 4 4) W := fun W => by
    have e : Tryd.prog.arrayLen 76 = 4 := by kernel_rfl
    have e2 : (sizeOf (Tryd.prog.elem 76)).run Tryd.prog W = .ok 1 W := run_sizeOf W (i := (Tryd.prog.info? 5).get!) (by kernel_rfl)
    rw [run_sliceAt_array_all W 76 ⟨g3, 0, none⟩ (by kernel_rfl), e, e2]
    simp [slicedAt, Addr.add]
  refine plan_calms (by simp [calmRow, need]; rfl) ?_
  go_wp2_with fail
  have rc : Rd w4 w4.heap.size 1 (some ⟨g3, 0, none⟩) 4 C := by
    have := q3.rd (n := 4) (size := 1) rfl (by unfold maxLen; omega)
    rw [E4.out]
    exact this
  have o0 : w4.ownsRow w4.heap.size 5 1 (.slice none 0 0) 0 [] := World.ownsRow_nil _ _ _ _
  refine plan_last (by rfl) (by kernel_rfl) ?_
  refine wpList_app eltU8 rfl (.const (.slice none 0 0)) (.tmp 7) rfl rfl o0 rfl r3 (bcells_one l) (by omega) (by unfold maxLen; omega) (Below.refl _ _) (Nat.le_refl _) ?_
  intro v1 u1 o1 c1 _ _
  have o1 : u1.ownsRow w4.heap.size 5 1 v1 n (bcells l) := by simpa using o1
  refine plan_done (plan_last (by rfl) (by kernel_rfl) ?_)
  refine wpList_app eltU8 rfl (.tmp 8) (.tmp 9) rfl rfl o1 rfl (rc.below c1 (Nat.le_refl _)) one4 (by omega) (by unfold maxLen; omega) c1 c1.size ?_
  intro v2 u2 o2 c2 _ _
  refine plan_done (plan_calms (by simp [calmRow, need]; rfl) ?_)
  go_wp2_with fail
  refine plan_end ?_
  go_wp2_with fail
  go_ret
  exact ⟨_, rfl, own_low o2 hbw.size, belowGo hbw c2⟩
end Go.Proofs.YtmahadcohnhdkaaDoor

namespace Go.Proofs.YtmahadcohnhdkaaDoor
open Go.RowKit

theorem right_cover (l : List UInt8) (q : Nat) (h : l.length = q + 4) : ((l.drop q).take 4 == laidC (sumC (l.take q))) = (coverC (l.take q) == l) := by
  have e1 : (l.drop q).take 4 = l.drop q := List.take_of_length_le (by rw [List.length_drop]; omega)
  rw [e1, Bool.eq_iff_iff, beq_iff_eq, beq_iff_eq]
  unfold coverC
  generalize laidC (sumC (l.take q)) = L at *
  constructor
  · rintro e
    rw [← e, List.take_append_drop]
  · intro e
    have e2 : l.take q ++ L = l.take q ++ l.drop q := by rw [e, List.take_append_drop]
    exact (List.append_cancel_left e2).symm

set_option maxRecDepth 10000 in
set_option maxHeartbeats 1000000 in
theorem right_any (l : List UInt8) (A : Option Addr) (n c : Nat) (w : World) (hT : Tab w) (h4 : 4 ≤ n) (hnc : n ≤ c) (h : Rd w w.heap.size 1 A n (bcells l)) :
    Calls Tryd.prog 28 #[.slice A n c] w fun e w' => e = .returned (.bool (coverC (l.take (n - 4)) == l)) ∧ Below w.heap.size w w' := by
  have hln := h.1
  have hmx := h.2.1
  unfold maxLen at hmx
  rw [bcells_len, Nat.mul_one] at hln
  obtain ⟨b, off, rfl, _, _⟩ := h.2.2 (by omega)
  obtain ⟨q, rfl⟩ : ∃ q, n = q + 4 := ⟨n - 4, by omega⟩
  rw [show q + 4 - 4 = q by omega, ← right_cover l q hln]
  have hlt : (laidC (sumC (l.take q))).length = 4 := laidC_len _
  have HS := fun W hT' r => Lib.hid (sum_any (l.take q) (some ⟨b, off, none⟩) q c W hT' r)
  have HL := fun W => Lib.hid (laid_any (sumC (l.take q)) (sumC_lt _) W)
  have ht := h.btake (k := q) (by omega)
  have hd := h.bdrop (k := q) (by omega)
  rw [show q + 4 - q = 4 by omega] at hd
  have hdl : (l.drop q).length = 4 := by rw [List.length_drop]; omega
  have hSl : ∀ W : World, (Instr.sliceAt 32 (.slice (some ⟨b, off, none⟩) (q + 4) c) (some (.int .i64 (q : Int))) none none).run Tryd.prog W = .ok (.slice (some ⟨b, off + q, none⟩) 4 (c - q)) W := fun W => by
    have := run_low W (b := b) (off := off) (n := q + 4) (c := c) (k := q) (by omega) hnc
    rwa [if_neg (by omega), show q + 4 - q = 4 by omega] at this
  have a1 : ∀ W, (Instr.arrayAt 76 (.slice (some ⟨b, off + q, none⟩) 4 (c - q))).run Tryd.prog W = .ok (.pointer (some ⟨b, off + q, none⟩)) W := fun W => run_arrayAt W _ _ 4 _ _ _ Tryd.underlying76 (Nat.le_refl _)
  generalize sumC (l.take q) = S at *
  generalize laidC S = L at *
  have i1 : ((q + 4 : Nat) : Int) - 4 = (q : Int) := by omega
  have i2 : (q : Int) ≤ (c : Int) := by omega
  have i3 : q ≤ c := by omega
  have hl4 := Lib.hid hln
  have hlt4 := Lib.hid hlt
  have hdl4 := Lib.hid hdl
  clear hln hlt hdl
  go_enter Tryd.func28, Tryd.ntmps28
  go_wp2_with fail
  have hcur : Below w.heap.size w w.drew := ⟨rfl, rfl, rfl, Nat.le_refl _, fun _ _ => rfl⟩
  refine wp_region_plan (fun W => Below w.heap.size w W) [.calms [0, 1, 2, 3, 4, 5, 6, 8, 9, 10], .read 7, .act 11, .act 12, .read 13, .calms [14, 15]] (by kernel_rfl) (by rfl) (by kernel_rfl) (by kernel_rfl) hcur ?_
  have htd := ht.after hcur
  have hTd := hT.after hcur
  generalize w.drew = wd at *
  refine plan_calms (by simp [calmRow, need, chk]; rfl) ?_
  go_wp2_with fail
  refine plan_read (by rfl) (.agg ((bcells (l.drop q)).take 4).toArray) (by rfl) (fun W hW => exec_load_rd rfl rfl (hd.below hW (Nat.le_refl _)) (Nat.le_refl _) Tryd.underlying76 (by kernel_rfl)) ?_
  refine plan_act (by rfl) ?_
  go_wp2_with fail
  refine (HS _ hTd htd).out.mono ?_
  rintro e w3 ⟨rfl, rfl⟩
  clear HS
  go_wp2_with fail
  refine ⟨hcur, plan_act (by rfl) ?_⟩
  go_wp2_with fail
  refine (HL _).out.mono ?_
  rintro e w4 ⟨rfl, b4⟩
  clear HL
  have hb := belowGo hcur b4
  go_wp2_with fail
  refine ⟨hb, plan_read (by rfl) (.bool ((l.drop q).take 4 == L)) (by rfl) (fun W hW => exec_bin rfl (by
    refine run_eql_agg (xs := ((bcells (l.drop q)).take 4).toArray) (ys := (bcells L).toArray) (by kernel_rfl) ?_
    rw [btake_eq, bcells_row, bcells_row, ← bytes_beq ((l.drop q).take 4) L]
    exact run_equal_ints Tryd.underlying76 Tryd.underlying5 (i := (Tryd.prog.info? 5).get!) (by kernel_rfl) (by kernel_rfl) _ _ (by have := hdl4.out; simp at this ⊢; omega) (by have := hlt4.out; simpa using this))) ?_⟩
  refine plan_calms (by simp [calmRow, need]; rfl) ?_
  go_wp2_with fail
  refine plan_end ?_
  go_wp2_with fail
  go_ret
  exact ⟨rfl, hb⟩
end Go.Proofs.YtmahadcohnhdkaaDoor

namespace Go.Proofs.YtmahadcohnhdkaaDoor
open Go.RowKit

def mayH (k : Int) (id : Nat) : Bool := decide ((k = 2 ∧ id = 0) ∨ (k = 1 ∧ 1 ≤ id ∧ id ≤ 16777215))
theorem mayH_any (k : Int) (id : Nat) (w : World) : Calls Tryd.prog 44 #[.int .i64 k, .int .u32 (id : Int)] w fun e w' => e = .returned (.bool (mayH k id)) ∧ w = w' := by
  obtain ⟨b, hb⟩ : ∃ b, b = mayH k id := ⟨_, rfl⟩
  rw [← hb]
  unfold mayH at hb
  by_cases h2 : k = 2
  · subst h2
    by_cases h0 : id = 0
    · obtain rfl : b = true := by rw [hb]; simp [h0]
      clear hb
      have i1 : ((id : Int) == 0) = true := by simp [h0]
      clear h0
      go_enter Tryd.func44, Tryd.ntmps44
      go_wp2
      go_ret
      exact ⟨rfl, rfl⟩
    · obtain rfl : b = false := by rw [hb]; simp [h0]
      clear hb
      have i1 : ((id : Int) == 0) = false := by simp [h0]
      clear h0
      go_enter Tryd.func44, Tryd.ntmps44
      go_wp2
      go_ret
      exact ⟨rfl, rfl⟩
  · have i2 : (k == 2) = false := by simp [h2]
    by_cases h1 : k = 1
    · subst h1
      clear i2 h2
      by_cases h3 : 1 ≤ id
      · have hb : b = decide ((id : Int) ≤ 16777215) := by rw [hb, Bool.eq_iff_iff]; simp; omega
        subst hb
        clear hb
        go_enter Tryd.func44, Tryd.ntmps44
        go_wp2
        go_ret
        exact ⟨by simp, rfl⟩
      · obtain rfl : b = false := by rw [hb]; simp; omega
        clear hb
        go_enter Tryd.func44, Tryd.ntmps44
        go_wp2
        go_ret
        exact ⟨rfl, rfl⟩
    · obtain rfl : b = false := by rw [hb]; simp [h1, h2]
      clear hb
      have i1 : (k == 1) = false := by simp [h1]
      clear h1 h2
      go_enter Tryd.func44, Tryd.ntmps44
      go_wp2
      go_ret
      exact ⟨rfl, rfl⟩

theorem cell_newF (w : World) (cs : Array Value) (t : TypeId) (fr : Nat × Nat) (i : Nat) : (w.alloc (.cells cs t fr)).cell? ⟨w.heap.size, i, none⟩ = cs[i]? := by
  unfold World.cell? World.alloc
  simp
theorem rd_newF (w : World) (cs : Array Value) (t : TypeId) (fr : Nat × Nat) (l : List UInt8) (h : cs.toList = bcells l) (hm : l.length ≤ maxLen) : Rd (w.alloc (.cells cs t fr)) (w.alloc (.cells cs t fr)).heap.size 1 (some ⟨w.heap.size, 0, none⟩) l.length (bcells l) :=
  ⟨by rw [bcells_len]; omega, hm, fun _ => ⟨w.heap.size, 0, rfl, by simp, fun j u hu => by rw [Nat.zero_add, cell_newF, ← Array.getElem?_toList, h]; exact hu⟩⟩
/-- the first twelve bytes of a head -/
def headF (k : Int) (id : Nat) : List UInt8 := [104, 111, 117, 114, 98, 107, 49, UInt8.ofNat k.toNat] ++ le id 4
theorem headF_len (k : Int) (id : Nat) : (headF k id).length = 12 := by simp [headF, le_len]
def headB (k : Int) (id : Nat) : List UInt8 := coverC (headF k id)
theorem headB_len (k : Int) (id : Nat) : (headB k id).length = 16 := by unfold headB; rw [coverC_len, headF_len]
def headP (k : Int) (id : Nat) : List UInt8 := if mayH k id then headB k id else []
theorem headP_len (k : Int) (id : Nat) : (headP k id).length = if mayH k id then 16 else 0 := by unfold headP; split <;> simp [headB_len]

set_option maxRecDepth 10000 in
set_option maxHeartbeats 1000000 in
theorem putH_any (k : Int) (id : Nat) (hid : id < 4294967296) (w : World) (hT : Tab w) :
    Calls Tryd.prog 23 #[.int .i64 k, .int .u32 (id : Int)] w (RetFixed w 5 (headP k id).length (bcells (headP k id)) (if mayH k id then 0 else 1)) := by
  have H := Lib.hid (mayH_any k id w)
  rw [headP_len]
  unfold headP
  by_cases hm : mayH k id = true
  · have hk : (k = 1 ∨ k = 2) ∧ id < 16777216 := by unfold mayH at hm; simp only [decide_eq_true_eq] at hm; omega
    rw [hm] at H ⊢
    simp only [if_true]
    have hk8 : IntKind.u8.wrap k = k := by rw [IntKind.wrap_u8]; omega
    obtain ⟨kn, rfl, hkn⟩ : ∃ kn : Nat, k = (kn : Int) ∧ kn < 256 := ⟨k.toNat, by omega, by omega⟩
    have HF := fun A c W h => Lib.hid (fixed_any [104, 111, 117, 114, 98, 107, 49, UInt8.ofNat kn] A 8 c id (by omega) 4 W h (by omega))
    have e1 : fixedB [104, 111, 117, 114, 98, 107, 49, UInt8.ofNat kn] id 4 = headF kn id := by
      have : fixedOk id 4 = true := by unfold fixedOk fits; simp; omega
      unfold fixedB
      rw [this]
      rfl
    have e2 : fixedE id 4 = 0 := by
      have : fits id 32 = true := by unfold fits; simp; omega
      unfold fixedE
      simp [this]
    rw [e1, e2, headF_len] at HF
    have HC := fun A c W hT h => Lib.hid (cover_any (headF kn id) A 12 c W hT h (by omega))
    have hu8 : ((UInt8.ofNat kn).toNat : Int) = (kn : Int) := by rw [UInt8.toNat_ofNat']; omega
    have eH : headB (kn : Int) id = coverC (headF kn id) := rfl
    rw [eH]
    generalize headF (kn : Int) id = hF at *
    generalize coverC hF = hC at *
    clear hm e1 e2 eH
    go_enter Tryd.func23, Tryd.ntmps23
    go_wp2_with fail
    refine H.out.mono ?_
    rintro e w1 ⟨rfl, rfl⟩
    go_wp2_with fail
    rw [Lib.run_convert_bytes_const (P := Tryd.prog) w 32 5 #[.int .u8 104, .int .u8 111, .int .u8 117, .int .u8 114, .int .u8 98, .int .u8 107, .int .u8 49] 7 7 Tryd.underlying32 Tryd.underlying5]
    simp only [Result.andThen]
    rw [Oper.upon_value]
    have ra := rd_newF w #[.int .u8 104, .int .u8 111, .int .u8 117, .int .u8 114, .int .u8 98, .int .u8 107, .int .u8 49] 5 (#[Value.int .u8 104, Value.int .u8 111, Value.int .u8 117, Value.int .u8 114, Value.int .u8 98, Value.int .u8 107, Value.int .u8 49].size, #[Value.int .u8 104, Value.int .u8 111, Value.int .u8 117, Value.int .u8 114, Value.int .u8 98, Value.int .u8 107, Value.int .u8 49].size + 1) [104, 111, 117, 114, 98, 107, 49] rfl (by unfold maxLen; simp)
    have b1 := (Below.refl w.heap.size w).alloc (Nat.le_refl _) (.cells #[.int .u8 104, .int .u8 111, .int .u8 117, .int .u8 114, .int .u8 98, .int .u8 107, .int .u8 49] 5 (#[Value.int .u8 104, Value.int .u8 111, Value.int .u8 117, Value.int .u8 114, Value.int .u8 98, Value.int .u8 107, Value.int .u8 49].size, #[Value.int .u8 104, Value.int .u8 111, Value.int .u8 117, Value.int .u8 114, Value.int .u8 98, Value.int .u8 107, Value.int .u8 49].size + 1))
    have hT1 := hT.alloc (.cells #[.int .u8 104, .int .u8 111, .int .u8 117, .int .u8 114, .int .u8 98, .int .u8 107, .int .u8 49] 5 (#[Value.int .u8 104, Value.int .u8 111, Value.int .u8 117, Value.int .u8 114, Value.int .u8 98, Value.int .u8 107, Value.int .u8 49].size, #[Value.int .u8 104, Value.int .u8 111, Value.int .u8 117, Value.int .u8 114, Value.int .u8 98, Value.int .u8 107, Value.int .u8 49].size + 1))
    obtain ⟨gl, hgl⟩ : ∃ g, g = w.heap.size := ⟨_, rfl⟩
    rw [← hgl] at ra ⊢
    clear hgl
    generalize w.alloc (.cells #[.int .u8 104, .int .u8 111, .int .u8 117, .int .u8 114, .int .u8 98, .int .u8 107, .int .u8 49] 5 (#[Value.int .u8 104, Value.int .u8 111, Value.int .u8 117, Value.int .u8 114, Value.int .u8 98, Value.int .u8 107, Value.int .u8 49].size, #[Value.int .u8 104, Value.int .u8 111, Value.int .u8 117, Value.int .u8 114, Value.int .u8 98, Value.int .u8 107, Value.int .u8 49].size + 1)) = w2 at *
    have ra : Rd w2 w2.heap.size 1 (some ⟨gl, 0, none⟩) 7 (bcells [104, 111, 117, 114, 98, 107, 49]) := ra
    go_wp2_with (at_builtin; refine wpList_pushFull eltU8 rfl (.tmp 14) (.tmp 17) rfl (W := w2) rfl ra (by omega) (Nat.le_refl _) rfl rfl (by omega) (by unfold maxLen; omega) ?_; intro v3 w3 o3 b3)
    obtain ⟨g3, c3, rfl, _, _⟩ := own_ptr o3 (by omega)
    have r3 := own_rd o3
    have e3 : bcells [104, 111, 117, 114, 98, 107, 49] ++ #[Value.int .u8 (kn : Int)].toList = bcells [104, 111, 117, 114, 98, 107, 49, UInt8.ofNat kn] := by
      unfold bcells
      simp [UInt8.toNat_ofNat', Nat.mod_eq_of_lt hkn]
    rw [e3] at r3
    have hb := b1.trans (b3.mono b1.size)
    have hT3 := hT1.after b3
    clear e3 o3 ra b1 b3 hT1
    refine (HF _ _ _ r3).out.mono ?_
    rintro e w4 ⟨v4, rfl, o4, b4⟩
    obtain ⟨g4, c4, rfl, _, _⟩ := own_ptr o4 (by omega)
    have r4 := own_rd o4
    have hb := hb.trans (b4.mono hb.size)
    have hT4 := hT3.after b4
    go_wp2_with fail
    refine (HC _ _ _ hT4 r4).out.mono ?_
    rintro e w5 ⟨v5, rfl, o5, b5⟩
    go_wp2_with fail
    go_ret2
    exact ⟨_, rfl, own_low o5 hb.size, hb.trans (b5.mono hb.size)⟩
  · have hm : mayH k id = false := by simpa using hm
    rw [hm] at H ⊢
    clear hm
    go_enter Tryd.func23, Tryd.ntmps23
    go_wp2_with fail
    refine H.out.mono ?_
    rintro e w1 ⟨rfl, rfl⟩
    go_wp2_with fail
    go_ret2
    exact ⟨_, rfl, World.ownsRow_nil _ _ _ _, Below.refl _ _⟩
end Go.Proofs.YtmahadcohnhdkaaDoor

namespace Go.Proofs.YtmahadcohnhdkaaDoor
open Go.RowKit

def isH (k : Int) (id : Nat) (l : List UInt8) : Bool := mayH k id && (headB k id == l.take 16)

set_option maxRecDepth 10000 in
set_option maxHeartbeats 1000000 in
theorem is_any (k : Int) (id : Nat) (hid : id < 4294967296) (l : List UInt8) (A : Option Addr) (n c g7 g8 g1 : Nat) (w : World) (hT : Tab w) (hn : 16 ≤ n) (h : Rd w w.heap.size 1 A n (bcells l))
    (q7 : Blk w g7 3 #[.int .i64 k]) (q8 : Blk w g8 26 #[.int .u32 (id : Int)]) (q1 : Blk w g1 32 #[.slice A n c]) :
    Calls Tryd.prog 58 #[.pointer (some ⟨g7, 0, none⟩), .pointer (some ⟨g8, 0, none⟩), .pointer (some ⟨g1, 0, none⟩)] w fun e w' => e = .returned (.bool (isH k id l)) ∧ Below w.heap.size w w' := by
  have HP := Lib.hid (putH_any k id hid w hT)
  rw [headP_len] at HP
  unfold headP at HP
  unfold isH
  have hln := h.1
  rw [bcells_len, Nat.mul_one] at hln
  obtain ⟨b, off, rfl, _, _⟩ := h.2.2 (by omega)
  have c7 := q7.cell 0
  have c8 := q8.cell 0
  by_cases hm : mayH k id = true
  · rw [hm] at HP ⊢
    simp only [if_true, Bool.true_and] at HP ⊢
    have hbl := headB_len k id
    generalize headB k id = B at *
    clear hm
    go_enter Tryd.func58, Tryd.ntmps58
    go_wp2_with fail
    refine HP.out.mono ?_
    rintro e w1 ⟨v1, rfl, o1, b1⟩
    obtain ⟨gw, cw, rfl, hcw, _⟩ := own_ptr o1 (by omega)
    have r1 := own_rd o1
    have h1 := h.after b1
    have q1 := q1.after b1
    clear o1 HP
    have hb := b1
    go_wp2_with fail
    have hcur : Below w1.heap.size w1 w1.drew := ⟨rfl, rfl, rfl, Nat.le_refl _, fun _ _ => rfl⟩
    refine wp_region_plan (fun W => Below w1.heap.size w1 W) [.calms [0, 1, 2, 3, 4], .read 5, .read 6, .calms [7], .read 8, .read 9, .calms [10, 11]] (by kernel_rfl) (by rfl) (by kernel_rfl) (by kernel_rfl) hcur ?_
    generalize w1.drew = w2 at *
    have a1 : ∀ W, (Instr.arrayAt 99 (.slice (some ⟨gw, 0, none⟩) 16 cw)).run Tryd.prog W = .ok (.pointer (some ⟨gw, 0, none⟩)) W := fun W => run_arrayAt W _ _ 16 _ _ _ Tryd.underlying99 (Nat.le_refl _)
    have a2 : ∀ W, (Instr.arrayAt 99 (.slice (some ⟨b, off, none⟩) n c)).run Tryd.prog W = .ok (.pointer (some ⟨b, off, none⟩)) W := fun W => run_arrayAt W _ _ 16 _ _ _ Tryd.underlying99 hn
    refine plan_calms (by simp [calmRow, need, chk]; rfl) ?_
    go_wp2_with fail
    refine plan_read (by rfl) (.agg ((bcells B).take 16).toArray) (by rfl) (fun W hW => exec_load_rd rfl rfl (r1.below hW (Nat.le_refl _)) (Nat.le_refl _) Tryd.underlying99 (by kernel_rfl)) ?_
    refine plan_read (by rfl) (.slice (some ⟨b, off, none⟩) n c) (by rfl) (fun W hW => exec_load rfl rfl (by kernel_rfl) ((q1.after hW).cell 0)) ?_
    refine plan_calms (by simp [calmRow, need]; rfl) ?_
    go_wp2_with fail
    refine plan_read (by rfl) (.agg ((bcells l).take 16).toArray) (by rfl) (fun W hW => exec_load_rd rfl rfl (h1.below hW (Nat.le_refl _)) hn Tryd.underlying99 (by kernel_rfl)) ?_
    refine plan_read (by rfl) (.bool (B == l.take 16)) (by rfl) (fun W hW => exec_bin rfl (by
      refine run_eql_agg (xs := ((bcells B).take 16).toArray) (ys := ((bcells l).take 16).toArray) (by kernel_rfl) ?_
      rw [btake_eq, btake_eq, List.take_of_length_le (by omega : B.length ≤ 16), bcells_row, bcells_row, ← bytes_beq B (l.take 16)]
      exact run_equal_ints Tryd.underlying99 Tryd.underlying5 (i := (Tryd.prog.info? 5).get!) (by kernel_rfl) (by kernel_rfl) _ _ (by simpa using hbl) (by simp; omega))) ?_
    refine plan_calms (by simp [calmRow, need]; rfl) ?_
    go_wp2_with fail
    refine plan_end ?_
    go_wp2_with fail
    go_ret
    exact ⟨rfl, belowGo hb hcur⟩
  · have hm : mayH k id = false := by simpa using hm
    rw [hm] at HP ⊢
    simp only [Bool.false_eq_true, if_false, Bool.false_and] at HP ⊢
    clear hm
    go_enter Tryd.func58, Tryd.ntmps58
    go_wp2_with fail
    refine HP.out.mono ?_
    rintro e w1 ⟨v1, rfl, o1, b1⟩
    obtain ⟨A2, c2, rfl, _⟩ := own_cap o1
    clear o1 HP
    have hb := b1
    go_wp2_with fail
    have hcur : Below w1.heap.size w1 w1.drew := ⟨rfl, rfl, rfl, Nat.le_refl _, fun _ _ => rfl⟩
    refine wp_region_plan (fun W => Below w1.heap.size w1 W) [.calms [0, 1, 2, 3, 4], .read 5, .read 6, .calms [7], .read 8, .read 9, .calms [10, 11]] (by kernel_rfl) (by rfl) (by kernel_rfl) (by kernel_rfl) hcur ?_
    generalize w1.drew = w2 at *
    refine plan_calms (by simp [calmRow, need, chk]; rfl) ?_
    go_wp2_with fail
    refine plan_skip (by rfl) (by rfl) (plan_skip (by rfl) (by rfl) ?_)
    refine plan_calms (by simp [calmRow, need]; rfl) ?_
    go_wp2_with fail
    refine plan_skip (by rfl) (by rfl) (plan_skip (by rfl) (by rfl) ?_)
    refine plan_calms (by simp [calmRow, need]; rfl) ?_
    go_wp2_with fail
    refine plan_end ?_
    go_wp2_with fail
    go_ret
    exact ⟨rfl, belowGo hb hcur⟩
/-- what bytes begin with, as a head: kind, id, the error -/
def headGet (l : List UInt8) : Nat × Nat × Nat :=
  if l.length < 16 then (0, 0, 22)
  else if isH ((l.getD 7 0).toNat : Int) (numLE ((l.drop 8).take 4)) l then ((l.getD 7 0).toNat, numLE ((l.drop 8).take 4), 0) else (0, 0, 23)
def RetHead (k id code : Nat) (w : World) (e : Ending) (w' : World) : Prop := e = .returned (.tuple #[.int .i64 (k : Int), .int .u32 (id : Int), .int .i64 (code : Int)]) ∧ Below w.heap.size w w'

set_option maxRecDepth 10000 in
set_option maxHeartbeats 1000000 in
theorem getH_any (l : List UInt8) (A : Option Addr) (n c : Nat) (w : World) (hT : Tab w) (hnc : n ≤ c) (h : Rd w w.heap.size 1 A n (bcells l)) :
    Calls Tryd.prog 45 #[.slice A n c] w (RetHead (headGet l).1 (headGet l).2.1 (headGet l).2.2 w) := by
  have hln := h.1
  have hmx := h.2.1
  unfold maxLen at hmx
  rw [bcells_len, Nat.mul_one] at hln
  have q0 := Blk.new w 32 #[.slice A n c]
  have b0 := (Below.refl w.heap.size w).alloc (Nat.le_refl _) (.cells #[.slice A n c] 32)
  have h0 := h.allocs (.cells #[.slice A n c] 32)
  have hT0 := hT.alloc (.cells #[.slice A n c] 32)
  by_cases hs : n < 16
  · have e : headGet l = (0, 0, 22) := by unfold headGet; rw [if_pos (by omega)]
    rw [e]
    clear e
    go_enter Tryd.func45, Tryd.ntmps45
    go_wp2
    go_ret3
    exact ⟨rfl, b0⟩
  · obtain ⟨b, off, rfl, _, hcell⟩ := h0.2.2 (by omega)
    have hl7 : 7 < l.length := by omega
    obtain ⟨kb, hkb⟩ : ∃ kb, kb = (l.getD 7 0).toNat := ⟨_, rfl⟩
    obtain ⟨id, hidd⟩ : ∃ id, id = numLE ((l.drop 8).take 4) := ⟨_, rfl⟩
    have hkl : kb < 256 := by rw [hkb]; exact UInt8.toNat_lt _
    have hidl : id < 4294967296 := by
      rw [hidd]
      have := numLE_8j (l.drop 8) (j := 4) (by rw [List.length_drop]; omega)
      simpa using this
    have hc7 := hcell 7 _ (bcells_get hl7)
    have hk7 : (l[7]'hl7).toNat = kb := by rw [hkb]; simp [List.getD, hl7]
    rw [hk7] at hc7
    have eG : headGet l = if isH (kb : Int) id l then (kb, id, 0) else (0, 0, 23) := by unfold headGet; rw [if_neg (by omega), ← hkb, ← hidd]
    rw [eG]
    have HRd := fun W (r : Rd W W.heap.size 1 (some ⟨b, off, none⟩) n (bcells l)) => Lib.hid (read_any (l.drop 8) (some ⟨b, off + 8, none⟩) (n - 8) (c - 8) 4 W (r.bdrop (by omega)))
    have eN : readN (l.drop 8) 4 = id := by
      unfold readN
      rw [if_neg (by rw [List.length_drop]; omega), hidd]
      rfl
    have eE : readE (l.drop 8) 4 = 0 := by
      unfold readE
      rw [if_neg (by omega), if_neg (by rw [List.length_drop]; omega)]
    rw [eN, eE] at HRd
    have hSl : ∀ W : World, (Instr.sliceAt 32 (.slice (some ⟨b, off, none⟩) n c) (some (.int .i64 8)) none none).run Tryd.prog W = .ok (.slice (some ⟨b, off + 8, none⟩) (n - 8) (c - 8)) W := fun W => by
      have := run_low W (b := b) (off := off) (n := n) (c := c) (k := 8) (by omega) hnc
      rwa [if_neg (by omega)] at this
    have HI := fun g7 g8 g1 W hT' h' q7 q8 q1 => Lib.hid (is_any (kb : Int) id hidl l (some ⟨b, off, none⟩) n c g7 g8 g1 W hT' (by omega) h' q7 q8 q1)
    have i3 : ¬ (n : Int) < 16 := by omega
    have i4 : 7 < n := by omega
    generalize isH (kb : Int) id l = t at *
    obtain ⟨⟨rk, rid, rc⟩, hR⟩ : ∃ R, R = (if t = true then (kb, id, 0) else (0, 0, 23)) := ⟨_, rfl⟩
    rw [← hR]
    simp only
    have HR := Lib.hid hR
    clear hR
    have HKL := Lib.hid hk7
    clear eG hkb hidd hcell hk7 eN eE hln hs
    go_enter Tryd.func45, Tryd.ntmps45
    go_wp2_with fail
    generalize w.alloc (.cells #[.slice (some ⟨b, off, none⟩) n c] 32) = w0 at *
    have c0 := q0.cell 0
    have z0 := q0.lt
    refine (HRd _ h0).out.mono ?_
    rintro e w1 ⟨rfl, rfl⟩
    go_wp2_with fail
    have q7 := (Blk.new w0 3 #[.int .i64 (kb : Int)]).alloc (.cells #[.int .u32 (id : Int)] 26)
    have q8 := Blk.newAt (w0.alloc (.cells #[.int .i64 (kb : Int)] 3)) 26 #[.int .u32 (id : Int)] (g := w0.heap.size + 1) (by simp)
    have q1 := (q0.alloc (.cells #[.int .i64 (kb : Int)] 3)).alloc (.cells #[.int .u32 (id : Int)] 26)
    have r1 := (h0.allocs (.cells #[.int .i64 (kb : Int)] 3)).allocs (.cells #[.int .u32 (id : Int)] 26)
    have hT1 := (hT0.alloc (.cells #[.int .i64 (kb : Int)] 3)).alloc (.cells #[.int .u32 (id : Int)] 26)
    have b1 := (b0.alloc b0.size (.cells #[.int .i64 (kb : Int)] 3)).alloc (by simp; have := b0.size; omega) (.cells #[.int .u32 (id : Int)] 26)
    clear c0 z0 q0 h0 hT0 b0 HRd hSl hc7
    obtain ⟨g7, hg7⟩ : ∃ g, g = w0.heap.size := ⟨_, rfl⟩
    rw [← hg7] at q7 q8 ⊢
    clear hg7
    generalize (w0.alloc (.cells #[.int .i64 (kb : Int)] 3)).alloc (.cells #[.int .u32 (id : Int)] 26) = w2 at *
    refine (HI _ _ _ _ hT1 r1 q7 q8 q1).out.mono ?_
    rintro e w3 ⟨rfl, b3⟩
    have q7 := q7.after b3
    have q8 := q8.after b3
    have b4 := b1.trans (b3.mono b1.size)
    clear HI q1 r1 hT1 b1 b3
    cases t
    · obtain ⟨rfl, rfl, rfl⟩ : rk = 0 ∧ rid = 0 ∧ rc = 23 := by simpa using HR.out
      go_wp2_with fail
      go_ret3
      exact ⟨rfl, b4⟩
    · obtain ⟨rfl, rfl, rfl⟩ : rk = kb ∧ rid = id ∧ rc = 0 := by simpa using HR.out
      clear HR
      go_wp2_with fail
      have hcur : Below w3.heap.size w3 w3.drew := ⟨rfl, rfl, rfl, Nat.le_refl _, fun _ _ => rfl⟩
      refine wp_region_plan (fun W => Below w3.heap.size w3 W) [.read 0, .read 1, .calms [2, 3, 4]] (by kernel_rfl) (by rfl) (by kernel_rfl) (by kernel_rfl) hcur ?_
      generalize w3.drew = w4 at *
      refine plan_read (by rfl) (.int .i64 (rk : Int)) (by rfl) (fun W hW => exec_load rfl rfl (by kernel_rfl) ((q7.after hW).cell 0)) ?_
      refine plan_read (by rfl) (.int .u32 (rid : Int)) (by rfl) (fun W hW => exec_load rfl rfl (by kernel_rfl) ((q8.after hW).cell 0)) ?_
      refine plan_calms (by simp [calmRow, need]; rfl) ?_
      go_wp2_with fail
      refine plan_end ?_
      go_wp2_with fail
      go_ret3
      exact ⟨rfl, b4.trans (hcur.mono b4.size)⟩

def chkH (l : List UInt8) (k : Int) (id : Nat) : Nat := if (headGet l).2.2 = 0 ∧ ¬ (((headGet l).1 : Int) = k ∧ (headGet l).2.1 = id) then 23 else (headGet l).2.2
set_option maxRecDepth 10000 in
theorem checkH_any (l : List UInt8) (A : Option Addr) (n c : Nat) (k : Int) (id : Nat) (w : World) (hT : Tab w) (hnc : n ≤ c) (h : Rd w w.heap.size 1 A n (bcells l)) :
    Calls Tryd.prog 25 #[.slice A n c, .int .i64 k, .int .u32 (id : Int)] w fun e w' => e = .returned (.int .i64 (chkH l k id : Int)) ∧ Below w.heap.size w w' := by
  have H := Lib.hid (getH_any l A n c w hT hnc h)
  unfold RetHead at H
  unfold chkH
  generalize headGet l = G at *
  obtain ⟨gk, gi, ge⟩ := G
  simp only at H ⊢
  by_cases he : ge = 0
  · subst he
    by_cases hk : (gk : Int) = k
    · subst hk
      by_cases hi : gi = id
      · subst hi
        rw [if_neg (by simp)]
        go_enter Tryd.func25, Tryd.ntmps25
        go_wp2_with fail
        refine H.out.mono ?_
        rintro e w1 ⟨rfl, b1⟩
        go_wp2_with fail
        go_ret
        exact ⟨rfl, b1⟩
      · rw [if_pos (by simp [hi])]
        have i1 : ((gi : Int) != (id : Int)) = true := by simp; omega
        go_enter Tryd.func25, Tryd.ntmps25
        go_wp2_with fail
        refine H.out.mono ?_
        rintro e w1 ⟨rfl, b1⟩
        go_wp2_with fail
        go_ret
        exact ⟨rfl, b1⟩
    · rw [if_pos (by simp [hk])]
      have i1 : ((gk : Int) != k) = true := by simpa using hk
      go_enter Tryd.func25, Tryd.ntmps25
      go_wp2_with fail
      refine H.out.mono ?_
      rintro e w1 ⟨rfl, b1⟩
      go_wp2_with fail
      go_ret
      exact ⟨rfl, b1⟩
  · rw [if_neg (by simp [he])]
    have i1 : ((ge : Int) == 0) = false := by simp; omega
    go_enter Tryd.func25, Tryd.ntmps25
    go_wp2_with fail
    refine H.out.mono ?_
    rintro e w1 ⟨rfl, b1⟩
    go_wp2_with fail
    go_ret
    exact ⟨rfl, b1⟩
end Go.Proofs.YtmahadcohnhdkaaDoor

namespace Go.Proofs.YtmahadcohnhdkaaDoor

theorem numLE_le4 {id : Nat} (h : id < 4294967296) : numLE (le id 4) = id := by
  simp [le, List.range_succ, numLE, UInt8.toNat_ofNat']
  omega
theorem headGet_put {k id : Nat} (hm : mayH (k : Int) id = true) (r : List UInt8) : headGet (headB (k : Int) id ++ r) = (k, id, 0) := by
  have hk : (k = 1 ∨ k = 2) ∧ id < 16777216 := by unfold mayH at hm; simp only [decide_eq_true_eq] at hm; omega
  have hl := headB_len (k : Int) id
  have hF := headF_len (k : Int) id
  have e1 : headB (k : Int) id ++ r = [104, 111, 117, 114, 98, 107, 49, UInt8.ofNat k] ++ (le id 4 ++ (laidC (sumC (headF (k : Int) id)) ++ r)) := by
    unfold headB coverC headF
    simp
  have e7 : (headB (k : Int) id ++ r).getD 7 0 = UInt8.ofNat k := by rw [e1]; rfl
  have e8 : ((headB (k : Int) id ++ r).drop 8).take 4 = le id 4 := by
    rw [e1]
    show (List.take 4 (le id 4 ++ _)) = _
    rw [List.take_append_of_le_length (by simp [le_len]), List.take_of_length_le (by simp [le_len])]
  have ek : (UInt8.ofNat k).toNat = k := by rw [UInt8.toNat_ofNat']; omega
  unfold headGet isH
  rw [if_neg (by rw [List.length_append, hl]; omega), e7, e8, ek, numLE_le4 (by omega), hm, List.take_append_of_le_length (by omega), List.take_of_length_le (by omega)]
  simp
theorem headGet_short {l : List UInt8} (h : l.length < 16) : headGet l = (0, 0, 22) := by unfold headGet; rw [if_pos h]
theorem headGet_cases (l : List UInt8) (h : 16 ≤ l.length) : headGet l = (0, 0, 23) ∨ ∃ k id : Nat, headB (k : Int) id = l.take 16 := by
  unfold headGet
  rw [if_neg (by omega)]
  split
  · rename_i h2
    unfold isH at h2
    rw [Bool.and_eq_true, beq_iff_eq] at h2
    exact .inr ⟨_, _, h2.2⟩
  · exact .inl rfl
/-- bits turned within a head: bad -/
theorem headGet_turned {k id : Nat} (l : List UInt8) (h : 16 ≤ l.length) (m p : Nat) (hm : m < 4294967296) (h0 : m ≠ 0) (hp : p ≤ 128) (hx : numL (l.take 16) = numL (headB (k : Int) id) ^^^ (m * 2 ^ p)) : headGet l = (0, 0, 23) := by
  rcases headGet_cases l h with e | ⟨k', id', e⟩
  · exact e
  · refine absurd ?_ (turned (headB (k : Int) id) (l.take 16) (by rw [headB_len, List.length_take]; omega) m p hm h0 (by rw [headB_len]; omega) hx 4294967295)
    rw [← e]
    exact (cover_rest _).trans (cover_rest _).symm
theorem headGet_vals (l : List UInt8) : ((headGet l).2.2 = 22 ∧ l.length < 16) ∨ ((headGet l).2.2 = 23 ∧ (headGet l).1 = 0 ∧ (headGet l).2.1 = 0) ∨ (headGet l).2.2 = 0 := by
  unfold headGet
  split
  · rename_i h; exact .inl ⟨rfl, h⟩
  · split
    · exact .inr (.inr rfl)
    · exact .inr (.inl ⟨rfl, rfl, rfl⟩)
end Go.Proofs.YtmahadcohnhdkaaDoor
