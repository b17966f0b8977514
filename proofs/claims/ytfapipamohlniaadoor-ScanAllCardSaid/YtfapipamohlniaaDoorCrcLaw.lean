/- A sum by shifts, plainly: a row of bytes is a number, the sum is so many steps of it. Plain Lean, no condition. -/
import Derived.Test.YtfapipamohlniaaDoorBase
namespace Go.Proofs.YtfapipamohlniaaDoor

/-- a row of bytes as a number, the least byte first -/
def numL : List UInt8 → Nat
  | [] => 0
  | c :: l => c.toNat + 256 * numL l
theorem numL_lt : ∀ l : List UInt8, numL l < 256 ^ l.length
  | [] => by decide
  | c :: l => by
    have := numL_lt l
    have := c.toNat_lt
    rw [numL, List.length_cons, Nat.pow_succ]
    omega
theorem numL_inj : ∀ (a b : List UInt8), a.length = b.length → numL a = numL b → a = b
  | [], [], _, _ => rfl
  | u :: a, v :: b, hl, h => by
    rw [numL, numL] at h
    have hu := u.toNat_lt
    have hv := v.toNat_lt
    rw [numL_inj a b (by simpa using hl) (by omega), UInt8.toNat_inj.1 (show u.toNat = v.toNat by omega)]
theorem numL_append : ∀ (a b : List UInt8), numL (a ++ b) = numL a + 256 ^ a.length * numL b
  | [], b => by simp [numL]
  | u :: a, b => by
    rw [List.cons_append, numL, numL_append a b, numL, List.length_cons, Nat.pow_succ, Nat.mul_add, Nat.add_assoc, ← Nat.mul_assoc, Nat.mul_comm 256 (256 ^ _)]

theorem xor_mul_pow (a b k : Nat) : (a * 2 ^ k) ^^^ (b * 2 ^ k) = (a ^^^ b) * 2 ^ k := by
  rw [← Nat.shiftLeft_eq, ← Nat.shiftLeft_eq, ← Nat.shiftLeft_eq, Nat.shiftLeft_xor_distrib]
theorem xor_div2 (a b : Nat) : (a ^^^ b) / 2 = (a / 2) ^^^ (b / 2) := by
  have := Nat.shiftRight_xor_distrib (i := 1) (a := a) (b := b)
  simpa [Nat.shiftRight_eq_div_pow] using this
theorem xor_mod2 (a b : Nat) : (a ^^^ b) % 2 = (a % 2 + b % 2) % 2 := by
  have := Nat.xor_mod_two_pow (n := 1) (a := a) (b := b)
  rw [Nat.pow_one] at this
  rw [this]
  rcases Nat.mod_two_eq_zero_or_one a with ha | ha <;> rcases Nat.mod_two_eq_zero_or_one b with hb | hb <;> simp [ha, hb]
theorem xor_add (x y k : Nat) (h : x < 2 ^ k) : x ^^^ (2 ^ k * y) = x + 2 ^ k * y := by
  refine Nat.eq_of_testBit_eq fun i => ?_
  rw [Nat.testBit_xor, Nat.add_comm, Nat.testBit_two_pow_mul_add y h i]
  by_cases hi : i < k
  · rw [if_pos hi]
    have : (2 ^ k * y).testBit i = false := by rw [Nat.testBit_two_pow_mul]; simp; omega
    rw [this, Bool.xor_false]
  · rw [if_neg hi]
    have : x.testBit i = false := Nat.testBit_lt_two_pow (Nat.lt_of_lt_of_le h (Nat.pow_le_pow_right (by decide) (by omega)))
    rw [this, Bool.false_xor, Nat.testBit_two_pow_mul]
    simp; omega

/-- the modulus but its greatest power -/
def modC : Nat := 2197175160
/-- a step -/
def stepC (a : Nat) : Nat := (a / 2) ^^^ (if a % 2 = 1 then modC else 0)
theorem stepC_xor (a b : Nat) : stepC (a ^^^ b) = stepC a ^^^ stepC b := by
  unfold stepC
  rw [xor_div2, xor_mod2]
  have ha := Nat.mod_two_eq_zero_or_one a
  have hb := Nat.mod_two_eq_zero_or_one b
  rcases ha with ha | ha <;> rcases hb with hb | hb <;> simp [ha, hb]
  · rw [Nat.xor_assoc]
  · rw [Nat.xor_assoc, Nat.xor_comm (b / 2), ← Nat.xor_assoc]
  · rw [Nat.xor_assoc, Nat.xor_comm (b / 2), ← Nat.xor_assoc modC, Nat.xor_self, Nat.zero_xor]
theorem stepC_even (a : Nat) : stepC (a * 2) = a := by
  unfold stepC
  rw [show a * 2 / 2 = a by omega, if_neg (by omega), Nat.xor_zero]
theorem stepC_lt {a : Nat} (h : a < 4294967296) : stepC a < 4294967296 := by
  unfold stepC
  refine Nat.xor_lt_two_pow (n := 32) (by omega) ?_
  split <;> decide
theorem stepC_zero {a : Nat} (h : a < 4294967296) (e : stepC a = 0) : a = 0 := by
  unfold stepC at e
  split at e
  · have e2 : a / 2 = modC := by
      have := congrArg (· ^^^ modC) e
      simpa [Nat.xor_assoc] using this
    unfold modC at e2
    omega
  · rw [Nat.xor_zero] at e
    omega

/-- so many steps -/
def stepsC : Nat → Nat → Nat
  | 0, a => a
  | n + 1, a => stepsC n (stepC a)
theorem stepsC_xor : ∀ (n a b : Nat), stepsC n (a ^^^ b) = stepsC n a ^^^ stepsC n b
  | 0, _, _ => rfl
  | n + 1, a, b => by rw [stepsC, stepsC, stepsC, stepC_xor, stepsC_xor n]
theorem stepsC_add : ∀ (m n a : Nat), stepsC (m + n) a = stepsC n (stepsC m a)
  | 0, n, a => by rw [Nat.zero_add]; rfl
  | m + 1, n, a => by rw [show m + 1 + n = (m + n) + 1 by omega, stepsC, stepsC, stepsC_add m n]
theorem stepsC_mul : ∀ (n a : Nat), stepsC n (a * 2 ^ n) = a
  | 0, a => by simp [stepsC]
  | n + 1, a => by rw [stepsC, Nat.pow_succ, ← Nat.mul_assoc, stepC_even, stepsC_mul n a]
theorem stepsC_lt : ∀ (n : Nat) {a : Nat}, a < 4294967296 → stepsC n a < 4294967296
  | 0, _, h => h
  | n + 1, _, h => stepsC_lt n (stepC_lt h)
theorem stepsC_zero : ∀ (n : Nat) {a : Nat}, a < 4294967296 → stepsC n a = 0 → a = 0
  | 0, _, _, e => e
  | n + 1, _, h, e => stepC_zero h (stepsC_zero n (stepC_lt h) e)
theorem stepsC_z : ∀ n, stepsC n 0 = 0
  | 0 => rfl
  | n + 1 => by rw [stepsC, show stepC 0 = 0 by decide, stepsC_z n]
theorem xor_zero_eq {a b : Nat} (h : a ^^^ b = 0) : a = b := by
  have := congrArg (· ^^^ b) h
  simpa [Nat.xor_assoc] using this
theorem stepsC_inj (n : Nat) {a b : Nat} (ha : a < 4294967296) (hb : b < 4294967296) (e : stepsC n a = stepsC n b) : a = b :=
  xor_zero_eq (stepsC_zero n (Nat.xor_lt_two_pow (n := 32) ha hb) (by rw [stepsC_xor, e, Nat.xor_self]))

/-- the sum of a row: bytes into a register -/
def byteC (s : Nat) (c : UInt8) : Nat := stepsC 8 (s ^^^ c.toNat)
def runC (s : Nat) (l : List UInt8) : Nat := l.foldl byteC s
theorem runC_steps : ∀ (l : List UInt8) (s : Nat), runC s l = stepsC (8 * l.length) (s ^^^ numL l)
  | [], s => by simp [runC, numL, stepsC]
  | c :: l, s => by
    have ih := runC_steps l (byteC s c)
    rw [runC, List.foldl_cons]
    rw [runC] at ih
    rw [ih, List.length_cons, show 8 * (l.length + 1) = 8 + 8 * l.length by omega, stepsC_add, byteC]
    have e : numL l = stepsC 8 (numL l * 2 ^ 8) := (stepsC_mul 8 _).symm
    have e2 : c.toNat ^^^ (numL l * 2 ^ 8) = numL (c :: l) := by
      rw [Nat.mul_comm, xor_add c.toNat (numL l) 8 c.toNat_lt]; rfl
    rw [e, ← stepsC_xor, Nat.xor_assoc, e2]
theorem runC_lt (s : Nat) (l : List UInt8) (h : s < 4294967296) : runC s l < 4294967296 := by
  induction l generalizing s with
  | nil => exact h
  | cons c l ih => exact ih _ (stepsC_lt 8 (Nat.xor_lt_two_pow (n := 32) h (Nat.lt_of_lt_of_le c.toNat_lt (by decide))))
theorem runC_append (s : Nat) (a b : List UInt8) : runC s (a ++ b) = runC (runC s a) b := by simp [runC]

/-- the sum that a row bears -/
def sumC (l : List UInt8) : Nat := 4294967295 ^^^ runC 4294967295 l
theorem sumC_lt (l : List UInt8) : sumC l < 4294967296 := Nat.xor_lt_two_pow (n := 32) (by decide) (runC_lt _ _ (by decide))
/-- a number in four bytes, the lowest one first -/
def laidC (n : Nat) : List UInt8 := [UInt8.ofNat n, UInt8.ofNat (n / 256), UInt8.ofNat (n / 65536), UInt8.ofNat (n / 16777216)]
theorem laidC_len (n : Nat) : (laidC n).length = 4 := rfl
theorem laidC_num {n : Nat} (h : n < 4294967296) : numL (laidC n) = n := by
  simp only [laidC, numL, UInt8.toNat_ofNat']
  omega
/-- a row and its sum -/
def coverC (l : List UInt8) : List UInt8 := l ++ laidC (sumC l)
theorem coverC_len (l : List UInt8) : (coverC l).length = l.length + 4 := by simp [coverC, laidC_len]
def restC : Nat := stepsC 32 4294967295
/-- a row with four bytes behind is right just if the register ends at one number -/
theorem right_iff (l v : List UInt8) (hv : v.length = 4) : v = laidC (sumC l) ↔ runC 4294967295 (l ++ v) = restC := by
  have hr := runC_lt 4294967295 l (by decide)
  have hn := numL_lt v
  rw [hv] at hn
  rw [runC_append, runC_steps v, hv]
  constructor
  · intro h
    rw [h, laidC_num (sumC_lt l), sumC, Nat.xor_comm 4294967295, ← Nat.xor_assoc, Nat.xor_self, Nat.zero_xor]
    rfl
  · intro h
    have h2 := stepsC_inj (8 * 4) (Nat.xor_lt_two_pow (n := 32) hr hn) (by decide) (h : _ = stepsC (8 * 4) 4294967295)
    refine numL_inj _ _ hv ?_
    rw [laidC_num (sumC_lt l), sumC]
    have := congrArg (runC 4294967295 l ^^^ ·) h2
    rw [← Nat.xor_assoc, Nat.xor_self, Nat.zero_xor] at this
    rw [this, Nat.xor_comm]
theorem cover_rest (l : List UInt8) : runC 4294967295 (coverC l) = restC := (right_iff l _ (laidC_len _)).1 rfl

/-- bits turned: a number of at most 32 bits, not 0, anywhere: the register no longer ends there -/
theorem turned (a b : List UInt8) (hl : a.length = b.length) (m p : Nat) (hm : m < 4294967296) (h0 : m ≠ 0) (hp : p ≤ 8 * a.length) (hx : numL b = numL a ^^^ (m * 2 ^ p)) (s : Nat) : runC s a ≠ runC s b := by
  intro e
  rw [runC_steps, runC_steps, hx, ← Nat.xor_assoc, ← hl, stepsC_xor _ (s ^^^ numL a)] at e
  have e2 : stepsC (8 * a.length) (m * 2 ^ p) = 0 := by
    have := congrArg (stepsC (8 * a.length) (s ^^^ numL a) ^^^ ·) e
    rw [Nat.xor_self, ← Nat.xor_assoc, Nat.xor_self, Nat.zero_xor] at this
    exact this.symm
  rw [show 8 * a.length = p + (8 * a.length - p) by omega, stepsC_add, stepsC_mul] at e2
  exact h0 (stepsC_zero _ hm e2)

/-- four steps by the table -/
def halfC : List Nat := [0, 274646895, 549293790, 820201905, 1098587580, 1361435347, 1640403810, 1905808397, 2197175160, 2460548119, 2722870694, 2987750089, 3280807620, 3553878443, 3811616794, 4084100981]
theorem half_steps (s : Nat) : stepsC 4 s = (s / 16) ^^^ halfC.getD (s % 16) 0 := by
  have e : s = (s / 16 * 2 ^ 4) ^^^ (s % 16) := by
    rw [Nat.xor_comm, Nat.mul_comm, xor_add _ _ 4 (by omega)]; omega
  have all : ∀ j : Fin 16, stepsC 4 j.val = halfC.getD j.val 0 := by decide
  have := all ⟨s % 16, by omega⟩
  conv => lhs; rw [e]
  rw [stepsC_xor, stepsC_mul]
  exact congrArg _ this
theorem byteC_half (s : Nat) (c : UInt8) : byteC s c = (((s ^^^ c.toNat) / 16 ^^^ halfC.getD ((s ^^^ c.toNat) % 16) 0) / 16) ^^^ halfC.getD (((s ^^^ c.toNat) / 16 ^^^ halfC.getD ((s ^^^ c.toNat) % 16) 0) % 16) 0 := by
  unfold byteC
  rw [show (8 : Nat) = 4 + 4 from rfl, stepsC_add, half_steps (s ^^^ c.toNat), half_steps]
end Go.Proofs.YtfapipamohlniaaDoor
