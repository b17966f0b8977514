/- A row of coefficients divided as on paper is the sum by shifts. Plain Lean, no condition. -/
import Derived.Test.YtfapipamohlniaaDoorCrcLaw
namespace Go.Proofs.YtfapipamohlniaaDoor

/-- a row of coefficients as a number, the first one least -/
def numBo : List Bool → Nat
  | [] => 0
  | b :: l => b.toNat + 2 * numBo l
theorem numBo_append : ∀ a b : List Bool, numBo (a ++ b) = numBo a + 2 ^ a.length * numBo b
  | [], b => by simp [numBo]
  | c :: a, b => by
    show c.toNat + 2 * numBo (a ++ b) = _
    rw [numBo_append a b]
    show _ = c.toNat + 2 * numBo a + 2 ^ (a.length + 1) * numBo b
    rw [Nat.pow_succ, Nat.mul_add, Nat.mul_comm (2 ^ a.length) 2, Nat.mul_assoc]
    omega
theorem numBo_lt : ∀ l : List Bool, numBo l < 2 ^ l.length
  | [] => by decide
  | b :: l => by
    have := numBo_lt l
    show b.toNat + 2 * numBo l < 2 ^ (l.length + 1)
    rw [Nat.pow_succ]
    have : b.toNat ≤ 1 := Bool.toNat_le b
    omega
theorem numBo_set : ∀ (l : List Bool) (p : Nat) (b : Bool) (hp : p < l.length), numBo (l.set p ((l[p]'hp) ^^ b)) = numBo l ^^^ (b.toNat * 2 ^ p)
  | [], p, _, hp => absurd hp (by simp)
  | a :: t, 0, b, _ => by
    show (a ^^ b).toNat + 2 * numBo t = (a.toNat + 2 * numBo t) ^^^ (b.toNat * 2 ^ 0)
    have ha : a.toNat < 2 ^ 1 := by have := Bool.toNat_le a; omega
    have hab : (a ^^ b).toNat < 2 ^ 1 := by have := Bool.toNat_le (a ^^ b); omega
    have e := xor_add a.toNat (numBo t) 1 ha
    have e2 := xor_add (a ^^ b).toNat (numBo t) 1 hab
    rw [show 2 ^ 1 * numBo t = 2 * numBo t from by rw [Nat.pow_one]] at e e2
    rw [← e, ← e2, Nat.pow_zero, Nat.mul_one, Nat.xor_assoc, Nat.xor_comm (2 * numBo t), ← Nat.xor_assoc]
    congr 1
    cases a <;> cases b <;> rfl
  | a :: t, p + 1, b, hp => by
    have ih := numBo_set t p b (by simpa using hp)
    show a.toNat + 2 * numBo (t.set p ((t[p]'(by simpa using hp)) ^^ b)) = (a.toNat + 2 * numBo t) ^^^ (b.toNat * 2 ^ (p + 1))
    rw [ih]
    have ha : a.toNat < 2 ^ 1 := by have := Bool.toNat_le a; omega
    have e := xor_add a.toNat (numBo t) 1 ha
    have e2 := xor_add a.toNat (numBo t ^^^ (b.toNat * 2 ^ p)) 1 ha
    rw [Nat.pow_one] at e e2
    rw [← e, ← e2, Nat.xor_assoc]
    congr 1
    have e3 := xor_mul_pow (numBo t) (b.toNat * 2 ^ p) 1
    rw [Nat.pow_one] at e3
    rw [Nat.mul_comm 2 (numBo t ^^^ _), ← e3, Nat.mul_comm 2, Nat.pow_succ, Nat.mul_assoc]
theorem numBo_get : ∀ (l : List Bool) (p : Nat) (hp : p < l.length), numBo l / 2 ^ p % 2 = (l[p]'hp).toNat
  | [], p, hp => absurd hp (by simp)
  | a :: t, 0, _ => by
    show (a.toNat + 2 * numBo t) / 2 ^ 0 % 2 = a.toNat
    have := Bool.toNat_le a
    omega
  | a :: t, p + 1, hp => by
    have ih := numBo_get t p (by simpa using hp)
    show (a.toNat + 2 * numBo t) / 2 ^ (p + 1) % 2 = (t[p]'(by simpa using hp)).toNat
    rw [Nat.pow_succ, Nat.mul_comm (2 ^ p) 2, ← Nat.div_div_eq_div_mul, show (a.toNat + 2 * numBo t) / 2 = numBo t by have := Bool.toNat_le a; omega]
    exact ih
theorem numBo_drop (l : List Bool) (p : Nat) (hp : p ≤ l.length) : numBo (l.drop p) = numBo l / 2 ^ p := by
  have e := numBo_append (l.take p) (l.drop p)
  rw [List.take_append_drop, List.length_take, Nat.min_eq_left hp] at e
  have h := numBo_lt (l.take p)
  rw [List.length_take, Nat.min_eq_left hp] at h
  rw [e, Nat.add_mul_div_left _ _ (Nat.two_pow_pos p), Nat.div_eq_of_lt h, Nat.zero_add]

def powL : List Nat := [28, 27, 26, 25, 23, 22, 20, 19, 18, 14, 13, 11, 10, 9, 8, 6, 0]
/-- the divisor's coefficients, the greatest power first, without the first -/
def modL : List Bool := (List.range 32).map fun j => powL.contains (31 - j)
theorem modL_len : modL.length = 32 := by simp [modL]
theorem modL_num : numBo modL = modC := by decide

/-- l is L with the first k coefficients of m turned in, from place p on -/
structure Part (l L m : List Bool) (p k : Nat) : Prop where
  len : l.length = L.length
  num : numBo l = numBo L ^^^ (numBo (m.take k) * 2 ^ p)
theorem Part.zero (L m : List Bool) (p : Nat) : Part L L m p 0 := ⟨rfl, by simp [numBo]⟩
theorem Part.set {l L m : List Bool} {p k : Nat} (h : Part l L m p k) (hk : k < m.length) (hp : p + k < l.length) : Part (l.set (p + k) ((l[p + k]'hp) ^^ (m[k]'hk))) L m p (k + 1) := by
  refine ⟨by rw [List.length_set, h.len], ?_⟩
  have hlt := numBo_lt (m.take k)
  rw [List.length_take, Nat.min_eq_left (by omega)] at hlt
  rw [numBo_set, h.num, Nat.xor_assoc, List.take_succ_eq_append_getElem hk, numBo_append, List.length_take, Nat.min_eq_left (by omega)]
  congr 1
  have e1 : numBo [m[k]'hk] = (m[k]'hk).toNat := by simp [numBo]
  rw [e1, ← xor_add _ _ _ hlt, ← xor_mul_pow, Nat.mul_comm (2 ^ k), Nat.mul_assoc, ← Nat.pow_add, Nat.add_comm k p]
/-- after i steps of the division -/
structure Div (l L : List Bool) (i : Nat) : Prop where
  len : l.length = L.length
  num : numBo l / 2 ^ i = stepsC i (numBo L)
theorem Div.zero (L : List Bool) : Div L L 0 := ⟨rfl, by rw [Nat.pow_zero, Nat.div_one]; rfl⟩
theorem xor_div_pow (a b k : Nat) : (a ^^^ b) / 2 ^ k = (a / 2 ^ k) ^^^ (b / 2 ^ k) := by
  apply Nat.eq_of_testBit_eq
  intro i
  simp [Nat.testBit_xor, Nat.testBit_div_two_pow]
theorem stepsC_snoc (i a : Nat) : stepsC (i + 1) a = stepC (stepsC i a) := by rw [stepsC_add]; rfl
theorem div_succ (a i : Nat) : a / 2 ^ (i + 1) = a / 2 ^ i / 2 := by rw [Nat.pow_succ, Nat.div_div_eq_div_mul]
theorem Div.no {l L : List Bool} {i : Nat} (h : Div l L i) (hi : i < l.length) (hb : l[i]'hi = false) : Div l L (i + 1) := by
  refine ⟨h.len, ?_⟩
  have e := numBo_get l i hi
  rw [hb, h.num] at e
  rw [stepsC_snoc, ← h.num, div_succ, h.num]
  unfold stepC
  rw [if_neg (by rw [e]; decide), Nat.xor_zero]
theorem Div.yes {l l' L : List Bool} {i : Nat} (h : Div l L i) (hi : i < l.length) (hb : l[i]'hi = true) (hp : Part l' l modL (i + 1) 32) : Div l' L (i + 1) := by
  refine ⟨by rw [hp.len, h.len], ?_⟩
  have e := numBo_get l i hi
  rw [hb, h.num] at e
  have em : numBo (modL.take 32) = modC := by rw [List.take_of_length_le (by rw [modL_len]; exact Nat.le_refl _), modL_num]
  rw [hp.num, em, xor_div_pow, Nat.mul_div_cancel _ (Nat.two_pow_pos _), div_succ, h.num, stepsC_snoc]
  unfold stepC
  rw [if_pos (by rw [e]; rfl)]
end Go.Proofs.YtfapipamohlniaaDoor
