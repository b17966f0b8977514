/- HeadIs, plainly: bits flipped within a row of bytes. Plain Lean, no condition. -/
import Derived.Test.YtbkolnfcmhlmoaaDoorHeadLaw
namespace Go.Proofs.YtbkolnfcmhlmoaaDoor

theorem numL_set : ∀ (l : List UInt8) (j b : Nat) (c : UInt8), (hj : j < l.length) → b < 8 → c.toNat = (l[j]'hj).toNat ^^^ 2 ^ b → numL (l.set j c) = numL l ^^^ 2 ^ (8 * j + b)
  | [], j, _, _, hj, _, _ => absurd hj (by simp)
  | a :: t, 0, b, c, _, hb, hc => by
    have hc : c.toNat = a.toNat ^^^ 2 ^ b := hc
    have h1 := a.toNat_lt
    have h2 := c.toNat_lt
    show c.toNat + 256 * numL t = (a.toNat + 256 * numL t) ^^^ 2 ^ (8 * 0 + b)
    rw [show (256 : Nat) = 2 ^ 8 from rfl, ← xor_add _ _ 8 (by omega), ← xor_add _ _ 8 (by omega), hc, Nat.mul_zero, Nat.zero_add, Nat.xor_assoc, Nat.xor_assoc, Nat.xor_comm (2 ^ b)]
  | a :: t, j + 1, b, c, hj, hb, hc => by
    have ih := numL_set t j b c (by simpa using hj) hb hc
    have h1 := a.toNat_lt
    show a.toNat + 256 * numL (t.set j c) = (a.toNat + 256 * numL t) ^^^ 2 ^ (8 * (j + 1) + b)
    rw [ih, show (256 : Nat) = 2 ^ 8 from rfl, ← xor_add _ _ 8 (by omega), ← xor_add _ _ 8 (by omega), Nat.xor_assoc]
    congr 1
    rw [Nat.mul_comm, ← xor_mul_pow, Nat.mul_comm (2 ^ 8)]
    congr 1
    rw [← Nat.pow_add]
    congr 1
    omega

theorem mod_bit (m k : Nat) : m % 2 ^ (k + 1) = m % 2 ^ k + 2 ^ k * (m / 2 ^ k % 2) := by
  rw [Nat.pow_succ, Nat.mod_mul]
theorem flip_yes (N m k f : Nat) (h : m / 2 ^ k % 2 = 1) : (N ^^^ (m % 2 ^ k * 2 ^ f)) ^^^ 2 ^ (f + k) = N ^^^ (m % 2 ^ (k + 1) * 2 ^ f) := by
  have hx : (m % 2 ^ k) ^^^ (2 ^ k * 1) = m % 2 ^ k + 2 ^ k * 1 := xor_add _ _ k (Nat.mod_lt _ (Nat.two_pow_pos k))
  rw [mod_bit, h, ← hx, ← xor_mul_pow, Nat.xor_assoc, Nat.mul_one, ← Nat.pow_add, Nat.add_comm k f]
theorem flip_no (m k : Nat) (h : m / 2 ^ k % 2 = 0) : m % 2 ^ (k + 1) = m % 2 ^ k := by rw [mod_bit, h]; omega

/-- where only the first sixteen bytes are turned -/
theorem numL_take (a b : List UInt8) (n : Nat) (hn : n ≤ a.length) (hl : b.length = a.length) (m p : Nat) (hm : m * 2 ^ p < 256 ^ n) (h : numL b = numL a ^^^ (m * 2 ^ p)) : numL (b.take n) = numL (a.take n) ^^^ (m * 2 ^ p) := by
  have ea : numL a = numL (a.take n) + 256 ^ n * numL (a.drop n) := by
    have := numL_append (a.take n) (a.drop n)
    rwa [List.take_append_drop, List.length_take, Nat.min_eq_left hn] at this
  have eb : numL b = numL (b.take n) + 256 ^ n * numL (b.drop n) := by
    have := numL_append (b.take n) (b.drop n)
    rwa [List.take_append_drop, List.length_take, Nat.min_eq_left (by omega)] at this
  have la := numL_lt (a.take n)
  have lb := numL_lt (b.take n)
  rw [List.length_take, Nat.min_eq_left hn] at la
  rw [List.length_take, Nat.min_eq_left (by omega)] at lb
  have e8 : 256 ^ n = 2 ^ (8 * n) := by rw [Nat.pow_mul]
  rw [e8] at la lb ea eb hm
  have hx : numL (a.take n) ^^^ (m * 2 ^ p) < 2 ^ (8 * n) := Nat.xor_lt_two_pow la hm
  have h2 : numL (b.take n) + 2 ^ (8 * n) * numL (b.drop n) = (numL (a.take n) ^^^ (m * 2 ^ p)) + 2 ^ (8 * n) * numL (a.drop n) := by
    rw [← eb, h, ea, ← xor_add _ _ _ la, ← xor_add _ _ _ hx, Nat.xor_assoc, Nat.xor_assoc, Nat.xor_comm (2 ^ (8 * n) * _)]
  have h3 := congrArg (· % 2 ^ (8 * n)) h2
  simp only [Nat.add_mul_mod_self_left, Nat.mod_eq_of_lt lb, Nat.mod_eq_of_lt hx] at h3
  exact h3
/-- l is L with the bits of m below k turned, from bit f on -/
structure Flip (l L : List UInt8) (m f k : Nat) : Prop where
  len : l.length = L.length
  num : numL l = numL L ^^^ (m % 2 ^ k * 2 ^ f)
theorem Flip.zero (L : List UInt8) (m f : Nat) : Flip L L m f 0 := ⟨rfl, by rw [Nat.pow_zero, Nat.mod_one, Nat.zero_mul, Nat.xor_zero]⟩
theorem Flip.skip {l L : List UInt8} {m f k : Nat} (h : Flip l L m f k) (hb : m / 2 ^ k % 2 = 0) : Flip l L m f (k + 1) := ⟨h.len, by rw [h.num, flip_no _ _ hb]⟩
theorem Flip.set {l L : List UInt8} {m f k : Nat} (h : Flip l L m f k) (hb : m / 2 ^ k % 2 = 1) (j b : Nat) (hj : j < l.length) (hb8 : b < 8) (he : 8 * j + b = f + k) : Flip (l.set j (UInt8.ofNat ((l[j]'hj).toNat ^^^ 2 ^ b))) L m f (k + 1) := by
  have h8 : (2 : Nat) ^ b < 2 ^ 8 := Nat.pow_lt_pow_right (by decide) hb8
  have h1 := (l[j]'hj).toNat_lt
  have hx : (l[j]'hj).toNat ^^^ 2 ^ b < 2 ^ 8 := Nat.xor_lt_two_pow h1 h8
  exact ⟨by rw [List.length_set, h.len], by rw [numL_set l j b _ hj hb8 (by rw [UInt8.toNat_ofNat']; exact Nat.mod_eq_of_lt hx), h.num, he, flip_yes _ _ _ _ hb]⟩
theorem Flip.get {l B T : List UInt8} {m f k kd id : Nat} (h : Flip l (B ++ T) m f k) (hB : headB (kd : Int) id = B) (hm : m % 2 = 1) (hml : m < 4294967296) (hk1 : 1 ≤ k) (hk : k ≤ 32) (hf : f + k ≤ 128) : headGet l = (0, 0, 23) := by
  have hBL : B.length = 16 := by rw [← hB]; exact headB_len _ _
  have hl : (B ++ T).length = l.length := h.len.symm
  have h16 : 16 ≤ l.length := by rw [← hl, List.length_append]; omega
  have hlt : m % 2 ^ k < 2 ^ k := Nat.mod_lt _ (Nat.two_pow_pos k)
  have hp : m % 2 ^ k * 2 ^ f < 256 ^ 16 := by
    have h1 : m % 2 ^ k * 2 ^ f < 2 ^ k * 2 ^ f := Nat.mul_lt_mul_of_pos_right hlt (Nat.two_pow_pos f)
    have h2 : 2 ^ k * 2 ^ f ≤ 2 ^ 128 := by rw [← Nat.pow_add]; exact Nat.pow_le_pow_right (by decide) (by omega)
    have h3 : (256 : Nat) ^ 16 = 2 ^ 128 := by decide
    omega
  have ht := numL_take (B ++ T) l 16 (by omega) hl.symm _ _ hp h.num
  rw [List.take_append_of_le_length (by omega), List.take_of_length_le (l := B) (by omega)] at ht
  have h0 : m % 2 ^ k ≠ 0 := by
    intro h0
    obtain ⟨j, rfl⟩ : ∃ j, k = j + 1 := ⟨k - 1, by omega⟩
    have : m % 2 ^ (j + 1) % 2 = m % 2 := Nat.mod_mod_of_dvd _ ⟨2 ^ j, by rw [Nat.pow_succ, Nat.mul_comm]⟩
    omega
  have hmm : m % 2 ^ k < 4294967296 := Nat.lt_of_le_of_lt (Nat.mod_le _ _) hml
  exact headGet_turned (k := kd) (id := id) l h16 _ f hmm h0 (by omega) (by rw [hB]; exact ht)
end Go.Proofs.YtbkolnfcmhlmoaaDoor
