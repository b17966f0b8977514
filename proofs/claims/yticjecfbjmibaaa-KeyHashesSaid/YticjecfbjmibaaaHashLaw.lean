/- Hash is one to one: what the law KeyHashes needs. -/
import Derived.Test.YticjecfbjmibaaaHash2
namespace Go.Proofs.Yticjecfbjmibaaa
open Go.RowKit

def foldXor (a : Nat) : Nat := a ^^^ (a / 4294967296)
theorem foldXor_lt {a : Nat} (h : a < 18446744073709551616) : foldXor a < 18446744073709551616 :=
  Nat.xor_lt_two_pow (n := 64) h (Nat.lt_of_le_of_lt (Nat.div_le_self _ _) h)
theorem foldXor_back {a : Nat} (h : a < 18446744073709551616) : foldXor (foldXor a) = a := by
  unfold foldXor
  rw [show (4294967296 : Nat) = 2 ^ 32 from rfl, ← Nat.shiftRight_eq_div_pow, ← Nat.shiftRight_eq_div_pow, Nat.shiftRight_xor_distrib, ← Nat.shiftRight_add, Nat.xor_assoc, ← Nat.xor_assoc (a >>> 32), Nat.xor_self, Nat.zero_xor,
    Nat.shiftRight_eq_div_pow a (32 + 32), Nat.div_eq_of_lt (by simpa using h), Nat.xor_zero]

theorem mul_back {x y : Nat} (hx : x < 18446744073709551616) (hy : y < 18446744073709551616) (h : x * 13787848793156543929 % 18446744073709551616 = y * 13787848793156543929 % 18446744073709551616) : x = y := by
  have e : ∀ z : Nat, z < 18446744073709551616 → z * 13787848793156543929 % 18446744073709551616 * 10871156337175269513 % 18446744073709551616 = z := fun z hz => by
    rw [Nat.mod_mul_mod, Nat.mul_assoc, Nat.mul_mod, show 13787848793156543929 * 10871156337175269513 % 18446744073709551616 = 1 by decide +kernel, Nat.mul_one, Nat.mod_mod, Nat.mod_eq_of_lt hz]
  rw [← e x hx, h, e y hy]

def mixN (h w : Nat) : Nat := foldXor ((h ^^^ w) * 13787848793156543929 % 18446744073709551616)
theorem mixN_lt (h w : Nat) : mixN h w < 18446744073709551616 := foldXor_lt (Nat.mod_lt _ (by decide))
theorem mixI_nat (h w : Nat) (hh : h < 18446744073709551616) (hw : w < 18446744073709551616) : mixI h w = (mixN h w : Int) := by
  unfold mixI
  rw [bits_xor_u64_nat h w hh hw]
  have e : IntKind.u64.wrap (((h ^^^ w : Nat) : Int) * 13787848793156543929) = (((h ^^^ w) * 13787848793156543929 % 18446744073709551616 : Nat) : Int) := by
    rw [IntKind.wrap_u64]; omega
  rw [e]
  have hm := Nat.mod_lt ((h ^^^ w) * 13787848793156543929) (show 18446744073709551616 > 0 by decide)
  unfold mixN foldXor
  generalize (h ^^^ w) * 13787848793156543929 % 18446744073709551616 = a at *
  rw [show ((a : Nat) : Int) / 4294967296 = ((a / 4294967296 : Nat) : Int) by omega, bits_xor_u64_nat a _ hm (Nat.lt_of_le_of_lt (Nat.div_le_self _ _) hm)]
theorem mixN_inj {h w h' w' : Nat} (hh : h < 18446744073709551616) (hw : w < 18446744073709551616) (hh' : h' < 18446744073709551616) (hw' : w' < 18446744073709551616) (e : mixN h w = mixN h' w') : h ^^^ w = h' ^^^ w' := by
  have e2 := congrArg foldXor e
  unfold mixN at e2
  rw [foldXor_back (Nat.mod_lt _ (by decide)), foldXor_back (Nat.mod_lt _ (by decide))] at e2
  exact mul_back (Nat.xor_lt_two_pow (n := 64) hh hw) (Nat.xor_lt_two_pow (n := 64) hh' hw') e2
theorem xor_left {a b c : Nat} (h : a ^^^ b = a ^^^ c) : b = c := by
  have := congrArg (a ^^^ ·) h
  simpa [← Nat.xor_assoc] using this
theorem xor_right {a b c : Nat} (h : b ^^^ a = c ^^^ a) : b = c := xor_left (a := a) (by rw [Nat.xor_comm a b, Nat.xor_comm a c]; exact h)

def h0N (s n : Nat) : Nat := s ^^^ (n * 11400714819323198485 % 18446744073709551616)
theorem h0N_lt {s : Nat} (n : Nat) (hs : s < 18446744073709551616) : h0N s n < 18446744073709551616 := Nat.xor_lt_two_pow (n := 64) hs (Nat.mod_lt _ (by decide))
theorem hash0_nat (s n : Nat) (hs : s < 18446744073709551616) : hash0 s n = (h0N s n : Int) := by
  unfold hash0
  rw [show IntKind.u64.wrap ((n : Int) * 11400714819323198485) = ((n * 11400714819323198485 % 18446744073709551616 : Nat) : Int) by rw [IntKind.wrap_u64]; omega, bits_xor_u64_nat s _ hs (Nat.mod_lt _ (by decide))]
  rfl

theorem wle64 (l : List UInt8) (h : l.length ≤ 8) : wle l < 18446744073709551616 :=
  Nat.lt_of_lt_of_le (wle_lt l) (Nat.le_trans (Nat.pow_le_pow_right (by decide) h) (by decide))

theorem hash_one (s : Nat) (l : List UInt8) (hs : s < 18446744073709551616) (h1 : 1 ≤ l.length) (h8 : l.length ≤ 8) : hashI s l = (mixN (h0N s l.length) (wle l) : Int) := by
  unfold hashI
  have e : ws l = [(0, wle l)] := by
    unfold ws
    rw [show (l.length + 7) / 8 = 1 by omega]
    simp [List.range_succ, List.take_of_length_le h8]
  rw [e, hash0_nat s _ hs]
  exact mixI_nat _ _ (h0N_lt _ hs) (wle64 l h8)

theorem hash_two (s : Nat) (a b : List UInt8) (hs : s < 18446744073709551616) (ha : a.length = 8) (hb : b.length = 8) : hashI s (a ++ b) = (mixN (mixN (h0N s 16) (wle a)) (wle b) : Int) := by
  unfold hashI
  have e : ws (a ++ b) = [(0, wle a), (1, wle b)] := by
    unfold ws
    rw [List.length_append, ha, hb]
    simp [List.range_succ, List.take_append, List.drop_append, ha, List.take_of_length_le (Nat.le_of_eq ha), List.take_of_length_le (Nat.le_of_eq hb), List.drop_of_length_le (Nat.le_of_eq ha)]
  rw [e, List.length_append, ha, hb, hash0_nat s _ hs]
  show mixI (mixI _ _) _ = _
  rw [mixI_nat _ _ (h0N_lt _ hs) (wle64 a (by omega)), mixI_nat _ _ (mixN_lt _ _) (wle64 b (by omega))]

theorem hash_rows (s : Nat) (x y : List UInt8) (hs : s < 18446744073709551616) (h1 : 1 ≤ x.length) (h8 : x.length ≤ 8) (hl : y.length = x.length) : decide (hashI s x = hashI s y) = (x == y) := by
  rw [hash_one s x hs h1 h8, hash_one s y hs (by omega) (by omega), hl, Bool.eq_iff_iff, decide_eq_true_eq, beq_iff_eq]
  refine ⟨fun h => ?_, fun h => by rw [h]⟩
  have := mixN_inj (h0N_lt _ hs) (wle64 x h8) (h0N_lt _ hs) (wle64 y (by omega)) (Int.ofNat_inj.1 h)
  exact wle_inj x y hl.symm (xor_left this)

theorem hash_behind (s : Nat) (a b d : List UInt8) (hs : s < 18446744073709551616) (ha : a.length = 8) (hb : b.length = 8) (hd : d.length = 8) : decide (hashI s (a ++ d) = hashI s (b ++ d)) = (a == b) := by
  rw [hash_two s a d hs ha hd, hash_two s b d hs hb hd, Bool.eq_iff_iff, decide_eq_true_eq, beq_iff_eq]
  refine ⟨fun h => ?_, fun h => by rw [h]⟩
  have := xor_right (mixN_inj (mixN_lt _ _) (wle64 d (by omega)) (mixN_lt _ _) (wle64 d (by omega)) (Int.ofNat_inj.1 h))
  have := mixN_inj (h0N_lt _ hs) (wle64 a (by omega)) (h0N_lt _ hs) (wle64 b (by omega)) this
  exact wle_inj a b (by omega) (xor_left this)

theorem hash_seeds (s t : Nat) (x : List UInt8) (hs : s < 18446744073709551616) (ht : t < 18446744073709551616) (h1 : 1 ≤ x.length) (h8 : x.length ≤ 8) : decide (hashI s x = hashI t x) = decide (s = t) := by
  rw [hash_one s x hs h1 h8, hash_one t x ht h1 h8, Bool.eq_iff_iff, decide_eq_true_eq, decide_eq_true_eq]
  refine ⟨fun h => ?_, fun h => by rw [h]⟩
  have := xor_right (mixN_inj (h0N_lt _ hs) (wle64 x h8) (h0N_lt _ ht) (wle64 x h8) (Int.ofNat_inj.1 h))
  exact xor_right this
end Go.Proofs.Yticjecfbjmibaaa
