/- Several texts in one: CrcRLaw, CrcR1, CrcR2, CrcR3, CrcR4, CrcR5. No condition of its own. -/
import Derived.Test.YtmahadcohnhdkaaDoorGC
import Derived.Laws.OwnMore
namespace Go.Proofs.YtmahadcohnhdkaaDoor

/-- a row of coefficients as a number, the first one least -/
def numBo : List Bool → Nat
  | [] => 0
  | b :: l => b.toNat + 2 * numBo l
theorem numBo_append : ∀ a b : List Bool, numBo (a ++ b) = numBo a + 2 ^ a.length * numBo b
  | [], b => by simp [numBo]
  | c :: a, b => by
    show c.toNat + 2 * numBo (a ++ b) = _
    rw [numBo_append a b]
    show _ = c.toNat + 2 * numBo a + 2 ^ (a.length + 1) * numBo b
    rw [Nat.pow_succ, Nat.mul_add, Nat.mul_comm (2 ^ a.length) 2, Nat.mul_assoc]
    omega
theorem numBo_lt : ∀ l : List Bool, numBo l < 2 ^ l.length
  | [] => by decide
  | b :: l => by
    have := numBo_lt l
    show b.toNat + 2 * numBo l < 2 ^ (l.length + 1)
    rw [Nat.pow_succ]
    have : b.toNat ≤ 1 := Bool.toNat_le b
    omega
theorem numBo_set : ∀ (l : List Bool) (p : Nat) (b : Bool) (hp : p < l.length), numBo (l.set p ((l[p]'hp) ^^ b)) = numBo l ^^^ (b.toNat * 2 ^ p)
  | [], p, _, hp => absurd hp (by simp)
  | a :: t, 0, b, _ => by
    show (a ^^ b).toNat + 2 * numBo t = (a.toNat + 2 * numBo t) ^^^ (b.toNat * 2 ^ 0)
    have ha : a.toNat < 2 ^ 1 := by have := Bool.toNat_le a; omega
    have hab : (a ^^ b).toNat < 2 ^ 1 := by have := Bool.toNat_le (a ^^ b); omega
    have e := xor_add a.toNat (numBo t) 1 ha
    have e2 := xor_add (a ^^ b).toNat (numBo t) 1 hab
    rw [show 2 ^ 1 * numBo t = 2 * numBo t from by rw [Nat.pow_one]] at e e2
    rw [← e, ← e2, Nat.pow_zero, Nat.mul_one, Nat.xor_assoc, Nat.xor_comm (2 * numBo t), ← Nat.xor_assoc]
    congr 1
    cases a <;> cases b <;> rfl
  | a :: t, p + 1, b, hp => by
    have ih := numBo_set t p b (by simpa using hp)
    show a.toNat + 2 * numBo (t.set p ((t[p]'(by simpa using hp)) ^^ b)) = (a.toNat + 2 * numBo t) ^^^ (b.toNat * 2 ^ (p + 1))
    rw [ih]
    have ha : a.toNat < 2 ^ 1 := by have := Bool.toNat_le a; omega
    have e := xor_add a.toNat (numBo t) 1 ha
    have e2 := xor_add a.toNat (numBo t ^^^ (b.toNat * 2 ^ p)) 1 ha
    rw [Nat.pow_one] at e e2
    rw [← e, ← e2, Nat.xor_assoc]
    congr 1
    have e3 := xor_mul_pow (numBo t) (b.toNat * 2 ^ p) 1
    rw [Nat.pow_one] at e3
    rw [Nat.mul_comm 2 (numBo t ^^^ _), ← e3, Nat.mul_comm 2, Nat.pow_succ, Nat.mul_assoc]
theorem numBo_get : ∀ (l : List Bool) (p : Nat) (hp : p < l.length), numBo l / 2 ^ p % 2 = (l[p]'hp).toNat
  | [], p, hp => absurd hp (by simp)
  | a :: t, 0, _ => by
    show (a.toNat + 2 * numBo t) / 2 ^ 0 % 2 = a.toNat
    have := Bool.toNat_le a
    omega
  | a :: t, p + 1, hp => by
    have ih := numBo_get t p (by simpa using hp)
    show (a.toNat + 2 * numBo t) / 2 ^ (p + 1) % 2 = (t[p]'(by simpa using hp)).toNat
    rw [Nat.pow_succ, Nat.mul_comm (2 ^ p) 2, ← Nat.div_div_eq_div_mul, show (a.toNat + 2 * numBo t) / 2 = numBo t by have := Bool.toNat_le a; omega]
    exact ih
theorem numBo_drop (l : List Bool) (p : Nat) (hp : p ≤ l.length) : numBo (l.drop p) = numBo l / 2 ^ p := by
  have e := numBo_append (l.take p) (l.drop p)
  rw [List.take_append_drop, List.length_take, Nat.min_eq_left hp] at e
  have h := numBo_lt (l.take p)
  rw [List.length_take, Nat.min_eq_left hp] at h
  rw [e, Nat.add_mul_div_left _ _ (Nat.two_pow_pos p), Nat.div_eq_of_lt h, Nat.zero_add]

def powL : List Nat := [28, 27, 26, 25, 23, 22, 20, 19, 18, 14, 13, 11, 10, 9, 8, 6, 0]
/-- the divisor's coefficients, the greatest power first, without the first -/
def modL : List Bool := (List.range 32).map fun j => powL.contains (31 - j)
theorem modL_len : modL.length = 32 := by simp [modL]
theorem modL_num : numBo modL = modC := by decide

/-- l is L with the first k coefficients of m turned in, from place p on -/
structure Part (l L m : List Bool) (p k : Nat) : Prop where
  len : l.length = L.length
  num : numBo l = numBo L ^^^ (numBo (m.take k) * 2 ^ p)
theorem Part.zero (L m : List Bool) (p : Nat) : Part L L m p 0 := ⟨rfl, by simp [numBo]⟩
theorem Part.set {l L m : List Bool} {p k : Nat} (h : Part l L m p k) (hk : k < m.length) (hp : p + k < l.length) : Part (l.set (p + k) ((l[p + k]'hp) ^^ (m[k]'hk))) L m p (k + 1) := by
  refine ⟨by rw [List.length_set, h.len], ?_⟩
  have hlt := numBo_lt (m.take k)
  rw [List.length_take, Nat.min_eq_left (by omega)] at hlt
  rw [numBo_set, h.num, Nat.xor_assoc, List.take_succ_eq_append_getElem hk, numBo_append, List.length_take, Nat.min_eq_left (by omega)]
  congr 1
  have e1 : numBo [m[k]'hk] = (m[k]'hk).toNat := by simp [numBo]
  rw [e1, ← xor_add _ _ _ hlt, ← xor_mul_pow, Nat.mul_comm (2 ^ k), Nat.mul_assoc, ← Nat.pow_add, Nat.add_comm k p]
/-- after i steps of the division -/
structure Div (l L : List Bool) (i : Nat) : Prop where
  len : l.length = L.length
  num : numBo l / 2 ^ i = stepsC i (numBo L)
theorem Div.zero (L : List Bool) : Div L L 0 := ⟨rfl, by rw [Nat.pow_zero, Nat.div_one]; rfl⟩
theorem xor_div_pow (a b k : Nat) : (a ^^^ b) / 2 ^ k = (a / 2 ^ k) ^^^ (b / 2 ^ k) := by
  apply Nat.eq_of_testBit_eq
  intro i
  simp [Nat.testBit_xor, Nat.testBit_div_two_pow]
theorem stepsC_snoc (i a : Nat) : stepsC (i + 1) a = stepC (stepsC i a) := by rw [stepsC_add]; rfl
theorem div_succ (a i : Nat) : a / 2 ^ (i + 1) = a / 2 ^ i / 2 := by rw [Nat.pow_succ, Nat.div_div_eq_div_mul]
theorem Div.no {l L : List Bool} {i : Nat} (h : Div l L i) (hi : i < l.length) (hb : l[i]'hi = false) : Div l L (i + 1) := by
  refine ⟨h.len, ?_⟩
  have e := numBo_get l i hi
  rw [hb, h.num] at e
  rw [stepsC_snoc, ← h.num, div_succ, h.num]
  unfold stepC
  rw [if_neg (by rw [e]; decide), Nat.xor_zero]
theorem Div.yes {l l' L : List Bool} {i : Nat} (h : Div l L i) (hi : i < l.length) (hb : l[i]'hi = true) (hp : Part l' l modL (i + 1) 32) : Div l' L (i + 1) := by
  refine ⟨by rw [hp.len, h.len], ?_⟩
  have e := numBo_get l i hi
  rw [hb, h.num] at e
  have em : numBo (modL.take 32) = modC := by rw [List.take_of_length_le (by rw [modL_len]; exact Nat.le_refl _), modL_num]
  rw [hp.num, em, xor_div_pow, Nat.mul_div_cancel _ (Nat.two_pow_pos _), div_succ, h.num, stepsC_snoc]
  unfold stepC
  rw [if_pos (by rw [e]; rfl)]
end Go.Proofs.YtmahadcohnhdkaaDoor

namespace Go.Proofs.YtmahadcohnhdkaaDoor
open Go.RowKit

def lcells (l : List Bool) : List Value := l.map .bool
theorem lcells_len (l : List Bool) : (lcells l).length = l.length := by simp [lcells]
theorem lcells_append (a b : List Bool) : lcells (a ++ b) = lcells a ++ lcells b := by simp [lcells]
theorem lcells_get {l : List Bool} {k : Nat} (hk : k < l.length) : (lcells l)[k]? = some (.bool l[k]) := by simp [lcells, hk]
theorem lcells_set (l : List Bool) (j : Nat) (b : Bool) : (lcells l).set j (.bool b) = lcells (l.set j b) := by unfold lcells; rw [List.map_set]
theorem lcells_one (l : List Bool) : ∀ u ∈ lcells l, u.oneCell' = true := by
  intro u hu
  unfold lcells at hu
  rw [List.mem_map] at hu
  obtain ⟨x, _, rfl⟩ := hu
  rfl
theorem Tryd.infoBool : (Tryd.prog.info? 4).map (fun i => (i.zero, i.size, i.bytes)) = some (some (.bool false), 1, 1) := by kernel_rfl
theorem eltBool : Elt Tryd.prog 96 4 (.bool false) 1 1 := ⟨Tryd.underlying96, Tryd.infoBool, rfl, by omega⟩

theorem modL_succ {r : Nat} (h : r < 32) : modL.take (r + 1) = modL.take r ++ [powL.contains (31 - r)] := by
  rw [List.take_succ_eq_append_getElem (by rw [modL_len]; exact h)]
  congr 2
  simp [modL]
theorem powL_succ {j x : Nat} (h : j < 17) : (powL.take (j + 1)).contains x = ((powL.take j).contains x || x == powL[j]'h) := by
  rw [List.take_succ_eq_append_getElem h, List.contains_eq_mem, List.contains_eq_mem]
  simp only [List.mem_append, List.mem_singleton, Bool.decide_or]
  rfl

set_option maxRecDepth 10000 in
set_option maxHeartbeats 1000000 in
theorem rmodulus_any (w : World) : Calls Tryd.prog 63 #[] w (RetOwn w 4 1 32 (lcells modL)) := by
  go_enter Tryd.func63, Tryd.ntmps63
  go_wp2_with fail
  have q := Blk.new w 3 #[.int .i64 28, .int .i64 27, .int .i64 26, .int .i64 25, .int .i64 23, .int .i64 22, .int .i64 20, .int .i64 19, .int .i64 18, .int .i64 14, .int .i64 13, .int .i64 11, .int .i64 10, .int .i64 9, .int .i64 8, .int .i64 6, .int .i64 0]
  have hb1 := (Below.refl w.heap.size w).alloc (Nat.le_refl _) (.cells #[.int .i64 28, .int .i64 27, .int .i64 26, .int .i64 25, .int .i64 23, .int .i64 22, .int .i64 20, .int .i64 19, .int .i64 18, .int .i64 14, .int .i64 13, .int .i64 11, .int .i64 10, .int .i64 9, .int .i64 8, .int .i64 6, .int .i64 0] 3)
  obtain ⟨g, hg⟩ : ∃ g, g = w.heap.size := ⟨_, rfl⟩
  rw [← hg] at q ⊢
  clear hg
  generalize w.alloc (.cells #[.int .i64 28, .int .i64 27, .int .i64 26, .int .i64 25, .int .i64 23, .int .i64 22, .int .i64 20, .int .i64 19, .int .i64 18, .int .i64 14, .int .i64 13, .int .i64 11, .int .i64 10, .int .i64 9, .int .i64 8, .int .i64 6, .int .i64 0] 3) = w1 at *
  have hgl := q.lt
  have HC : ∀ W : World, Blk W g 3 #[.int .i64 28, .int .i64 27, .int .i64 26, .int .i64 25, .int .i64 23, .int .i64 22, .int .i64 20, .int .i64 19, .int .i64 18, .int .i64 14, .int .i64 13, .int .i64 11, .int .i64 10, .int .i64 9, .int .i64 8, .int .i64 6, .int .i64 0] → Hid (∀ j, (h : j < 17) → W.cell? ⟨g, j, none⟩ = some (.int .i64 (powL[j]'h : Int))) := fun W hq => Lib.hid fun j h => by
    rw [hq.cell j]
    have all : ∀ k : Fin 17, (#[.int .i64 28, .int .i64 27, .int .i64 26, .int .i64 25, .int .i64 23, .int .i64 22, .int .i64 20, .int .i64 19, .int .i64 18, .int .i64 14, .int .i64 13, .int .i64 11, .int .i64 10, .int .i64 9, .int .i64 8, .int .i64 6, .int .i64 0] : Array Value)[k.val]? = some (.int .i64 ((powL[k.val]'k.isLt : Nat) : Int)) := by
      intro k
      rcases k with ⟨k, hk⟩
      match k, hk with
      | 0, _ => rfl
      | 1, _ => rfl
      | 2, _ => rfl
      | 3, _ => rfl
      | 4, _ => rfl
      | 5, _ => rfl
      | 6, _ => rfl
      | 7, _ => rfl
      | 8, _ => rfl
      | 9, _ => rfl
      | 10, _ => rfl
      | 11, _ => rfl
      | 12, _ => rfl
      | 13, _ => rfl
      | 14, _ => rfl
      | 15, _ => rfl
      | 16, _ => rfl
      | _ + 17, h => exact absurd h (by omega)
    exact all ⟨j, h⟩
  go_loopw [1, 3, 4, 5] (fun v k _ _ wr => ∃ r : Nat, r ≤ 32 ∧ k = .int .i64 (31 - (r : Int)) ∧ wr.ownsRow w1.heap.size 4 1 v r (lcells (modL.take r)) ∧ Below w1.heap.size w1 wr) (fun _ k _ _ _ => (intOf k + 1).toNat)
  case atStart => exact ⟨0, by omega, rfl, World.ownsRow_nil _ _ _ _, Below.refl _ _⟩
  case round =>
    obtain ⟨r, hr, rfl, hrow, hb⟩ := hrel
    have hs := hb.size
    by_cases hlt : r < 32
    · have i1 : (0 : Int) ≤ 31 - (r : Int) := by omega
      obtain ⟨x, hx⟩ : ∃ x : Nat, x = 31 - r := ⟨_, rfl⟩
      have ex : (31 : Int) - (r : Int) = (x : Int) := by omega
      have qr := HC wr (q.below hb hgl)
      have HM := Lib.hid (modL_succ hlt)
      rw [← hx] at HM
      rw [ex]
      rw [ex] at i1
      have HX := Lib.hid (show x + r = 31 by omega)
      have hx31 : x ≤ 31 := by omega
      clear hx ex HC
      go_wp2_with fail
      go_loopw [4, 5] (fun b i wz => ∃ j : Nat, j ≤ 17 ∧ i = .int .i64 (j : Int) ∧ b = .bool ((powL.take j).contains x) ∧ wz = wr) (fun _ i _ => 17 - (intOf i).toNat)
      case atStart => exact ⟨0, by omega, rfl, rfl, rfl⟩
      case round =>
        obtain ⟨j, hj, rfl, rfl, rfl⟩ := hrel
        by_cases hj17 : j < 17
        · have hc := qr.out j hj17
          have HP := Lib.hid (powL_succ (x := x) hj17)
          clear qr
          generalize powL[j]'hj17 = y at *
          by_cases hy : y = x
          · have i2 : ((y : Int) == (x : Int)) = true := by simp [hy]
            have hy2 : (x == y) = true := by simp [hy]
            have HY := Lib.hid hy2
            clear hy hy2
            have i3 : (j : Int) < 17 := by omega
            go_wp2_with fail
            go_roundw
            case rel => exact ⟨j + 1, by omega, by go_num, by rw [HP.out, HY.out, Bool.or_true], trivial⟩
            case measure => simp [intOf]; omega
          · have i2 : ((y : Int) == (x : Int)) = false := by simp; omega
            have hy2 : (x == y) = false := by simp; omega
            have HY := Lib.hid hy2
            clear hy hy2
            have i3 : (j : Int) < 17 := by omega
            go_wp2_with fail
            go_roundw
            case rel => exact ⟨j + 1, by omega, by go_num, by rw [HP.out, HY.out, Bool.or_false], trivial⟩
            case measure => simp [intOf]; omega
        · obtain rfl : j = 17 := by omega
          rw [show powL.take 17 = powL from rfl]
          generalize powL.contains x = z at *
          go_wp2_with (at_builtin; refine wpList_push eltBool rfl (.tmp 23) (.tmp 25) rfl (W := wr) rfl hrow rfl rfl (by simp [Value.oneCell']) (by omega) (by unfold maxLen; omega) hb hs ?_; intro v' w' hown' hb' _ _)
          go_roundw
          case rel =>
            refine ⟨r + 1, by omega, ?_, ?_, hb'⟩
            · have h := HX.out
              congr 1
              omega
            · rw [HM.out, lcells_append]
              exact hown'
          case measure => simp [intOf]
    · obtain rfl : r = 32 := by omega
      rw [List.take_of_length_le (by rw [modL_len]; exact Nat.le_refl _)] at hrow
      clear HC
      go_wp2_with fail
      go_ret
      exact ⟨_, rfl, own_low hrow hb1.size, hb1.trans (hb.mono hb1.size)⟩
end Go.Proofs.YtmahadcohnhdkaaDoor

namespace Go.Proofs.YtmahadcohnhdkaaDoor
open Go.RowKit

/-- what is left of a row: the last 32 of a row of the call's own -/
def RetLeft (w : World) (n : Nat) (L : List Bool) (e : Ending) (w' : World) : Prop :=
  ∃ (g c : Nat) (l : List Bool), e = .returned (.slice (some ⟨g, n - 32, none⟩) 32 (c - (n - 32))) ∧ n ≤ c ∧ w.heap.size ≤ g ∧ w'.ownsRow w.heap.size 4 1 (.slice (some ⟨g, 0, none⟩) n c) n (lcells l) ∧ Div l L (n - 32) ∧ Below w.heap.size w w'

set_option maxRecDepth 10000 in
set_option maxHeartbeats 1000000 in
theorem rleft_any (L : List Bool) (A : Option Addr) (n c : Nat) (w : World) (h32 : 32 ≤ n) (hn : n ≤ 140737488355328) (h : Rd w w.heap.size 1 A n (lcells L)) :
    Calls Tryd.prog 56 #[.slice A n c] w (RetLeft w n L) := by
  have hL : L.length = n := by have := h.1; rw [lcells_len] at this; omega
  have HL := Lib.hid hL
  have H := Lib.hid (rmodulus_any w)
  clear hL
  go_enter Tryd.func56, Tryd.ntmps56
  go_wp2_with fail
  refine H.out.mono ?_
  rintro e w1 ⟨v1, rfl, o1, b1⟩
  obtain ⟨g1, c1, rfl, hc1, hg1⟩ := own_ptr o1 (by omega)
  have r1 := own_rd o1
  have h1 := h.after b1
  clear H o1 h hg1
  have o0 : w1.ownsRow w1.heap.size 4 1 (.slice none 0 0) 0 [] := World.ownsRow_nil _ _ _ _
  go_wp2_with (at_builtin; refine wpList_app eltBool rfl (.tmp 8) (.tmp 9) rfl rfl o0 rfl h1 (lcells_one _) (by omega) (by unfold maxLen; omega) (Below.refl _ _) (Nat.le_refl _) ?_; intro v2 w2 o2 b2 x1 x2; clear x1 x2)
  rw [Nat.zero_add, List.nil_append] at o2
  obtain ⟨g, c2, rfl, hc2, hg⟩ := own_ptr o2 (by omega)
  have hs := b2.size
  have r2 := r1.below b2 (Nat.le_refl _)
  have hB := b1.trans (b2.mono b1.size)
  clear o0 h1 r2 hB
  go_loopw [4] (fun v wr => v = .slice (some ⟨g, 0, none⟩) n c2 ∧ wr = w2) (fun _ _ => 0)
  case atStart => exact ⟨by first | rfl | trivial, by first | rfl | trivial⟩
  case round =>
    obtain ⟨rfl, rfl⟩ := hrel
    have i32 : ¬ (n : Int) < 32 := by omega
    go_wp2_with fail
    generalize hWW : wr = w3 at *
    clear hWW
    go_loopw [5, 6] (fun i _ wz => ∃ k : Nat, k ≤ n - 32 ∧ i = .int .i64 (k : Int) ∧ Below w1.heap.size w1 wz ∧ ∃ l : List Bool, Div l L k ∧ wz.ownsRow w1.heap.size 4 1 (.slice (some ⟨g, 0, none⟩) n c2) n (lcells l)) (fun i _ _ => n - (intOf i).toNat)
    case atStart => exact ⟨0, by omega, rfl, b2, L, Div.zero _, o2⟩
    case round =>
      obtain ⟨k, hk, rfl, bz, l, HD, oz⟩ := hrel
      have hl : l.length = n := by rw [HD.len, HL.out]
      have rz := r1.below bz (Nat.le_refl _)
      by_cases hlt : k < n - 32
      · have i1 : (k : Int) + 32 < (n : Int) := by omega
        have hkl : k < l.length := by omega
        have hc := World.ownsRow.cellAt oz k (by omega)
        rw [lcells_get hkl] at hc
        have HLL := Lib.hid hl
        clear hl
        by_cases hb : l[k]'hkl = true
        · rw [hb] at hc
          have HB := Lib.hid hb
          clear hb
          have i3 : k < n := by omega
          have HDY := fun l' hp => Lib.hid (HD.yes (l' := l') hkl HB.out hp)
          clear rz
          go_wp2_with fail
          clear hc
          go_loopw [6] (fun i wy => ∃ j : Nat, j ≤ 32 ∧ i = .int .i64 (j : Int) ∧ Below w1.heap.size w1 wy ∧ ∃ l' : List Bool, Part l' l modL (k + 1) j ∧ wy.ownsRow w1.heap.size 4 1 (.slice (some ⟨g, 0, none⟩) n c2) n (lcells l')) (fun i _ => 32 - (intOf i).toNat)
          case atStart => exact ⟨0, by omega, rfl, bz, l, Part.zero _ _ _, oz⟩
          case round =>
            obtain ⟨j, hj, rfl, by_, l', HP, oy⟩ := hrel
            have hl' : l'.length = n := by rw [HP.len, HLL.out]
            by_cases hj32 : j < 32
            · obtain ⟨p, hp⟩ : ∃ p, p = k + 1 + j := ⟨_, rfl⟩
              have hpl : k + 1 + j < l'.length := by omega
              have hjm : j < modL.length := by rw [modL_len]; exact hj32
              have HP2 := HP.set hjm hpl
              have ry := r1.below by_ (Nat.le_refl _)
              have hcm := ry.cell rfl (by omega) (lcells_get hjm)
              rw [Nat.zero_add] at hcm
              have hcx := World.ownsRow.cellAt oy (k + 1 + j) (by omega)
              rw [lcells_get hpl] at hcx
              have hfz := World.ownsRow.frozenAt oy (k + 1 + j)
              have ep : (k : Int) + 1 + (j : Int) = (p : Int) := by omega
              have hpn : p < n := by omega
              have i4 : (j : Int) < 32 := by omega
              generalize l'[k + 1 + j]'hpl = x at *
              generalize modL[j]'hjm = y at *
              rw [← hp] at HP2 hcx hfz
              have HP2 := Lib.hid HP2
              have HPP := Lib.hid HP
              have hcur : Below wr.heap.size wr wr.drew := ⟨rfl, rfl, rfl, Nat.le_refl _, fun _ _ => rfl⟩
              have hbd : Below w1.heap.size w1 wr.drew := ⟨by_.os, by_.tape, by_.output, by_.size, by_.block⟩
              have HG := Lib.hid hg
              clear hp hl' HP ry hpl hjm
              go_wp2_with fail
              refine wp_region_plan (fun W => W.cell? ⟨g, p, none⟩ = some (.bool x)) [.calms [0, 1, 2, 3, 4, 5, 6, 7, 8, 9, 10, 12, 13, 14], .read 11, .act 15, .act 16, .calms [17], .act 18] (by kernel_rfl) (by rfl) (by kernel_rfl) (by kernel_rfl) hcx ?_
              have oy : wr.drew.ownsRow w1.heap.size 4 1 (.slice (some ⟨g, 0, none⟩) n c2) n (lcells l') := oy
              have hcx : wr.drew.cell? ⟨g, p, none⟩ = some (.bool x) := hcx
              have hcm : wr.drew.cell? ⟨g1, j, none⟩ = some (.bool y) := hcm
              have hfz : wr.drew.frozen? ⟨g, p, none⟩ = false := hfz
              generalize wr.drew = wd at *
              refine plan_calms (by simp [calmRow, need, chk]; rfl) ?_
              go_wp2_with fail
              refine plan_read (by rfl) (.bool x) (by rfl) (fun W hW => exec_load rfl rfl (by kernel_rfl) hW) ?_
              refine plan_act (by rfl) ?_
              go_wp2_with fail
              refine ⟨hcx, plan_last (by rfl) (by kernel_rfl) ?_⟩
              go_wp2_with fail
              refine plan_calms (by simp [calmRow, need]; rfl) ?_
              go_wp2_with fail
              refine plan_last (by rfl) (by kernel_rfl) ?_
              go_wp2_with fail
              refine plan_end ?_
              rw [show (!(x == y)) = (x ^^ y) by cases x <;> cases y <;> rfl]
              have hst := (World.ownsRow.stored oy p (.bool (x ^^ y))).1
              rw [lcells_set] at hst
              have hbs := hbd.setCell (p := ⟨g, p, none⟩) HG.out (.bool (x ^^ y))
              clear hcx hcm hfz oy hbd hcur
              generalize wd.setCell ⟨g, p, none⟩ (.bool (x ^^ y)) = we at *
              go_wp2_with fail
              go_roundw
              case rel => exact ⟨j + 1, by omega, by go_num, hbs, l'.set p (x ^^ y), HP2.out, hst⟩
              case measure => simp [intOf]; omega
            · obtain rfl : j = 32 := by omega
              have HD2 := HDY l' HP
              clear HDY HP
              go_wp2_with fail
              go_roundw
              case rel => exact ⟨k + 1, by omega, by go_num, by_, l', HD2.out, oy⟩
              case measure => simp [intOf]; omega
        · have hb : l[k]'hkl = false := by simpa using hb
          have HD2 := HD.no hkl hb
          rw [hb] at hc
          have i3 : k < n := by omega
          clear hb
          go_wp2_with fail
          go_roundw
          case rel => exact ⟨k + 1, by omega, by go_num, bz, l, HD2, oz⟩
          case measure => simp [intOf]; omega
      · obtain rfl : k = n - 32 := by omega
        have hB := b1.trans (bz.mono b1.size)
        have i1 : ¬ ((n - 32 : Nat) : Int) + 32 < (n : Int) := by omega
        have i2 : (n : Int) - 32 = ((n - 32 : Nat) : Int) := by omega
        obtain ⟨q, hq⟩ : ∃ q, q = n - 32 := ⟨_, rfl⟩
        rw [← hq] at i1 i2 HD ⊢
        have hqn : q ≤ n := by omega
        have hqc : q ≤ c2 := by omega
        have HQ := Lib.hid hq
        have HDD := Lib.hid HD
        clear hq HD hk hlt
        go_wp2_with fail
        go_ret
        have hq := HQ.out
        subst hq
        exact ⟨g, c2, l, by rw [show n - (n - 32) = 32 by omega]; rfl, hc2, Nat.le_trans b1.size hg, own_low oz b1.size, HDD.out, hB⟩
end Go.Proofs.YtmahadcohnhdkaaDoor

namespace Go.Proofs.YtmahadcohnhdkaaDoor
open Go.RowKit

theorem numBo_at (l : List Bool) (x : Nat) (hx : x < l.length) : numBo (l.drop x) = (l[x]'hx).toNat + 2 * numBo (l.drop (x + 1)) := by
  rw [List.drop_eq_getElem_cons hx]
  rfl
set_option maxHeartbeats 1000000 in
theorem rbitsC_any (l : List Bool) (hl : l.length = 32) (A : Option Addr) (c : Nat) (w : World) (h : Rd w w.heap.size 1 A 32 (lcells l)) :
    Calls Tryd.prog 57 #[.slice A 32 c] w fun e w' => e = .returned (.int .u32 (numBo l : Int)) ∧ w = w' := by
  have HL := Lib.hid hl
  have HR := Lib.hid h
  clear hl h
  go_enter Tryd.func57, Tryd.ntmps57
  go_wp2_with fail
  go_loopw [3, 4] (fun a i wr => ∃ r : Nat, r ≤ 32 ∧ i = .int .i64 (31 - (r : Int)) ∧ a = .int .u32 (numBo (l.drop (32 - r)) : Int) ∧ wr = w) (fun _ i _ => (intOf i + 1).toNat)
  case atStart => exact ⟨0, by omega, rfl, by rw [List.drop_of_length_le (by rw [HL.out]; exact Nat.le_refl _)]; rfl, by first | rfl | trivial⟩
  case round =>
    obtain ⟨r, hr, rfl, rfl, rfl⟩ := hrel
    by_cases hlt : r < 32
    · obtain ⟨x, hx⟩ : ∃ x : Nat, x = 31 - r := ⟨_, rfl⟩
      have ex : (31 : Int) - (r : Int) = (x : Int) := by omega
      have hx31 : x ≤ 31 := by omega
      have i1 : (0 : Int) ≤ (x : Int) := by omega
      have hxl : x < l.length := by rw [HL.out]; omega
      obtain ⟨b, off, rfl, _, hcell⟩ := HR.out.2.2 (by omega)
      have hc := hcell x _ (lcells_get hxl)
      have HN := Lib.hid (numBo_at l x hxl)
      have HX := Lib.hid (show x + r = 31 by omega)
      have hlt2 := numBo_lt (l.drop (x + 1))
      rw [List.length_drop, HL.out] at hlt2
      have hp : 2 ^ (32 - (x + 1)) ≤ 2 ^ 31 := Nat.pow_le_pow_right (by decide) (by omega)
      have ha : numBo (l.drop (x + 1)) < 2147483648 := by omega
      rw [show 32 - r = x + 1 by omega, ex]
      have HR2 := HR
      clear hx ex hlt2 hp hcell HR
      generalize numBo (l.drop (x + 1)) = a at *
      cases hb : l[x]'hxl with
      | true =>
        rw [hb] at hc HN
        clear hb
        go_wp2_with fail
        go_roundw
        case rel => exact ⟨r + 1, by omega, by have h := HX.out; congr 1; omega, by have h := HX.out; rw [show 32 - (r + 1) = x by omega, HN.out]; go_num, by first | rfl | trivial⟩
        case measure => simp [intOf]
      | false =>
        rw [hb] at hc HN
        clear hb
        go_wp2_with fail
        go_roundw
        case rel => exact ⟨r + 1, by omega, by have h := HX.out; congr 1; omega, by have h := HX.out; rw [show 32 - (r + 1) = x by omega, HN.out]; go_num, by first | rfl | trivial⟩
        case measure => simp [intOf]
    · obtain rfl : r = 32 := by omega
      have hN : numBo l < 4294967296 := by have := numBo_lt l; rw [HL.out] at this; exact this
      rw [show l.drop (32 - 32) = l from rfl, show (31 : Int) - ((32 : Nat) : Int) = -1 from rfl]
      clear HR
      go_wp2_with fail
      go_ret
      exact ⟨rfl, rfl⟩
end Go.Proofs.YtmahadcohnhdkaaDoor

namespace Go.Proofs.YtmahadcohnhdkaaDoor
open Go.RowKit

structure IsRow (b : List Bool) (n N : Nat) : Prop where
  len : b.length = n
  num : numBo b = N
theorem IsRow.nil : IsRow [] 0 0 := ⟨rfl, rfl⟩
theorem IsRow.snoc {b : List Bool} {n N : Nat} (h : IsRow b n N) (x : Bool) : IsRow (b ++ [x]) (n + 1) (N + 2 ^ n * x.toNat) := ⟨by rw [List.length_append, h.len]; rfl, by rw [numBo_append, h.num, h.len]; simp [numBo]⟩
theorem IsRow.flip {b : List Bool} {n N : Nat} (h : IsRow b n N) (p : Nat) (hp : p < b.length) : IsRow (b.set p (!(b[p]'hp))) n (N ^^^ 2 ^ p) := by
  refine ⟨by rw [List.length_set, h.len], ?_⟩
  have e := numBo_set b p true hp
  rw [Bool.xor_true] at e
  rw [e, h.num]
  simp
theorem mod_snoc (c t : Nat) : c % 2 ^ (t + 1) = c % 2 ^ t + 2 ^ t * (c / 2 ^ t % 2) := by rw [Nat.pow_succ, Nat.mod_mul]
theorem ones_succ (t : Nat) : (2 ^ t - 1) ^^^ 2 ^ t = 2 ^ (t + 1) - 1 := by
  have h := xor_add (2 ^ t - 1) 1 t (by have := Nat.two_pow_pos t; omega)
  rw [Nat.mul_one] at h
  rw [h, Nat.pow_succ]
  have := Nat.two_pow_pos t
  omega
theorem numL_snoc (l : List UInt8) (c : UInt8) : numL (l ++ [c]) = numL l + 256 ^ l.length * c.toNat := by
  rw [numL_append]
  simp [numL]

structure IsTail (b : List Bool) (n q N : Nat) : Prop where
  len : b.length = n
  num : numBo b / 2 ^ q = N
theorem IsTail.flip {b : List Bool} {n q N : Nat} (h : IsTail b n q N) (t : Nat) (hp : q + t < b.length) : IsTail (b.set (q + t) (!(b[q + t]'hp))) n q (N ^^^ 2 ^ t) := by
  refine ⟨by rw [List.length_set, h.len], ?_⟩
  have e := numBo_set b (q + t) true hp
  rw [Bool.xor_true] at e
  rw [e, xor_div_pow, h.num]
  congr 1
  rw [show true.toNat = 1 from rfl, Nat.one_mul, Nat.pow_add, Nat.mul_div_cancel_left _ (Nat.two_pow_pos q)]
theorem sum_tail (l : List UInt8) (n : Nat) (hl : l.length = n) : stepsC (8 * n) (numL l ^^^ (2 ^ 32 - 1)) ^^^ (2 ^ 32 - 1) = sumC l := by
  unfold sumC
  rw [runC_steps, hl, Nat.xor_comm (numL l), Nat.xor_comm _ (2 ^ 32 - 1)]
theorem rd_tail {w : World} {B g n q c : Nat} {b : List Bool} {e : TypeId} (h : w.ownsRow B e 1 (.slice (some ⟨g, 0, none⟩) n c) n (lcells b)) (hq : q + 32 = n) : Rd w w.heap.size 1 (some ⟨g, q, none⟩) 32 (lcells (b.drop q)) := by
  have h2 := (own_rd h).drop (k := q) (by omega)
  rw [Nat.mul_one, Nat.zero_add, show n - q = 32 by omega] at h2
  unfold lcells at h2 ⊢
  rwa [← List.map_drop] at h2
theorem row_byte (l : List UInt8) (k : Nat) (hk : k < l.length) : numL (l.take k) + 2 ^ (8 * k) * ((l[k]'hk).toNat % 2 ^ 8) = numL (l.take (k + 1)) := by
  have h := (l[k]'hk).toNat_lt
  rw [List.take_succ_eq_append_getElem hk, numL_snoc, List.length_take, Nat.min_eq_left (by omega), Nat.mod_eq_of_lt h, Nat.pow_mul]
theorem row_bit (N a C t b : Nat) (hb : b = C / 2 ^ t % 2) : N + 2 ^ a * (C % 2 ^ t) + 2 ^ (a + t) * b = N + 2 ^ a * (C % 2 ^ (t + 1)) := by
  rw [mod_snoc, hb, Nat.pow_add, Nat.mul_assoc, Nat.mul_add, Nat.add_assoc]

set_option maxRecDepth 10000 in
set_option maxHeartbeats 2000000 in
theorem rsum_any (l : List UInt8) (A : Option Addr) (n c : Nat) (w : World) (hn : n ≤ 1000000000000) (h : Rd w w.heap.size 1 A n (bcells l)) :
    Calls Tryd.prog 43 #[.slice A n c] w fun e w' => e = .returned (.int .u32 (sumC l : Int)) ∧ Below w.heap.size w w' := by
  have hl : l.length = n := by have := h.1; rw [bcells_len] at this; omega
  have HL := Lib.hid hl
  clear hl
  go_enter Tryd.func43, Tryd.ntmps43
  go_wp2_with fail
  go_loopw [3, 4, 5, 6] (fun v i _ _ wr => ∃ k : Nat, k ≤ n ∧ i = .int .i64 (k : Int) ∧ (∃ bl, IsRow bl (8 * k) (numL (l.take k)) ∧ wr.ownsRow w.heap.size 4 1 v (8 * k) (lcells bl)) ∧ Below w.heap.size w wr) (fun _ i _ _ _ => n - (intOf i).toNat)
  case atStart => exact ⟨0, by omega, rfl, ⟨[], IsRow.nil, World.ownsRow_nil _ _ _ _⟩, Below.refl _ _⟩
  case round =>
    obtain ⟨k, hk, rfl, ⟨bl, HI, ho⟩, hb⟩ := hrel
    by_cases hlt : k < n
    · have hkl : k < l.length := by rw [HL.out]; exact hlt
      obtain ⟨gb, off, rfl, hblk, hcell⟩ := (h.below hb (Nat.le_refl _)).2.2 (by omega)
      have hc := hcell k _ (bcells_get hkl)
      have HY := Lib.hid (row_byte l k hkl)
      have hu := (l[k]'hkl).toNat_lt
      generalize (l[k]'hkl).toNat = C at *
      generalize numL (l.take k) = N at *
      have i1 : (k : Int) < (n : Int) := by omega
      clear hcell hblk
      have hd0 : C / 2 ^ 0 = C := by simp
      have HD0 := Lib.hid hd0
      have HI0 : IsRow bl (8 * k + 0) (N + 2 ^ (8 * k) * (C % 2 ^ 0)) := by rw [Nat.pow_zero, Nat.mod_one]; exact HI
      clear hd0 HI
      go_wp2_with fail
      go_loopw [3, 5, 6] (fun v cc i wz => ∃ t : Nat, t ≤ 8 ∧ i = .int .i64 (t : Int) ∧ cc = .int .u8 ((C / 2 ^ t : Nat) : Int) ∧ (∃ bl, IsRow bl (8 * k + t) (N + 2 ^ (8 * k) * (C % 2 ^ t)) ∧ wz.ownsRow w.heap.size 4 1 v (8 * k + t) (lcells bl)) ∧ Below w.heap.size w wz) (fun _ _ i _ => 8 - (intOf i).toNat)
      case atStart => exact ⟨0, by omega, rfl, by rw [HD0.out], ⟨bl, HI0, ho⟩, hb⟩
      case round =>
        clear ho hb HI0
        obtain ⟨t, ht, rfl, rfl, ⟨bl, HI, ho⟩, hb⟩ := hrel
        by_cases ht8 : t < 8
        · obtain ⟨y, hy⟩ : ∃ y, y = C / 2 ^ t := ⟨_, rfl⟩
          have hy256 : y < 256 := by rw [hy]; exact Nat.lt_of_le_of_lt (Nat.div_le_self _ _) hu
          have HY2 := Lib.hid (show y / 2 = C / 2 ^ (t + 1) by rw [hy, Nat.pow_succ, Nat.div_div_eq_div_mul])
          obtain ⟨b, hbb⟩ : ∃ b : Bool, b = decide (y % 2 = 1) := ⟨_, rfl⟩
          have eb : ((y : Int) % 2 == 1) = b := by rw [hbb, Bool.eq_iff_iff]; simp; omega
          have HBT := Lib.hid (row_bit N (8 * k) C t b.toNat (by rw [← hy, hbb]; by_cases h2 : y % 2 = 1 <;> simp [h2]; omega))
          have HS := Lib.hid (HI.snoc b)
          have i2 : (t : Int) < 8 := by omega
          have hs := hb.size
          rw [← hy]
          clear hy hbb HI
          go_wp2_with (at_builtin; refine wpList_push eltBool rfl (.tmp 25) (.tmp 29) rfl (W := wr) rfl ho rfl rfl (by simp [Value.oneCell']) (by omega) (by unfold maxLen; omega) hb hs ?_; intro v' w' hown' hb' x1 x2; clear x1 x2)
          go_roundw
          case rel =>
            refine ⟨t + 1, by omega, by go_num, ?_, ⟨bl ++ [b], ?_, ?_⟩, hb'⟩
            · rw [← HY2.out]; go_num
            · rw [← HBT.out]; exact HS.out
            · rw [lcells_append]; exact hown'
          case measure => simp [intOf]; omega
        · obtain rfl : t = 8 := by omega
          rw [HY.out] at HI
          clear HY HD0
          go_wp2_with fail
          go_roundw
          case rel => exact ⟨k + 1, by omega, by go_num, ⟨bl, HI, ho⟩, hb⟩
          case measure => simp [intOf]; omega
    · obtain rfl : k = n := by omega
      rw [List.take_of_length_le (by rw [HL.out]; exact Nat.le_refl _)] at HI
      clear h
      have hz : IsRow bl (8 * k + 0) (numL l) := HI
      have hn : k ≤ 1000000000000 := hn
      go_wp2_with fail
      go_loopw [3, 7] (fun v i wz => ∃ t : Nat, t ≤ 32 ∧ i = .int .i64 (t : Int) ∧ (∃ bl, IsRow bl (8 * k + t) (numL l) ∧ wz.ownsRow w.heap.size 4 1 v (8 * k + t) (lcells bl)) ∧ Below w.heap.size w wz) (fun _ i _ => 32 - (intOf i).toNat)
      case atStart => exact ⟨0, by omega, rfl, ⟨bl, hz, ho⟩, hb⟩
      case round =>
        clear ho hb HI hz
        obtain ⟨t, ht, rfl, ⟨bl, HI, ho⟩, hb⟩ := hrel
        have hs := hb.size
        by_cases ht32 : t < 32
        · have HS := HI.snoc false
          rw [Bool.toNat_false, Nat.mul_zero, Nat.add_zero] at HS
          have HS := Lib.hid HS
          clear HI
          go_wp2_with (at_builtin; refine wpList_push eltBool rfl (.tmp 37) (.tmp 38) rfl (W := wr) rfl ho rfl rfl (by simp [Value.oneCell']) (by omega) (by unfold maxLen; omega) hb hs ?_; intro v' w' hown' hb' x1 x2; clear x1 x2)
          go_roundw
          case rel =>
            refine ⟨t + 1, by omega, by go_num, ⟨bl ++ [false], HS.out, ?_⟩, hb'⟩
            rw [lcells_append]; exact hown'
          case measure => simp [intOf]; omega
        · obtain rfl : t = 32 := by omega
          obtain ⟨g, c1, rfl, hc1, hg⟩ := own_ptr ho (by omega)
          obtain ⟨N, hN⟩ : ∃ N, N = 8 * k + 32 := ⟨_, rfl⟩
          rw [← hN] at HI ho hc1 ⊢
          have HI0 : IsRow bl N (numL l ^^^ (2 ^ 0 - 1)) := by rw [Nat.pow_zero, Nat.sub_self, Nat.xor_zero]; exact HI
          have hN32 : 32 ≤ N := by omega
          have hNm : N ≤ 140737488355328 := by omega
          have HN := Lib.hid hN
          clear hN HI
          go_wp2_with fail
          go_loopw [8] (fun i wz => ∃ t : Nat, t ≤ 32 ∧ i = .int .i64 (t : Int) ∧ (∃ bl, IsRow bl N (numL l ^^^ (2 ^ t - 1)) ∧ wz.ownsRow w.heap.size 4 1 (.slice (some ⟨g, 0, none⟩) N c1) N (lcells bl)) ∧ Below w.heap.size w wz) (fun i _ => 32 - (intOf i).toNat)
          case atStart => exact ⟨0, by omega, rfl, ⟨bl, HI0, ho⟩, hb⟩
          case round =>
            clear ho hb HI0 hs
            obtain ⟨t, ht, rfl, ⟨bl, HI, ho⟩, hb⟩ := hrel
            by_cases ht32 : t < 32
            · have htl : t < bl.length := by rw [HI.len]; omega
              have HS := HI.flip t htl
              rw [Nat.xor_assoc, ones_succ] at HS
              have hcx := World.ownsRow.cellAt ho t (by omega)
              rw [lcells_get htl] at hcx
              have hfz := World.ownsRow.frozenAt ho t
              generalize bl[t]'htl = x at *
              have hst := (World.ownsRow.stored ho t (.bool (!x))).1
              rw [lcells_set] at hst
              have hbs := hb.setCell (p := ⟨g, t, none⟩) hg (.bool (!x))
              have HS := Lib.hid HS
              have i4 : (t : Int) < 32 := by omega
              have i5 : t < N := by omega
              clear HI ho hb htl
              go_wp2_with fail
              go_roundw
              case rel => exact ⟨t + 1, by omega, by go_num, ⟨bl.set t (!x), HS.out, hst⟩, hbs⟩
              case measure => simp [intOf]; omega
            · obtain rfl : t = 32 := by omega
              have HLF := Lib.hid (rleft_any bl (some ⟨g, 0, none⟩) N c1 wr hN32 hNm (own_rd ho))
              have HNM := Lib.hid HI.num
              obtain ⟨q, hq⟩ : ∃ q, q = N - 32 := ⟨_, rfl⟩
              unfold RetLeft at HLF
              rw [← hq] at HLF
              have hqN : q + 32 = N := by omega
              have HQK := Lib.hid (show q = 8 * k by have := HN.out; omega)
              clear hq HI ho
              go_wp2_with fail
              refine HLF.out.mono ?_
              rintro e w5 ⟨g2, c2, l2, rfl, hc2, hg2, o5, D5, b5⟩
              have hb5 := hb.trans (b5.mono hb.size)
              have o5 := own_low o5 hb.size
              have hg2 : w.heap.size ≤ g2 := Nat.le_trans hb.size hg2
              obtain ⟨R, hR⟩ : ∃ R, R = stepsC q (numBo bl) := ⟨_, rfl⟩
              have HT0 : IsTail l2 N q (R ^^^ (2 ^ 0 - 1)) := ⟨by have := o5.1; rw [lcells_len] at this; omega, by rw [Nat.pow_zero, Nat.sub_self, Nat.xor_zero, hR]; exact D5.num⟩
              have HRR := Lib.hid hR
              clear hR D5 b5 HLF hb
              go_wp2_with fail
              go_loopw [10] (fun i wz => ∃ t : Nat, t ≤ 32 ∧ i = .int .i64 (t : Int) ∧ (∃ b2, IsTail b2 N q (R ^^^ (2 ^ t - 1)) ∧ wz.ownsRow w.heap.size 4 1 (.slice (some ⟨g2, 0, none⟩) N c2) N (lcells b2)) ∧ Below w.heap.size w wz) (fun i _ => 32 - (intOf i).toNat)
              case atStart => exact ⟨0, by omega, rfl, ⟨l2, HT0, o5⟩, hb5⟩
              case round =>
                clear o5 hb5 HT0
                obtain ⟨t, ht, rfl, ⟨b2, HI, ho⟩, hb⟩ := hrel
                by_cases ht32 : t < 32
                · have htl : q + t < b2.length := by rw [HI.len]; omega
                  have HS := HI.flip t htl
                  rw [Nat.xor_assoc, ones_succ] at HS
                  have hcx := World.ownsRow.cellAt ho (q + t) (by omega)
                  rw [lcells_get htl] at hcx
                  have hfz := World.ownsRow.frozenAt ho (q + t)
                  generalize b2[q + t]'htl = x at *
                  have hst := (World.ownsRow.stored ho (q + t) (.bool (!x))).1
                  rw [lcells_set] at hst
                  have hbs := hb.setCell (p := ⟨g2, q + t, none⟩) hg2 (.bool (!x))
                  have HS := Lib.hid HS
                  have i4 : (t : Int) < 32 := by omega
                  clear HI ho hb htl
                  go_wp2_with fail
                  go_roundw
                  case rel => exact ⟨t + 1, by omega, by go_num, ⟨b2.set (q + t) (!x), HS.out, hst⟩, hbs⟩
                  case measure => simp [intOf]; omega
                · obtain rfl : t = 32 := by omega
                  have hln : (b2.drop q).length = 32 := by rw [List.length_drop, HI.len]; omega
                  have hnm : numBo (b2.drop q) = sumC l := by
                    rw [numBo_drop b2 q (by rw [HI.len]; omega), HI.num, HRR.out, HNM.out, HQK.out]
                    exact sum_tail l k HL.out
                  have HB := rbitsC_any (b2.drop q) hln (some ⟨g2, q, none⟩) (c2 - q) wr (rd_tail ho hqN)
                  rw [hnm] at HB
                  have HB := Lib.hid HB
                  clear hln hnm HI ho
                  go_wp2_with fail
                  refine HB.out.mono ?_
                  rintro e w6 ⟨rfl, rfl⟩
                  go_wp2_with fail
                  go_ret
                  exact ⟨rfl, hb⟩
end Go.Proofs.YtmahadcohnhdkaaDoor

namespace Go.Proofs.YtmahadcohnhdkaaDoor
open Go.RowKit

theorem laidC_snoc (S j : Nat) (hj : j < 4) : (laidC S).take (j + 1) = (laidC S).take j ++ [UInt8.ofNat (S / 256 ^ j)] := by
  have hc : j = 0 ∨ j = 1 ∨ j = 2 ∨ j = 3 := by omega
  rcases hc with rfl | rfl | rfl | rfl <;> simp [laidC]
set_option maxHeartbeats 1000000 in
theorem rcover_any (l : List UInt8) (A : Option Addr) (n c : Nat) (w : World) (hn : n ≤ 1000000000000) (h : Rd w w.heap.size 1 A n (bcells l)) :
    Calls Tryd.prog 22 #[.slice A n c] w (RetOwn w 5 1 (n + 4) (bcells (coverC l))) := by
  have o0 : w.ownsRow w.heap.size 5 1 (.slice none 0 0) 0 [] := World.ownsRow_nil _ _ _ _
  have HS := fun W h => Lib.hid (rsum_any l A n c W hn h)
  have hSl := sumC_lt l
  have HC := Lib.hid (show coverC l = l ++ laidC (sumC l) from rfl)
  generalize sumC l = S at *
  go_enter Tryd.func22, Tryd.ntmps22
  go_wp2_with (at_builtin; refine wpList_app eltU8 rfl (.tmp 6) (.tmp 7) rfl rfl o0 rfl h (bcells_one _) (by omega) (by unfold maxLen; omega) (Below.refl _ _) (Nat.le_refl _) ?_; intro v2 w2 o2 b2 x1 x2; clear x1 x2)
  rw [Nat.zero_add, List.nil_append] at o2
  refine (HS _ (h.after b2)).out.mono ?_
  rintro e w3 ⟨rfl, b3⟩
  have o3 : Ow _ _ _ _ _ _ _ := Ow.after o2 b3
  have hb := belowGo b2 b3
  have o3 : w3.ownsRow w.heap.size 5 1 v2 (n + 0) (bcells (l ++ (laidC S).take 0)) := by rw [List.take_zero, List.append_nil]; exact o3
  have hS0 : S / 256 ^ 0 = S := by simp
  have H0 := Lib.hid hS0
  clear HS o2 b2 b3 o0 h hS0
  go_wp2_with fail
  go_loopw [3, 4, 5] (fun v s i wr => ∃ j : Nat, j ≤ 4 ∧ i = .int .i64 (j : Int) ∧ s = .int .u32 ((S / 256 ^ j : Nat) : Int) ∧ wr.ownsRow w.heap.size 5 1 v (n + j) (bcells (l ++ (laidC S).take j)) ∧ Below w.heap.size w wr) (fun _ _ i _ => 4 - (intOf i).toNat)
  case atStart => exact ⟨0, by omega, rfl, by rw [H0.out], o3, hb⟩
  case round =>
    clear o3 hb
    obtain ⟨j, hj, rfl, rfl, ho, hb⟩ := hrel
    have hs := hb.size
    by_cases hlt : j < 4
    · have HL := Lib.hid (laidC_snoc S j hlt)
      obtain ⟨y, hy⟩ : ∃ y, y = S / 256 ^ j := ⟨_, rfl⟩
      have hyl : y < 4294967296 := by rw [hy]; exact Nat.lt_of_le_of_lt (Nat.div_le_self _ _) hSl
      have HY := Lib.hid (show y / 256 = S / 256 ^ (j + 1) by rw [hy, Nat.pow_succ, Nat.div_div_eq_div_mul])
      have HB := Lib.hid (show ((UInt8.ofNat y).toNat : Int) = (y : Int) % 256 by rw [UInt8.toNat_ofNat']; omega)
      rw [← hy] at HL ⊢
      clear hy
      go_wp2_with (at_builtin; refine wpList_push eltU8 rfl (.tmp 15) (.tmp 19) rfl (W := wr) rfl ho rfl rfl (by simp [Value.oneCell']) (by omega) (by unfold maxLen; omega) hb hs ?_; intro v' w' hown' hb' x1 x2; clear x1 x2)
      go_roundw
      case rel =>
        refine ⟨j + 1, by omega, by go_num, by rw [← HY.out]; go_num, ?_, hb'⟩
        rw [HL.out, ← List.append_assoc, bcells_append]
        simp only [bcells, List.map_cons, List.map_nil, HB.out] at hown' ⊢
        exact hown'
      case measure => simp [intOf]; omega
    · obtain rfl : j = 4 := by omega
      rw [List.take_of_length_le (by rw [laidC_len]; exact Nat.le_refl _), ← HC.out] at ho
      go_wp2_with fail
      go_ret
      exact ⟨_, rfl, ho, hb⟩
end Go.Proofs.YtmahadcohnhdkaaDoor
