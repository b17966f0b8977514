/- Several texts in one: Ref1, Ref2, Ref3, Ref4. No condition of its own. -/
import Derived.Test.YtedjolkkidciiaaGP
import Derived.Test.YtedjolkkidciiaaGB
import Derived.Test.YtedjolkkidciiaaFixLaw
namespace Go.Proofs.Ytedjolkkidciiaa
open Go.RowKit

def icells (l : List Nat) : List Value := l.map fun (x : Nat) => Value.int .i64 (x : Int)
theorem icells_len (l : List Nat) : (icells l).length = l.length := by simp [icells]
theorem icells_append (a b : List Nat) : icells (a ++ b) = icells a ++ icells b := by simp [icells]
theorem icells_get {l : List Nat} {k : Nat} (hk : k < l.length) : (icells l)[k]? = some (.int .i64 (l[k] : Int)) := by simp [icells, hk]
theorem icells_one (l : List Nat) : ∀ u ∈ icells l, u.oneCell' = true := by
  intro u hu
  unfold icells at hu
  rw [List.mem_map] at hu
  obtain ⟨x, _, rfl⟩ := hu
  rfl
theorem Try.infoI64 : (Try.prog.info? 3).map (fun i => (i.zero, i.size, i.bytes)) = some (some (.int .i64 0), 1, 8) := by kernel_rfl
theorem eltI64 : Elt Try.prog 83 3 (.int .i64 0) 1 8 := ⟨Try.underlying83, Try.infoI64, rfl, by omega⟩

theorem rown_any (a : List UInt8) (A : Option Addr) (n c : Nat) (w : World) (h : Rd w w.heap.size 1 A n (bcells a)) (hn : n ≤ 140737488355328) :
    Calls Try.prog 9 #[.slice A n c] w (RetOwn w 5 1 n (bcells a)) := by
  have hown := World.ownsRow_nil w w.heap.size 5 1
  go_enter Try.func9, Try.ntmps9
  go_wp2_with (at_builtin; refine wpList_app eltU8 rfl (.tmp 4) (.tmp 5) rfl rfl hown rfl h (bcells_one _) (by omega) (by unfold maxLen; omega) (Below.refl _ _) (Nat.le_refl _) ?_; intro v4 w4 o4 b4 g4 _)
  go_ret
  rw [Nat.zero_add, List.nil_append] at o4
  exact ⟨_, rfl, o4, b4⟩

/-- a number's bits, so many, the highest first -/
def bitsL (n m : Nat) : List Nat := (List.range m).map fun i => n / 2 ^ (m - 1 - i) % 2
theorem bitsL_len (n m : Nat) : (bitsL n m).length = m := by simp [bitsL]
theorem bitsL_get {n m i : Nat} (h : i < m) : (bitsL n m)[i]? = some (n / 2 ^ (m - 1 - i) % 2) := by simp [bitsL, h]
/-- what has been set after r rounds: the lowest r of m -/
def bitsTo (n m r : Nat) : List Nat := List.replicate (m - r) 0 ++ (bitsL n m).drop (m - r)
theorem bitsTo_len (n m r : Nat) (h : r ≤ m) : (bitsTo n m r).length = m := by unfold bitsTo; rw [List.length_append, List.length_replicate, List.length_drop, bitsL_len]; omega
theorem bitsTo_zero (n m : Nat) : bitsTo n m 0 = List.replicate m 0 := by unfold bitsTo; rw [Nat.sub_zero, List.drop_of_length_le (by rw [bitsL_len]; exact Nat.le_refl _), List.append_nil]
theorem bitsTo_all (n m : Nat) : bitsTo n m m = bitsL n m := by unfold bitsTo; simp
theorem bitsTo_succ (n m r : Nat) (h : r < m) : (icells (bitsTo n m r)).set (m - 1 - r) (.int .i64 ((n / 2 ^ r % 2 : Nat) : Int)) = icells (bitsTo n m (r + 1)) := by
  apply List.ext_getElem?
  intro i
  rw [List.getElem?_set]
  unfold icells bitsTo
  simp only [List.getElem?_map, List.length_map]
  by_cases hi : m - 1 - r = i
  · subst hi
    rw [if_pos rfl, if_pos (by simp [bitsL_len]; omega), List.getElem?_append_right (by simp; omega), List.getElem?_drop]
    simp only [List.length_replicate]
    rw [bitsL_get (by omega)]
    rw [show m - 1 - (m - (r + 1) + (m - 1 - r - (m - (r + 1)))) = r by omega]
    rfl
  · rw [if_neg hi]
    by_cases h1 : i < m - (r + 1)
    · rw [List.getElem?_append_left (by simp; omega), List.getElem?_append_left (by simp; omega)]
      simp [h1, show i < m - r by omega]
    · rw [List.getElem?_append_right (by simp; omega), List.getElem?_append_right (by simp; omega), List.getElem?_drop, List.getElem?_drop]
      simp only [List.length_replicate]
      congr 2
      omega

def bitsFit (n m : Nat) : Bool := decide (n / 2 ^ m = 0)
def RetTwo (w : World) (E n : Nat) (xs : List Value) (b : Value) (e : Ending) (w' : World) : Prop := ∃ v, e = .returned (.tuple #[v, b]) ∧ w'.ownsRow w.heap.size E 1 v n xs ∧ Below w.heap.size w w'

set_option maxHeartbeats 1000000 in
theorem rbits_any (n : Nat) (hn : n < 18446744073709551616) (m : Nat) (hm : m ≤ 1000) (w : World) :
    Calls Try.prog 42 #[.int .u64 (n : Int), .int .i64 (m : Int)] w (RetTwo w 3 m (icells (bitsL n m)) (.bool (bitsFit n m))) := by
  obtain ⟨i0, hi, hz0, hz1, hz2⟩ := info_parts Try.infoI64
  have hmk := fun W => run_make_rowN (P := Try.prog) 83 3 i0 (.int .i64 0) Try.underlying83 hi hz0 .i64 .i64 m m (Nat.le_refl _) (by rw [hz2]; omega) (by omega) W
  rw [hz1] at hmk
  have hB := Lib.hid (bitsTo_succ n m)
  have hL := Lib.hid (fun r => bitsTo_len n m r)
  have hA := Lib.hid (bitsTo_all n m)
  have hrow0 := own_made w w.heap.size 3 (.int .i64 0) m (Nat.le_refl _) (by unfold maxLen; omega)
  have e0 : List.replicate m (Value.int .i64 0) = icells (bitsTo n m 0) := by rw [bitsTo_zero]; simp [icells]
  rw [e0] at hrow0
  have hb0 : Below w.heap.size w (w.alloc (.cells (madeCells #[Value.int .i64 0] m) 3)) := (Below.refl _ _).alloc (Nat.le_refl _) _
  have hz : n / 2 ^ 0 = n := by simp
  have HZ := Lib.hid hz
  clear e0 hz hi hz0 hz1 hz2
  go_enter Try.func42, Try.ntmps42
  go_wp2
  have hrow0 : (w.alloc (.cells (madeCells #[Value.int .i64 0] m) 3)).ownsRow w.heap.size 3 1 (.slice (some ⟨w.heap.size, 0, none⟩) m m) m (icells (bitsTo n m 0)) := hrow0
  go_loopw [0, 7] (fun x i wr => ∃ r : Nat, r ≤ m ∧ i = .int .i64 ((m : Int) - 1 - (r : Int)) ∧ x = .int .u64 ((n / 2 ^ r : Nat) : Int) ∧ wr.ownsRow w.heap.size 3 1 (.slice (some ⟨w.heap.size, 0, none⟩) m m) m (icells (bitsTo n m r)) ∧ Below w.heap.size w wr) (fun _ i _ => (intOf i + 1).toNat)
  case atStart => exact ⟨0, Nat.zero_le _, by simp, by rw [HZ.out], hrow0, hb0⟩
  case round =>
    obtain ⟨r, hr, rfl, rfl, hrow, hb⟩ := hrel
    clear hrow0 hb0 hmk
    by_cases hlt : r < m
    · have e1 : (m : Int) - 1 - (r : Int) = ((m - 1 - r : Nat) : Int) := by omega
      have hc := hrow.cellAt (m - 1 - r) (by omega)
      have hf := hrow.frozenAt (m - 1 - r)
      have hlen := hL.out r hr
      have hst := hrow.stored (m - 1 - r) (.int .i64 ((n / 2 ^ r % 2 : Nat) : Int))
      rw [hB.out r hlt] at hst
      have hx : n / 2 ^ r < 18446744073709551616 := Nat.lt_of_le_of_lt (Nat.div_le_self _ _) hn
      have hd : n / 2 ^ r / 2 = n / 2 ^ (r + 1) := by rw [Nat.div_div_eq_div_mul, Nat.pow_succ]
      have HD := Lib.hid hd
      obtain ⟨v, hv⟩ : ∃ v, (icells (bitsTo n m r))[m - 1 - r]? = some v := ⟨_, List.getElem?_eq_getElem (by rw [icells_len]; omega)⟩
      rw [hv] at hc
      clear hv
      have hlt' : (m - 1 - r : Nat) < m := by omega
      have hbs := hb.setCell (p := ⟨w.heap.size, m - 1 - r, none⟩) (Nat.le_refl _) (.int .i64 ((n / 2 ^ r % 2 : Nat) : Int))
      clear hd hlen
      generalize n / 2 ^ r = x at *
      rw [e1]
      go_wp2
      go_roundw
      case rel =>
        refine ⟨r + 1, by omega, ?_, ?_, ?_, ?_⟩
        · congr 1 <;> omega
        · rw [← HD.out]; first | rfl | (congr 1 <;> simp)
        · exact hst.1
        · exact hbs
      case measure => simp [intOf] <;> omega
    · obtain rfl : r = m := by omega
      have e1 : (r : Int) - 1 - (r : Int) = -1 := by omega
      rw [e1]
      rw [hA.out] at hrow
      have hq : ∀ x : Nat, x = n / 2 ^ r → ((x : Int) == 0) = bitsFit n r := fun x hx => by unfold bitsFit; rw [hx, Bool.eq_iff_iff, beq_iff_eq, decide_eq_true_eq]; rw [← hx]; omega
      obtain ⟨x, hx⟩ : ∃ x, x = n / 2 ^ r := ⟨_, rfl⟩
      have hq := hq x hx
      rw [← hx]
      clear hx
      go_wp2
      go_ret2
      exact ⟨_, rfl, hrow, hb⟩

/-- what bits say -/
def numB (l : List Nat) : Nat := l.foldl (fun n b => 2 * n + b) 0
theorem numB_snoc (l : List Nat) (b : Nat) : numB (l ++ [b]) = 2 * numB l + b := by simp [numB]
theorem rnumber_any (l : List Nat) (A : Option Addr) (n c : Nat) (w : World) (hl : ∀ x ∈ l, x < 2) (h : Rd w w.heap.size 1 A n (icells l)) :
    Calls Try.prog 43 #[.slice A n c] w fun e w' => e = .returned (.int .u64 ((numB l % 18446744073709551616 : Nat) : Int)) ∧ w = w' := by
  have hln : l.length = n := by have := h.1; rw [icells_len] at this; omega
  have hmx := h.2.1
  unfold maxLen at hmx
  have hg : ∀ j, j < n → ∃ b off, A = some ⟨b, off, none⟩ ∧ w.cell? ⟨b, off + j, none⟩ = some (.int .i64 (l.getD j 0 : Int)) := fun j hj => by
    obtain ⟨b, off, e, hbk, hc⟩ := h.2.2 (by omega)
    refine ⟨b, off, e, hc j _ ?_⟩
    rw [icells_get (by omega)]; simp [List.getD, show j < l.length by omega]
  have HL := Lib.hid hln
  have H2 := Lib.hid hl
  clear h hln hl
  go_enter Try.func43, Try.ntmps43
  go_wp2
  go_loopw [3, 4] (fun x i wr => ∃ k : Nat, k ≤ n ∧ i = .int .i64 k ∧ wr = w ∧ x = .int .u64 ((numB (l.take k) % 18446744073709551616 : Nat) : Int)) (fun _ i _ => n - (intOf i).toNat)
  case atStart => exact ⟨0, Nat.zero_le _, rfl, rfl, rfl⟩
  case round =>
    obtain ⟨k, hk, rfl, rfl, rfl⟩ := hrel
    by_cases hlt : k < n
    · obtain ⟨b, off, rfl, hc⟩ := hg k hlt
      have hkl : k < l.length := by have := HL.out; omega
      have hs : numB (l.take (k + 1)) = 2 * numB (l.take k) + l.getD k 0 := by
        rw [List.take_succ_eq_append_getElem hkl, numB_snoc]; simp [List.getD, hkl]
      have hx2 : l.getD k 0 < 2 := by
        have := H2.out l[k] (List.getElem_mem hkl)
        simpa [List.getD, hkl] using this
      clear hg
      generalize l.getD k 0 = d at *
      have HS := Lib.hid hs
      generalize numB (l.take k) = x at *
      have hstep : ∀ z : Nat, z = x % 18446744073709551616 → (IntKind.u64.wrap (IntKind.u64.wrap (2 * (z : Int)) + (d : Int))) = (((2 * x + d) % 18446744073709551616 : Nat) : Int) := fun z hz => by
        simp only [IntKind.wrap_u64]; omega
      obtain ⟨z, hz⟩ : ∃ z, z = x % 18446744073709551616 := ⟨_, rfl⟩
      have hst := hstep z hz
      rw [← hz]
      have hz1 : z < 18446744073709551616 := by omega
      clear hs hstep hz
      go_wp2
      go_roundw
      case rel => exact ⟨k + 1, by omega, by go_num, trivial, by rw [HS.out]; simp⟩
      case measure => simp [intOf]; omega
    · obtain rfl : k = n := by omega
      have ht : l.take k = l := List.take_of_length_le (by have := HL.out; omega)
      rw [ht]
      clear ht hg
      go_wp2
      go_ret
      exact ⟨rfl, rfl⟩
end Go.Proofs.Ytedjolkkidciiaa

namespace Go.Proofs.Ytedjolkkidciiaa
open Go.RowKit

def bytesJ : Nat → List Nat → List UInt8
  | 0, _ => []
  | j + 1, l => UInt8.ofNat (numB (l.take 8)) :: bytesJ j (l.drop 8)
theorem bytesJ_len : ∀ (j : Nat) (l : List Nat), (bytesJ j l).length = j
  | 0, _ => rfl
  | j + 1, l => by rw [bytesJ, List.length_cons, bytesJ_len j]
theorem bytesJ_get : ∀ (k j : Nat) (l : List Nat), k < j → (bytesJ j l)[k]? = some (UInt8.ofNat (numB ((l.drop (8 * k)).take 8)))
  | k, 0, _, h => by omega
  | 0, j + 1, l, _ => by simp [bytesJ]
  | k + 1, j + 1, l, h => by
    rw [bytesJ, List.getElem?_cons_succ, bytesJ_get k j _ (by omega), List.drop_drop, show 8 + 8 * k = 8 * (k + 1) by omega]
theorem bytesJ_snoc (k j : Nat) (l : List Nat) (h : k < j) : (bytesJ j l).take (k + 1) = (bytesJ j l).take k ++ [UInt8.ofNat (numB ((l.drop (8 * k)).take 8))] := by
  have hk : k < (bytesJ j l).length := by rw [bytesJ_len]; exact h
  have := bytesJ_get k j l h
  rw [List.getElem?_eq_getElem hk] at this
  injection this with this
  rw [List.take_succ_eq_append_getElem hk, this]
theorem numB_acc (n : Nat) : ∀ l : List Nat, l.foldl (fun n b => 2 * n + b) n = n * 2 ^ l.length + numB l
  | [] => by simp [numB]
  | b :: l => by
    have h1 := numB_acc (2 * n + b) l
    have h2 := numB_acc b l
    unfold numB at *
    simp only [List.foldl_cons, Nat.mul_zero, Nat.zero_add, List.length_cons]
    rw [h1, h2, Nat.pow_succ, Nat.add_mul]
    have : 2 * n * 2 ^ l.length = n * (2 ^ l.length * 2) := by rw [Nat.mul_comm 2 n, Nat.mul_assoc, Nat.mul_comm 2]
    omega
theorem numB_append (a b : List Nat) : numB (a ++ b) = numB a * 2 ^ b.length + numB b := by
  have := numB_acc (numB a) b
  unfold numB at *
  rw [List.foldl_append]
  exact this
theorem numB_lt : ∀ l : List Nat, (∀ x ∈ l, x < 2) → numB l < 2 ^ l.length
  | [], _ => by simp [numB]
  | b :: l, h => by
    have h1 := numB_lt l fun x hx => h x (by simp [hx])
    have hb := h b (by simp)
    have e : numB (b :: l) = b * 2 ^ l.length + numB l := by have := numB_append [b] l; simpa [numB] using this
    rw [e, List.length_cons, Nat.pow_succ]
    have : b * 2 ^ l.length ≤ 1 * 2 ^ l.length := Nat.mul_le_mul_right _ (by omega)
    omega
theorem num_bytesJ : ∀ (j : Nat) (l : List Nat), l.length = 8 * j → (∀ x ∈ l, x < 2) → num (bytesJ j l) = numB l
  | 0, l, h, _ => by
    have : l = [] := List.eq_nil_of_length_eq_zero (by omega)
    subst this
    rfl
  | j + 1, l, h, h2 => by
    have h8 := numB_lt (l.take 8) fun x hx => h2 x (List.mem_of_mem_take hx)
    rw [List.length_take, Nat.min_eq_left (by omega)] at h8
    have ih := num_bytesJ j (l.drop 8) (by rw [List.length_drop]; omega) fun x hx => h2 x (List.mem_of_mem_drop hx)
    rw [bytesJ, num_cons, bytesJ_len, ih]
    have e := numB_append (l.take 8) (l.drop 8)
    rw [List.take_append_drop, List.length_drop, h] at e
    rw [e, show 8 * (j + 1) - 8 = 8 * j by omega, Nat.pow_mul]
    simp only [UInt8.toNat_ofNat']
    rw [Nat.mod_eq_of_lt (by omega)]
theorem bitsL_lt (n m : Nat) : ∀ x ∈ bitsL n m, x < 2 := by
  intro x hx
  unfold bitsL at hx
  rw [List.mem_map] at hx
  obtain ⟨i, _, rfl⟩ := hx
  exact Nat.mod_lt _ (by omega)
theorem bitsL_cons (n m : Nat) : bitsL n (m + 1) = n / 2 ^ m % 2 :: bitsL n m := by
  unfold bitsL
  rw [List.range_succ_eq_map, List.map_cons, List.map_map]
  congr 1
  apply List.map_congr_left
  intro i _
  simp only [Function.comp]
  congr 3
  omega
theorem numB_bits (n : Nat) : ∀ m, numB (bitsL n m) = n % 2 ^ m
  | 0 => by simp [bitsL, numB, Nat.mod_one]
  | m + 1 => by
    have e : numB (n / 2 ^ m % 2 :: bitsL n m) = n / 2 ^ m % 2 * 2 ^ (bitsL n m).length + numB (bitsL n m) := by
      have := numB_append [n / 2 ^ m % 2] (bitsL n m); simpa [numB] using this
    rw [bitsL_cons, e, bitsL_len, numB_bits n m, Nat.pow_succ, Nat.mod_mul]
    rw [Nat.mul_comm, Nat.add_comm]
def formIn (n k : Nat) : List Nat := List.replicate (k - 1) 1 ++ [0] ++ bitsL n (7 * k)
theorem formIn_len {n k : Nat} (h : 1 ≤ k) : (formIn n k).length = 8 * k := by unfold formIn; simp [bitsL_len]; omega
theorem formIn_lt (n k : Nat) : ∀ x ∈ formIn n k, x < 2 := by
  intro x hx
  unfold formIn at hx
  simp only [List.mem_append, List.mem_replicate, List.mem_singleton] at hx
  rcases hx with (⟨_, rfl⟩ | rfl) | hx
  · omega
  · omega
  · exact bitsL_lt _ _ _ hx
def formL (n k : Nat) : List UInt8 := if k = 9 then [255] ++ bytesJ 8 (bitsL n 64) else bytesJ k (formIn n k)
theorem formL_len {n k : Nat} : (formL n k).length = k := by unfold formL; split <;> simp [bytesJ_len]; omega
theorem numB_ones : ∀ k, numB (List.replicate k 1) + 1 = 2 ^ k
  | 0 => rfl
  | k + 1 => by
    have := numB_ones k
    rw [List.replicate_succ', numB_snoc, Nat.pow_succ]
    omega
theorem formL_pform (n : Nat) (hn : n < 18446744073709551616) : formL n (psize n) = pform n := by
  apply num_inj _ _ (by rw [formL_len, pform_len])
  rw [num_pform n hn]
  have h1 := psize_pos n
  by_cases h9 : psize n = 9
  · unfold formL
    rw [if_pos h9, if_pos h9, List.singleton_append, num_cons, bytesJ_len, num_bytesJ 8 _ (by rw [bitsL_len]) (bitsL_lt _ _), numB_bits]
    have : (255 : UInt8).toNat = 255 := rfl
    rw [this]
    omega
  · unfold formL
    rw [if_neg h9, if_neg h9, num_bytesJ _ _ (formIn_len h1) (formIn_lt _ _)]
    unfold formIn pword
    rw [if_neg h9, numB_append, numB_append, numB_bits, bitsL_len]
    have ho := numB_ones (psize n - 1)
    have h0 : numB [0] = 0 := rfl
    rw [h0]
    generalize numB (List.replicate (psize n - 1) 1) = y at *
    rcases psize_cases n with ⟨e, h⟩ | ⟨e, h⟩ | ⟨e, h⟩ | ⟨e, h⟩ | ⟨e, h⟩ | ⟨e, h⟩ | ⟨e, h⟩ | ⟨e, h⟩ | ⟨e, h⟩ <;> rw [e] at ho ⊢ <;> simp only [Nat.reduceSub, Nat.reducePow, Nat.reduceMul, Nat.reduceAdd, List.length_cons, List.length_nil] at ho ⊢ <;> omega
theorem fits_psize (n k : Nat) (h1 : 1 ≤ k) (h8 : k ≤ 8) : n / 2 ^ (7 * k) = 0 ↔ psize n ≤ k := by
  have hc : k = 1 ∨ k = 2 ∨ k = 3 ∨ k = 4 ∨ k = 5 ∨ k = 6 ∨ k = 7 ∨ k = 8 := by omega
  rcases psize_cases n with ⟨e, h⟩ | ⟨e, h⟩ | ⟨e, h⟩ | ⟨e, h⟩ | ⟨e, h⟩ | ⟨e, h⟩ | ⟨e, h⟩ | ⟨e, h⟩ | ⟨e, h⟩ <;> rw [e] <;> rcases hc with rfl | rfl | rfl | rfl | rfl | rfl | rfl | rfl <;> simp only [Nat.reducePow, Nat.reduceMul] <;> omega

theorem Rd.irange {w : World} {B n b off : Nat} {l : List Nat} (h : Rd w B 1 (some ⟨b, off, none⟩) n (icells l)) {k m : Nat} (hk : k + m ≤ n) : Rd w B 1 (some ⟨b, off + k, none⟩) m (icells ((l.drop k).take m)) := by
  have h1 := (h.drop (k := k) (by omega)).take (k := m) (by omega)
  rw [Nat.mul_one, Nat.mul_one] at h1
  unfold icells at *
  rw [List.map_take, List.map_drop]
  exact h1

set_option maxHeartbeats 1000000 in
theorem rbytes_any (l : List Nat) (A : Option Addr) (n c : Nat) (w : World) (hl : ∀ x ∈ l, x < 2) (hnc : n ≤ c) (hn : n ≤ 1000) (h : Rd w w.heap.size 1 A n (icells l)) :
    Calls Try.prog 47 #[.slice A n c] w (RetOwn w 5 1 (n / 8) (bcells (bytesJ (n / 8) l))) := by
  have hown := World.ownsRow_nil w w.heap.size 5 1
  have HS := Lib.hid (fun k => bytesJ_snoc k (n / 8) l)
  have HT := Lib.hid (show (bytesJ (n / 8) l).take (n / 8) = bytesJ (n / 8) l from List.take_of_length_le (by rw [bytesJ_len]; exact Nat.le_refl _))
  have H2 := Lib.hid hl
  have HL := Lib.hid (show l.length = n by have := h.1; rw [icells_len] at this; omega)
  clear hl
  go_enter Try.func47, Try.ntmps47
  go_wp2
  go_loopw [3, 4] (fun v i wr => ∃ k : Nat, k ≤ n / 8 ∧ i = .int .i64 ((8 * k : Nat) : Int) ∧ wr.ownsRow w.heap.size 5 1 v k (bcells ((bytesJ (n / 8) l).take k)) ∧ Below w.heap.size w wr) (fun _ i _ => (n + 8) - (intOf i).toNat)
  case atStart => exact ⟨0, Nat.zero_le _, rfl, hown, Below.refl _ _⟩
  case round =>
    obtain ⟨k, hk, rfl, hrow, hb⟩ := hrel
    have hs := hb.size
    by_cases hlt : 8 * k + 8 ≤ n
    · have hkn : k < n / 8 := by omega
      have r1 := (h.below hb (Nat.le_refl _)).more hb.size
      obtain ⟨b, off, rfl, _, _⟩ := h.2.2 (by omega)
      have r8 := r1.irange (k := 8 * k) (m := 8) (by omega)
      have h8 := numB_lt ((l.drop (8 * k)).take 8) fun x hx => H2.out x (List.mem_of_mem_drop (List.mem_of_mem_take hx))
      have hl8 : ((l.drop (8 * k)).take 8).length = 8 := by rw [List.length_take, List.length_drop, HL.out]; omega
      rw [hl8] at h8
      have HN := fun c => Lib.hid (rnumber_any ((l.drop (8 * k)).take 8) _ 8 c wr (fun x hx => H2.out x (List.mem_of_mem_drop (List.mem_of_mem_take hx))) r8)
      have hsn := HS.out k hkn
      generalize numB ((l.drop (8 * k)).take 8) = x at *
      have hx : x % 18446744073709551616 = x := by omega
      rw [hx] at HN
      have hub : ((UInt8.ofNat x).toNat : Int) = (x : Int) := by simp only [UInt8.toNat_ofNat']; omega
      have HUB := Lib.hid hub
      have HSN := Lib.hid hsn
      have i1 : ((8 * k : Nat) : Int) + 8 ≤ (n : Int) := by omega
      have i2 : ((8 * k : Nat) : Int) + 8 ≤ (c : Int) := by omega
      have i3 : 8 * k < c := by omega
      have i4 : (((8 * k : Nat) : Int) + 8).toNat = 8 * k + 8 := by omega
      have i5 : 8 * k + 8 - 8 * k = 8 := by omega
      have i6 : (0 : Int) ≤ ((8 * k : Nat) : Int) := by omega
      have hx256 : x < 256 := by omega
      have hx0 : (x : Int) % 256 = x := by omega
      clear h8 hx hub hsn r1 r8 h hl8
      generalize hK : 8 * k = K at *
      have HK := Lib.hid hK
      clear hK
      go_wp2_with fail
      refine (HN _).out.mono ?_
      rintro e w1 ⟨rfl, rfl⟩
      clear HN
      go_wp2_with (at_builtin; refine wpList_push eltU8 rfl (.tmp 12) (.tmp 20) rfl (W := wr) rfl hrow rfl rfl (by simp [Value.oneCell']) (by omega) (by unfold maxLen; omega) hb hs ?_; intro v' w' hown' hb' _ _)
      go_roundw
      case rel =>
        refine ⟨k + 1, by omega, ?_, ?_, hb'⟩
        · rw [show 8 * (k + 1) = K + 8 by have := HK.out; omega]; go_num
        · rw [HSN.out, bcells_append]
          simp only [bcells, List.map_cons, List.map_nil, HUB.out] at hown' ⊢
          exact hown'
      case measure => simp [intOf]; omega
    · obtain rfl : k = n / 8 := by omega
      have i1 : ¬ ((8 * (n / 8) : Nat) : Int) + 8 ≤ (n : Int) := by omega
      have i6 : (0 : Int) ≤ ((8 * (n / 8) : Nat) : Int) := by omega
      rw [HT.out] at hrow
      have i7 : ((8 * (n / 8) : Nat) : Int) ≤ 1000 := by omega
      clear hlt
      generalize 8 * (n / 8) = K at *
      go_wp2
      go_ret
      exact ⟨_, rfl, hrow, hb⟩

theorem own_cap' {w : World} {base : Nat} {e : TypeId} {size : Nat} {v : Value} {n : Nat} {xs : List Value} (h : w.ownsRow base e size v n xs) : ∃ A c, v = .slice A n c ∧ n ≤ c := by
  rcases h.2 with ⟨rfl, rfl⟩ | ⟨g, cap, cur, rfl, hb, hh, hnc, hcm, _⟩
  · exact ⟨_, _, rfl, Nat.le_refl _⟩
  · exact ⟨_, _, rfl, hnc⟩

def fitsB (n k : Nat) : Bool := if k = 9 then true else bitsFit n (7 * k)

set_option maxHeartbeats 1000000 in
theorem rform_any (n : Nat) (hn : n < 18446744073709551616) (k : Nat) (h1 : 1 ≤ k) (hk9 : k ≤ 9) (w : World) :
    Calls Try.prog 45 #[.int .u64 (n : Int), .int .i64 (k : Int)] w (RetTwo w 5 k (bcells (formL n k)) (.bool (fitsB n k))) := by
  by_cases h9 : k = 9
  · subst h9
    have HB := Lib.hid (rbits_any n hn 64 (by omega) w)
    have ef : formL n 9 = [255] ++ bytesJ 8 (bitsL n 64) := by unfold formL; rw [if_pos rfl]
    have eb : fitsB n 9 = true := by unfold fitsB; rw [if_pos rfl]
    rw [ef, eb]
    have H2 := bitsL_lt n 64
    generalize hbl : bitsL n 64 = bl at *
    have e9 : (((9 : Nat) : Int) == 9) = true := rfl
    have H2' := Lib.hid H2
    clear ef eb hbl H2
    go_enter Try.func45, Try.ntmps45
    go_wp2_with fail
    refine HB.out.mono ?_
    rintro e w1 ⟨v1, rfl, o1, b1⟩
    obtain ⟨A1, c1, rfl, z1⟩ := own_cap' o1
    have r1 := (own_rd o1).allocs (.cells #[.int .u8 255] 5)
    have ol := own_lit1 w1 5 #[.int .u8 255] 1 b1.size rfl (by unfold maxLen; omega)
    have hba := belowAlloc b1 (.cells #[.int .u8 255] 5)
    have HY := Lib.hid (rbytes_any bl A1 64 c1 _ H2'.out z1 (by omega) r1)
    clear o1 b1 HB
    go_wp2_with fail
    refine HY.out.mono ?_
    rintro e w2 ⟨v2, rfl, o2, b2⟩
    obtain ⟨A2, c2, rfl, z2⟩ := own_cap' o2
    have r2 := own_rd o2
    have ol2 := Ow.after ol b2
    have hb := belowGo hba b2
    have hs := hb.size
    clear HY o2 b2 ol hba r1
    unfold Ow at ol2
    go_wp2_with (at_builtin; refine wpList_app eltU8 rfl (.tmp 19) (.tmp 21) rfl rfl ol2 rfl r2 (bcells_one _) (by omega) (by unfold maxLen; omega) hb hs ?_; intro v3 w3 o3 b3 g3 _)
    go_ret2
    exact ⟨_, rfl, o3, b3⟩
  · have ef : formL n k = bytesJ k (formIn n k) := by unfold formL; rw [if_neg h9]
    have eb : fitsB n k = bitsFit n (7 * k) := by unfold fitsB; rw [if_neg h9]
    rw [ef, eb]
    have e9 : ((k : Int) == 9) = false := by simp; omega
    have HB := fun w => Lib.hid (rbits_any n hn (7 * k) (by omega) w)
    have H2 := Lib.hid (formIn_lt n k)
    have HI := Lib.hid (show List.replicate (k - 1) 1 ++ [0] ++ bitsL n (7 * k) = formIn n k from rfl)
    have hown := World.ownsRow_nil w w.heap.size 3 1
    have HR := Lib.hid (fun i : Nat => (List.replicate_succ' (n := i) (a := (1 : Nat))))
    clear ef eb
    go_enter Try.func45, Try.ntmps45
    go_wp2
    go_loopw [8, 9] (fun v i wr => ∃ j : Nat, j ≤ k - 1 ∧ i = .int .i64 (j : Int) ∧ wr.ownsRow w.heap.size 3 1 v j (icells (List.replicate j 1)) ∧ Below w.heap.size w wr) (fun _ i _ => k - (intOf i).toNat)
    case atStart => exact ⟨0, Nat.zero_le _, rfl, hown, Below.refl _ _⟩
    case round =>
      obtain ⟨j, hj, rfl, hrow, hb⟩ := hrel
      have hs := hb.size
      by_cases hlt : j < k - 1
      · have i1 : (j : Int) < (k : Int) - 1 := by omega
        go_wp2_with (at_builtin; refine wpList_push eltI64 rfl (.tmp 29) (.tmp 30) rfl (W := wr) rfl hrow rfl rfl (by simp [Value.oneCell']) (by omega) (by unfold maxLen; omega) hb hs ?_; intro v' w' hown' hb' _ _)
        go_roundw
        case rel =>
          refine ⟨j + 1, by omega, by go_num, ?_, hb'⟩
          rw [HR.out, icells_append]
          exact hown'
        case measure => simp [intOf]; omega
      · obtain rfl : j = k - 1 := by omega
        have i1 : ¬ ((k - 1 : Nat) : Int) < (k : Int) - 1 := by omega
        have HB' := Lib.hid ((HB wr).out)
        have HI' := HI
        have HD := Lib.hid (show formIn n k = formIn n k from rfl)
        obtain ⟨q, hq⟩ : ∃ q, q = 7 * k := ⟨_, rfl⟩
        have i2 : (7 : Int) * (k : Int) = (q : Int) := by omega
        rw [← hq] at HB' HI'
        have HQ := Lib.hid hq
        clear hq
        clear HB
        go_wp2_with fail
        refine HB'.out.mono ?_
        rintro e w1 ⟨v1, rfl, o1, b1⟩
        obtain ⟨A1, c1, rfl, z1⟩ := own_cap' o1
        have q1 : Ow _ _ _ _ _ _ _ := o1
        have hlo : ∀ g, u8.ownBlock = some g → g < wr.heap.size := fun g hg => (World.ownsRow.lt hrow g hg).2
        have hrow1 := Ow.after hrow b1
        unfold Ow at hrow1
        have hb1 := belowGo hb b1
        have hs1 := hb1.size
        clear HB' o1
        have HL := Lib.hid (show (icells (List.replicate (k - 1) 1) ++ [Value.int .i64 0]) ++ icells (bitsL n q) = icells (formIn n k) by rw [← HI'.out, icells_append, icells_append]; rfl)
        have HK8 := Lib.hid (show (k - 1 + 1 + q) / 8 = k by have := HQ.out; omega)
        have hn8 : k - 1 + 1 + q ≤ 1000 := by have := HQ.out; omega
        go_wp2_with (first
          | (at_builtin; refine wpList_push eltI64 rfl (.tmp 39) (.tmp 40) rfl (W := w1) (v := u8) rfl hrow1 rfl rfl (by simp [Value.oneCell']) (by omega) (by unfold maxLen; omega) hb1 hs1 ?_; intro v2 w2 o2 b2 g2 _; have r2 := (Ow.grown q1 g2 hlo).rd)
          | (at_builtin; refine wpList_app eltI64 rfl (.tmp 41) (.tmp 42) rfl rfl o2 rfl r2 (icells_one _) (by omega) (by unfold maxLen; omega) b2 b2.size ?_; intro v3 w3 o3 b3 g3 _; obtain ⟨A3, c3, rfl, z3⟩ := own_cap' o3)
          | fail)
        have r3 := own_rd o3
        have HY := Lib.hid (rbytes_any (formIn n k) A3 (k - 1 + 1 + q) c3 w3 H2.out z3 hn8 (by rw [← HL.out]; exact r3))
        rw [HK8.out, show k - 1 + 1 + q = k + q by omega] at HY
        clear r3 o3 o2 r2 hrow1
        refine HY.out.mono ?_
        rintro e w4 ⟨v4, rfl, o4, b4⟩
        clear HY
        go_wp2
        go_ret2
        have hb3 := belowGo b3 b4
        rw [← HQ.out]
        exact ⟨_, rfl, own_low o4 b3.size, hb3⟩

set_option maxHeartbeats 1000000 in
theorem rshortest_any (n : Nat) (hn : n < 18446744073709551616) (w : World) :
    Calls Try.prog 40 #[.int .u64 (n : Int)] w (RetOwn w 5 1 (psize n) (bcells (pform n))) := by
  have h1 := psize_pos n
  have h9 := psize_le n
  have HF := fun k h1 h9 w => Lib.hid (rform_any n hn k h1 h9 w)
  have HP := Lib.hid (formL_pform n hn)
  have hfit : ∀ k, 1 ≤ k → k ≤ 8 → fitsB n k = decide (psize n ≤ k) := fun k hk hk8 => by
    unfold fitsB bitsFit
    rw [if_neg (by omega), decide_eq_decide]
    exact fits_psize n k hk hk8
  have HFT := Lib.hid hfit
  clear hfit
  go_enter Try.func40, Try.ntmps40
  go_wp2
  go_loopw [3] (fun i wr => ∃ k : Nat, 1 ≤ k ∧ k ≤ 9 ∧ k ≤ psize n ∧ i = .int .i64 (k : Int) ∧ Below w.heap.size w wr) (fun i _ => 9 - (intOf i).toNat)
  case atStart => exact ⟨1, by omega, by omega, h1, rfl, Below.refl _ _⟩
  case round =>
    obtain ⟨k, hk1, hk9, hkp, rfl, hb⟩ := hrel
    by_cases hlt : k < 9
    · have HF' := HF k hk1 hk9 wr
      have hft := HFT.out k hk1 (by omega)
      by_cases he : psize n ≤ k
      · obtain rfl : k = psize n := by omega
        rw [decide_eq_true he] at hft
        rw [hft, HP.out] at HF'
        clear hft HF
        go_wp2_with fail
        refine HF'.out.mono ?_
        rintro e w1 ⟨v1, rfl, o1, b1⟩
        go_wp2
        go_ret
        exact ⟨_, rfl, own_low o1 hb.size, belowGo hb b1⟩
      · rw [decide_eq_false he] at hft
        rw [hft] at HF'
        clear hft HF
        go_wp2_with fail
        refine HF'.out.mono ?_
        rintro e w1 ⟨v1, rfl, o1, b1⟩
        go_wp2
        go_roundw
        case rel => exact ⟨k + 1, by omega, by omega, by omega, by go_num, belowGo hb b1⟩
        case measure => simp [intOf]; omega
    · obtain rfl : k = 9 := by omega
      have hp9 : psize n = 9 := by omega
      have HF' := HF 9 (by omega) (by omega) wr
      rw [← hp9, HP.out, hp9] at HF'
      have HP9 := Lib.hid hp9
      clear hp9 HF
      go_wp2_with fail
      refine HF'.out.mono ?_
      rintro e w1 ⟨v1, rfl, o1, b1⟩
      go_wp2
      go_ret
      rw [HP9.out]
      exact ⟨_, rfl, own_low o1 hb.size, belowGo hb b1⟩

theorem rput_any (a : List UInt8) (A : Option Addr) (n c : Nat) (x : Nat) (hx : x < 18446744073709551616) (w : World) (h : Rd w w.heap.size 1 A n (bcells a)) (hn : n + 9 ≤ 140737488355328) :
    Calls Try.prog 33 #[.slice A n c, .int .u64 (x : Int)] w (RetOwn w 5 1 (n + psize x) (bcells (a ++ pform x))) := by
  have HO := Lib.hid (rown_any a A n c w h (by omega))
  have HS := fun w => Lib.hid (rshortest_any x hx w)
  have h9 := psize_le x
  go_enter Try.func33, Try.ntmps33
  go_wp2_with fail
  refine HO.out.mono ?_
  rintro e w1 ⟨v1, rfl, o1, b1⟩
  go_wp2_with fail
  refine (HS w1).out.mono ?_
  rintro e w2 ⟨v2, rfl, o2, b2⟩
  obtain ⟨A2, c2, rfl⟩ := own_slice o2
  have r2 := own_rd o2
  have q1 := Ow.after o1 b2
  unfold Ow at q1
  have hb := belowGo b1 b2
  go_wp2_with (at_builtin; refine wpList_app eltU8 rfl (.tmp 6) (.tmp 8) rfl rfl q1 rfl r2 (bcells_one _) (by omega) (by unfold maxLen; omega) hb hb.size ?_; intro v3 w3 o3 b3 g3 _)
  go_ret
  rw [← bcells_append] at o3
  exact ⟨_, rfl, o3, b3⟩
end Go.Proofs.Ytedjolkkidciiaa

namespace Go.Proofs.Ytedjolkkidciiaa
open Go.RowKit

theorem bitsFit_fits (n m : Nat) : bitsFit n m = fits n ((m : Nat) : Int) := by
  have h0 := Nat.two_pow_pos m
  unfold bitsFit fits
  rw [decide_eq_decide, Int.toNat_natCast, Nat.div_eq_zero_iff]
  omega
theorem byte_mod (x : Nat) : ((UInt8.ofNat x).toNat : Int) = (x : Int) % 256 := by simp
theorem le_take (x j k : Nat) (h : j ≤ k) : (le x k).take j = le x j := by
  unfold le
  rw [← List.map_take, List.take_range, Nat.min_eq_left h]

end Go.Proofs.Ytedjolkkidciiaa

namespace Go.Proofs.Ytedjolkkidciiaa
open Go.RowKit

theorem lead_bits (c : UInt8) (k : Nat) (h1 : 1 ≤ k) (h8 : k ≤ 8) : (k < lead c → c.toNat / 2 ^ (8 - k) % 2 = 1) ∧ (k = lead c → c.toNat / 2 ^ (8 - k) % 2 = 0) := by
  have all : ∀ (j : Fin 256) (k : Fin 9), 1 ≤ k.val → (k.val < 9 - Lib.bitLen (255 - j.val) → j.val / 2 ^ (8 - k.val) % 2 = 1) ∧ (k.val = 9 - Lib.bitLen (255 - j.val) → j.val / 2 ^ (8 - k.val) % 2 = 0) := by decide +kernel
  exact all ⟨c.toNat, c.toNat_lt⟩ ⟨k, by omega⟩ h1
def bits8 (l : List UInt8) : List Nat := l.flatMap fun c => bitsL c.toNat 8
theorem bits8_len : ∀ l : List UInt8, (bits8 l).length = 8 * l.length
  | [] => rfl
  | c :: l => by
    have := bits8_len l
    unfold bits8 at *
    rw [List.flatMap_cons, List.length_append, bitsL_len, this, List.length_cons]
    omega
theorem bits8_lt (l : List UInt8) : ∀ x ∈ bits8 l, x < 2 := by
  intro x hx
  unfold bits8 at hx
  rw [List.mem_flatMap] at hx
  obtain ⟨c, _, hx⟩ := hx
  exact bitsL_lt _ _ _ hx
theorem numB_bits8 : ∀ l : List UInt8, numB (bits8 l) = num l
  | [] => rfl
  | c :: l => by
    have ih := numB_bits8 l
    have hl := bits8_len l
    have e : bits8 (c :: l) = bitsL c.toNat 8 ++ bits8 l := rfl
    have hc := c.toNat_lt
    rw [e, numB_append, numB_bits, hl, ih, num_cons, Nat.mod_eq_of_lt (by omega), Nat.pow_mul]
theorem bits8_snoc (l : List UInt8) {j : Nat} (h : j < l.length) : bits8 (l.take (j + 1)) = bits8 (l.take j) ++ bitsL (l.getD j 0).toNat 8 := by
  rw [List.take_succ_eq_append_getElem h]
  unfold bits8
  rw [List.flatMap_append, List.flatMap_singleton]
  simp [List.getD, h]
theorem numB_drop (l : List Nat) (h2 : ∀ x ∈ l, x < 2) (k : Nat) : numB (l.drop k) = numB l % 2 ^ (l.length - k) := by
  have h := numB_lt (l.drop k) fun x hx => h2 x (List.mem_of_mem_drop hx)
  have e := numB_append (l.take k) (l.drop k)
  rw [List.take_append_drop, List.length_drop] at e
  rw [List.length_drop] at h
  rw [e, Nat.mul_comm, Nat.mul_add_mod, Nat.mod_eq_of_lt h]
/-- what the bits behind the head say -/
theorem getNum_bits (l : List UInt8) (k : Nat) (h1 : 1 ≤ k) (h9 : k ≤ 9) (hl : k ≤ l.length) : numB ((bits8 (l.take k)).drop (if k = 9 then 8 else k)) % 18446744073709551616 = getNum l k := by
  rw [numB_drop _ (bits8_lt _), numB_bits8, bits8_len, List.length_take, Nat.min_eq_left hl]
  unfold getNum
  by_cases h : k = 9
  · subst h
    rw [if_pos rfl, if_neg (by omega), show 8 * 9 - 8 = 64 by omega]
    omega
  · rw [if_neg h, if_pos (by omega), show 8 * k - k = 7 * k by omega]
    have hp : 2 ^ (7 * k) ∣ 18446744073709551616 := by
      have : (18446744073709551616 : Nat) = 2 ^ 64 := rfl
      rw [this]
      exact Nat.pow_dvd_pow 2 (by omega)
    rw [Nat.mod_mod_of_dvd _ hp]
    have hlt : num (l.take k) % 2 ^ (7 * k) < 18446744073709551616 := Nat.lt_of_lt_of_le (Nat.mod_lt _ (Nat.two_pow_pos _)) (Nat.le_of_dvd (by omega) hp)
    exact Nat.mod_eq_of_lt hlt
theorem form_is (l : List UInt8) (k : Nat) (h0 : 0 < l.length) (hk : k = lead (l.getD 0 0)) (hl : k ≤ l.length) : (pform (getNum l k) == l.take k) = decide (psize (getNum l k) = k) := by
  rw [Bool.eq_iff_iff, beq_iff_eq, decide_eq_true_eq]
  constructor
  · intro h
    have := congrArg List.length h
    rw [pform_len, List.length_take] at this
    omega
  · intro h
    have hg : getP l = (getNum l k, k, 0) := by
      unfold getP
      rw [if_neg (by omega), ← hk, if_neg (by omega), if_pos h]
    rcases getP_any l with ⟨_, _, _, e⟩ | ⟨e, _⟩
    · rw [hg] at e; exact e
    · rw [hg] at e; rcases e with e | e <;> cases e
theorem getNum_lt (l : List UInt8) (k : Nat) : getNum l k < 18446744073709551616 := by
  have hm := Nat.mod_lt (num (l.take k)) (show 18446744073709551616 > 0 by omega)
  unfold getNum
  split
  · exact Nat.lt_of_le_of_lt (Nat.mod_le _ _) hm
  · exact hm
theorem Rd.idrop {w : World} {B n b off : Nat} {l : List Nat} (h : Rd w B 1 (some ⟨b, off, none⟩) n (icells l)) {k : Nat} (hk : k ≤ n) : Rd w B 1 (some ⟨b, off + k, none⟩) (n - k) (icells (l.drop k)) := by
  have h1 := h.drop (k := k) hk
  rw [Nat.mul_one] at h1
  unfold icells at *
  rw [List.map_drop]
  exact h1
theorem Rd.btake' {w : World} {B n : Nat} {A : Option Addr} {l : List UInt8} (h : Rd w B 1 A n (bcells l)) {k : Nat} (hk : k ≤ n) : Rd w B 1 A k (bcells (l.take k)) := by
  have := h.take hk
  rw [Nat.mul_one] at this
  unfold bcells at *
  rw [List.map_take]
  exact this

set_option maxRecDepth 100000 in
set_option maxHeartbeats 4000000 in
theorem rget_any (l : List UInt8) (A : Option Addr) (n c : Nat) (w : World) (hnc : n ≤ c) (h : Rd w w.heap.size 1 A n (bcells l)) :
    Calls Try.prog 38 #[.slice A n c] w fun e w' => e = .returned (.tuple #[.int .u64 (getP l).1, .int .i64 (getP l).2.1, .int .i64 (getP l).2.2]) ∧ Below w.heap.size w w' := by
  have hln := h.1
  have hmx := h.2.1
  unfold maxLen at hmx
  rw [bcells_len, Nat.mul_one] at hln
  rcases Nat.eq_zero_or_pos n with h0 | h0
  · subst h0
    go_enter Try.func38, Try.ntmps38
    go_wp2
    go_ret3
    unfold getP
    rw [if_pos hln]
    exact ⟨rfl, Below.refl _ _⟩
  · obtain ⟨b, off, rfl, hblk, hcell⟩ := h.2.2 h0
    have hg : ∀ j, j < n → w.cell? ⟨b, off + j, none⟩ = some (.int .u8 ((l.getD j 0).toNat : Int)) := fun j hj => by
      rw [hcell j _ (bcells_get (by omega))]; simp [List.getD, show j < l.length by omega]
    have e0 : ((n : Int) == 0) = false := by simp; omega
    have hg0 := hg 0 h0
    rw [Nat.add_zero] at hg0
    obtain ⟨b0, hb0⟩ : ∃ b0, b0 = l.getD 0 0 := ⟨_, rfl⟩
    rw [← hb0] at hg0
    have hlb := fun k h1 h8 => lead_bits b0 k h1 h8
    obtain ⟨K, hK⟩ : ∃ K, K = lead b0 := ⟨_, rfl⟩
    rw [← hK] at hlb
    have hK9 : 1 ≤ K ∧ K ≤ 9 := by rcases lead_range b0 with ⟨h, _⟩ | ⟨h, h', _⟩ <;> omega
    obtain ⟨hK1, hK9⟩ := hK9
    have hb256 := b0.toNat_lt
    have HB := Lib.hid (rbits_any b0.toNat (by omega) 8 (by omega) w)
    have HG := Lib.hid (show getP l = if n < K then (0, 0, 4) else if psize (getNum l K) = K then (getNum l K, K, 0) else (0, 0, 5) by
      unfold getP
      rw [if_neg (by omega), ← hb0, ← hK, hln])
    have HFI := Lib.hid (fun (hl : K ≤ n) => form_is l K (by omega) (by rw [← hb0]; exact hK) (by rw [hln]; exact hl))
    have HNB := Lib.hid (fun (hl : K ≤ n) => getNum_bits l K hK1 hK9 (by rw [hln]; exact hl))
    have HBL := Lib.hid (fun k (hk : 1 ≤ k ∧ k ≤ 8) => (show (icells (bitsL b0.toNat 8))[k - 1]? = some (.int .i64 ((b0.toNat / 2 ^ (8 - k) % 2 : Nat) : Int)) by
      unfold icells
      rw [List.getElem?_map, bitsL_get (by omega), show 8 - 1 - (k - 1) = 8 - k by omega]
      rfl))
    have HLB := Lib.hid hlb
    have H := Lib.hid h
    have HLN := Lib.hid hln
    clear hlb hb0 hK hcell h hln
    generalize hbb : b0.toNat = y0 at *
    clear hbb
    go_enter Try.func38, Try.ntmps38
    go_wp2_with fail
    refine HB.out.mono ?_
    rintro e w1 ⟨v1, rfl, o1, b1⟩
    obtain ⟨g1, c1, rfl, _⟩ := own_form o1 |>.resolve_left (by rintro ⟨_, h, _⟩; omega)
    have hc1 : ∀ k, 1 ≤ k ∧ k ≤ 8 → w1.cell? ⟨g1, k - 1, none⟩ = some (.int .i64 ((y0 / 2 ^ (8 - k) % 2 : Nat) : Int)) := fun k hk => by
      rw [o1.cellAt (k - 1) (by omega)]; exact HBL.out k hk
    have HC1 := Lib.hid hc1
    clear HB hc1 o1 hg0 HBL
    go_wp2
    go_loopw [7] (fun i wr => ∃ k : Nat, 1 ≤ k ∧ k ≤ K ∧ i = .int .i64 (k : Int) ∧ wr = w1) (fun i _ => 9 - (intOf i).toNat)
    case atStart => exact ⟨1, by omega, hK1, rfl, rfl⟩
    case round =>
      obtain ⟨k, hk1, hkK, rfl, rfl⟩ := hrel
      by_cases hlt : k < K
      · have hc := HC1.out k (by omega)
        rw [(HLB.out k hk1 (by omega)).1 hlt] at hc
        have e1 : (k : Int) - 1 = ((k - 1 : Nat) : Int) := by omega
        have i1 : k - 1 < 8 := by omega
        have i2 : (k : Int) ≤ 8 := by omega
        go_wp2
        go_roundw
        case rel => exact ⟨k + 1, by omega, by omega, by go_num, trivial⟩
        case measure => simp [intOf]; omega
      · obtain rfl : k = K := by omega
        have hbw : Below w.heap.size w wr := b1
        have HS8 := Lib.hid (fun j (hj : j < l.length) => bits8_snoc l hj)
        have hlast : k = 9 ∨ (k ≤ 8 ∧ wr.cell? ⟨g1, k - 1, none⟩ = some (.int .i64 0) ∧ (k : Int) - 1 = ((k - 1 : Nat) : Int)) := by
          by_cases h9 : k = 9
          · exact .inl h9
          · right
            have hc := HC1.out k (by omega)
            rw [(HLB.out k hk1 (by omega)).2 rfl] at hc
            exact ⟨by omega, hc, by omega⟩
        clear HC1 HLB
        have hK9' : (k : Int) ≤ 9 := by omega
        have HBY := fun j (hj : j < n) => hg j hj
        by_cases hnk : n < k
        · have HG' := Lib.hid (show getP l = (0, 0, 4) by rw [HG.out, if_pos hnk])
          clear HG HFI HNB HBY hg
          rcases hlast with rfl | ⟨h8, hc, e1⟩
          all_goals
            go_wp2
            go_ret3
            exact ⟨by rw [HG'.out]; rfl, b1⟩
        · have HG' := Lib.hid (show getP l = if psize (getNum l k) = k then (getNum l k, k, 0) else (0, 0, 5) by rw [HG.out, if_neg hnk])
          have HFI' := Lib.hid (HFI.out (by omega))
          have HNB' := Lib.hid (HNB.out (by omega))
          clear HG HFI HNB hg
          have hown0 := World.ownsRow_nil wr w.heap.size 3 1
          rcases hlast with rfl | ⟨h8, hc, e1⟩
          · go_wp2
            go_loopw [8, 9] (fun v i wr => ∃ j : Nat, j ≤ 9 ∧ i = .int .i64 (j : Int) ∧ wr.ownsRow w.heap.size 3 1 v (8 * j) (icells (bits8 (l.take j))) ∧ Below w.heap.size w wr) (fun _ i _ => 9 - (intOf i).toNat)
            case atStart => exact ⟨0, Nat.zero_le _, rfl, hown0, hbw⟩
            case round =>
              obtain ⟨j, hj, rfl, hrow, hb⟩ := hrel
              have hs := hb.size
              by_cases hjk : j < 9
              · have hc := (hb.cell (p := ⟨b, off + j, none⟩) hblk).trans (HBY j (by omega))
                have hjl : j < l.length := by have := HLN.out; omega
                have HSN := Lib.hid (HS8.out j hjl)
                have hu := (l.getD j 0).toNat_lt
                have HB := fun w => Lib.hid (rbits_any (l.getD j 0).toNat (by omega) 8 (by omega) w)
                have hjn : j < n := by omega
                clear HBY
                generalize (l.getD j 0).toNat = y at *
                go_wp2_with fail
                refine (HB wr).out.mono ?_
                rintro e w2 ⟨v2, rfl, o2, b2⟩
                obtain ⟨A2, c2, rfl⟩ := own_slice o2
                have r2 := own_rd o2
                have hrow2 := Ow.after hrow b2
                unfold Ow at hrow2
                have hb2 := belowGo hb b2
                clear HB o2
                go_wp2_with (at_builtin; refine wpList_app eltI64 rfl (.tmp 54) (.tmp 55) rfl rfl hrow2 rfl r2 (icells_one _) (by omega) (by unfold maxLen; omega) hb2 hb2.size ?_; intro v3 w3 o3 b3 g3 _)
                go_roundw
                case rel =>
                  refine ⟨j + 1, by omega, by go_num, ?_, b3⟩
                  rw [HSN.out, icells_append]
                  exact o3
                case measure => simp [intOf]; omega
              · obtain rfl : j = 9 := by omega
                obtain ⟨g2, c2, rfl, hc29, _⟩ := own_ptr hrow (by omega)
                have rn := (own_rd hrow).idrop (k := 8) (by omega)
                have HN := fun c => Lib.hid (rnumber_any _ _ _ c wr (fun x hx => bits8_lt _ x (List.mem_of_mem_drop hx)) rn)
                have rb := ((H.out).below hb (Nat.le_refl _)).more hb.size
                have rt := rb.btake' (k := 9) (by omega)
                have hnb := HNB'.out
                simp only [if_true] at hnb
                rw [hnb] at HN
                simp only [Nat.zero_add] at HN
                obtain ⟨x, hx⟩ : ∃ x, x = getNum l 9 := ⟨_, rfl⟩
                have hxl := getNum_lt l 9
                rw [← hx] at HN hxl HG' HFI'
                have i1 : (8 : Int) ≤ ((8 * 9 : Nat) : Int) := by omega
                have i2 : (8 : Int) ≤ (c2 : Int) := by omega
                have i3 : 8 < c2 := by omega
                have HC := fun w => Lib.hid (rshortest_any x hxl w)
                have i4 : ((9 : Nat) : Int) ≤ (n : Int) := by omega
                have i5 : ((9 : Nat) : Int) ≤ (c : Int) := by omega
                have i6 : 9 ≤ c := by omega
                clear hnb hx HBY HS8 HNB' hrow rn H
                go_wp2_with fail
                refine (HN _).out.mono ?_
                rintro e w2 ⟨rfl, rfl⟩
                clear HN
                go_wp2_with fail
                have rt' : Rd wr.drew wr.drew.heap.size 1 (some ⟨b, off, none⟩) 9 (bcells (l.take 9)) := rt
                have hbd : Below w.heap.size w wr.drew := ⟨hb.os, hb.tape, hb.output, hb.size, hb.block⟩
                have cv1 := fun c => run_conv (P := Try.prog) (src := 22) (dst := 9) Try.underlying22 Try.underlying5 Try.underlying9 c rt'
                have hse := HFI'.out
                clear HFI' rt rb hb hs hbw b1
                by_cases hz : psize x = 9
                · have hne : (pform x == l.take 9) = true := by rw [hse, decide_eq_true hz]
                  have HG2 := Lib.hid (show getP l = (x, 9, 0) by rw [HG'.out, if_pos hz])
                  clear HG' hse hz
                  go_region_with (go_at_call 40; refine (HC _).out.mono ?_; rintro e wp ⟨vp, rfl, op, bp⟩; obtain ⟨Ap, cp, rfl⟩ := own_slice op; have cv2 := run_conv (P := Try.prog) (src := 22) (dst := 9) Try.underlying22 Try.underlying5 Try.underlying9 cp (own_rd op); have cv3 := fun c => run_conv (P := Try.prog) (src := 22) (dst := 9) Try.underlying22 Try.underlying5 Try.underlying9 c (rt'.after bp); have hbp := belowGo hbd bp)
                  all_goals
                    go_wp2
                    go_ret3
                    exact ⟨by rw [HG2.out]; rfl, hbp⟩
                · have hne : (pform x == l.take 9) = false := by rw [hse, decide_eq_false hz]
                  have HG2 := Lib.hid (show getP l = (0, 0, 5) by rw [HG'.out, if_neg hz])
                  clear HG' hse hz
                  go_region_with (go_at_call 40; refine (HC _).out.mono ?_; rintro e wp ⟨vp, rfl, op, bp⟩; obtain ⟨Ap, cp, rfl⟩ := own_slice op; have cv2 := run_conv (P := Try.prog) (src := 22) (dst := 9) Try.underlying22 Try.underlying5 Try.underlying9 cp (own_rd op); have cv3 := fun c => run_conv (P := Try.prog) (src := 22) (dst := 9) Try.underlying22 Try.underlying5 Try.underlying9 c (rt'.after bp); have hbp := belowGo hbd bp)
                  all_goals
                    go_wp2
                    go_ret3
                    exact ⟨by rw [HG2.out]; rfl, hbp⟩
          · go_wp2
            go_loopw [8, 9] (fun v i wr => ∃ j : Nat, j ≤ k ∧ i = .int .i64 (j : Int) ∧ wr.ownsRow w.heap.size 3 1 v (8 * j) (icells (bits8 (l.take j))) ∧ Below w.heap.size w wr) (fun _ i _ => k - (intOf i).toNat)
            case atStart => exact ⟨0, Nat.zero_le _, rfl, hown0, hbw⟩
            case round =>
              obtain ⟨j, hj, rfl, hrow, hb⟩ := hrel
              have hs := hb.size
              by_cases hjk : j < k
              · have hc := (hb.cell (p := ⟨b, off + j, none⟩) hblk).trans (HBY j (by omega))
                have hjl : j < l.length := by have := HLN.out; omega
                have HSN := Lib.hid (HS8.out j hjl)
                have hu := (l.getD j 0).toNat_lt
                have HB := fun w => Lib.hid (rbits_any (l.getD j 0).toNat (by omega) 8 (by omega) w)
                have hjn : j < n := by omega
                clear HBY
                generalize (l.getD j 0).toNat = y at *
                go_wp2_with fail
                refine (HB wr).out.mono ?_
                rintro e w2 ⟨v2, rfl, o2, b2⟩
                obtain ⟨A2, c2, rfl⟩ := own_slice o2
                have r2 := own_rd o2
                have hrow2 := Ow.after hrow b2
                unfold Ow at hrow2
                have hb2 := belowGo hb b2
                clear HB o2
                go_wp2_with (at_builtin; refine wpList_app eltI64 rfl (.tmp 54) (.tmp 55) rfl rfl hrow2 rfl r2 (icells_one _) (by omega) (by unfold maxLen; omega) hb2 hb2.size ?_; intro v3 w3 o3 b3 g3 _)
                go_roundw
                case rel =>
                  refine ⟨j + 1, by omega, by go_num, ?_, b3⟩
                  rw [HSN.out, icells_append]
                  exact o3
                case measure => simp [intOf]; omega
              · obtain rfl : k = j := by omega
                obtain ⟨g2, c2, rfl, hc29, _⟩ := own_ptr hrow (by omega)
                have rn := (own_rd hrow).idrop (k := k) (by omega)
                have HN := fun c => Lib.hid (rnumber_any _ _ _ c wr (fun x hx => bits8_lt _ x (List.mem_of_mem_drop hx)) rn)
                have rb := ((H.out).below hb (Nat.le_refl _)).more hb.size
                have rt := rb.btake' (k := k) (by omega)
                have hnb := HNB'.out
                rw [if_neg (by omega)] at hnb
                rw [hnb] at HN
                simp only [Nat.zero_add] at HN
                obtain ⟨x, hx⟩ : ∃ x, x = getNum l k := ⟨_, rfl⟩
                have hxl := getNum_lt l k
                rw [← hx] at HN hxl HG' HFI'
                have i1 : (k : Int) ≤ ((8 * k : Nat) : Int) := by omega
                have i2 : (k : Int) ≤ (c2 : Int) := by omega
                have i3 : k < c2 := by omega
                have HC := fun w => Lib.hid (rshortest_any x hxl w)
                have i4 : ((k : Nat) : Int) ≤ (n : Int) := by omega
                have i5 : ((k : Nat) : Int) ≤ (c : Int) := by omega
                have i6 : k ≤ c := by omega
                clear hnb hx HBY HS8 HNB' hrow rn H
                go_wp2_with fail
                refine (HN _).out.mono ?_
                rintro e w2 ⟨rfl, rfl⟩
                clear HN
                go_wp2_with fail
                have rt' : Rd wr.drew wr.drew.heap.size 1 (some ⟨b, off, none⟩) k (bcells (l.take k)) := rt
                have hbd : Below w.heap.size w wr.drew := ⟨hb.os, hb.tape, hb.output, hb.size, hb.block⟩
                have cv1 := fun c => run_conv (P := Try.prog) (src := 22) (dst := 9) Try.underlying22 Try.underlying5 Try.underlying9 c rt'
                have hse := HFI'.out
                clear HFI' rt rb hb hs hbw b1
                by_cases hz : psize x = k
                · have hne : (pform x == l.take k) = true := by rw [hse, decide_eq_true hz]
                  have HG2 := Lib.hid (show getP l = (x, k, 0) by rw [HG'.out, if_pos hz])
                  clear HG' hse hz
                  go_region_with (go_at_call 40; refine (HC _).out.mono ?_; rintro e wp ⟨vp, rfl, op, bp⟩; obtain ⟨Ap, cp, rfl⟩ := own_slice op; have cv2 := run_conv (P := Try.prog) (src := 22) (dst := 9) Try.underlying22 Try.underlying5 Try.underlying9 cp (own_rd op); have cv3 := fun c => run_conv (P := Try.prog) (src := 22) (dst := 9) Try.underlying22 Try.underlying5 Try.underlying9 c (rt'.after bp); have hbp := belowGo hbd bp)
                  all_goals
                    go_wp2
                    go_ret3
                    exact ⟨by rw [HG2.out]; rfl, hbp⟩
                · have hne : (pform x == l.take k) = false := by rw [hse, decide_eq_false hz]
                  have HG2 := Lib.hid (show getP l = (0, 0, 5) by rw [HG'.out, if_neg hz])
                  clear HG' hse hz
                  go_region_with (go_at_call 40; refine (HC _).out.mono ?_; rintro e wp ⟨vp, rfl, op, bp⟩; obtain ⟨Ap, cp, rfl⟩ := own_slice op; have cv2 := run_conv (P := Try.prog) (src := 22) (dst := 9) Try.underlying22 Try.underlying5 Try.underlying9 cp (own_rd op); have cv3 := fun c => run_conv (P := Try.prog) (src := 22) (dst := 9) Try.underlying22 Try.underlying5 Try.underlying9 c (rt'.after bp); have hbp := belowGo hbd bp)
                  all_goals
                    go_wp2
                    go_ret3
                    exact ⟨by rw [HG2.out]; rfl, hbp⟩
end Go.Proofs.Ytedjolkkidciiaa
