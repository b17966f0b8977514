/- Several texts in one: Ref1, Ref2, EdR1, EdR3, EdR4. No condition of its own. -/
import Derived.Test.YtmahadcohnhdkaaDoorGP
import Derived.Test.YtmahadcohnhdkaaDoorGB
import Derived.Test.YtmahadcohnhdkaaDoorEdLaw
import Derived.Test.YtmahadcohnhdkaaDoorEd8a
import Derived.Test.YtmahadcohnhdkaaDoorEd10a
namespace Go.Proofs.YtmahadcohnhdkaaDoor
open Go.RowKit

def icells (l : List Nat) : List Value := l.map fun (x : Nat) => Value.int .i64 (x : Int)
theorem icells_len (l : List Nat) : (icells l).length = l.length := by simp [icells]
theorem icells_append (a b : List Nat) : icells (a ++ b) = icells a ++ icells b := by simp [icells]
theorem icells_get {l : List Nat} {k : Nat} (hk : k < l.length) : (icells l)[k]? = some (.int .i64 (l[k] : Int)) := by simp [icells, hk]
theorem icells_one (l : List Nat) : ∀ u ∈ icells l, u.oneCell' = true := by
  intro u hu
  unfold icells at hu
  rw [List.mem_map] at hu
  obtain ⟨x, _, rfl⟩ := hu
  rfl
theorem Tryd.infoI64 : (Tryd.prog.info? 3).map (fun i => (i.zero, i.size, i.bytes)) = some (some (.int .i64 0), 1, 8) := by kernel_rfl
theorem eltI64 : Elt Tryd.prog 47 3 (.int .i64 0) 1 8 := ⟨Tryd.underlying47, Tryd.infoI64, rfl, by omega⟩

theorem rown_any (a : List UInt8) (A : Option Addr) (n c : Nat) (w : World) (h : Rd w w.heap.size 1 A n (bcells a)) (hn : n ≤ 140737488355328) :
    Calls Tryd.prog 54 #[.slice A n c] w (RetOwn w 5 1 n (bcells a)) := by
  have hown := World.ownsRow_nil w w.heap.size 5 1
  go_enter Tryd.func54, Tryd.ntmps54
  go_wp2_with (at_builtin; refine wpList_app eltU8 rfl (.tmp 4) (.tmp 5) rfl rfl hown rfl h (bcells_one _) (by omega) (by unfold maxLen; omega) (Below.refl _ _) (Nat.le_refl _) ?_; intro v4 w4 o4 b4 g4 _)
  go_ret
  rw [Nat.zero_add, List.nil_append] at o4
  exact ⟨_, rfl, o4, b4⟩

/-- a number's bits, so many, the highest first -/
def bitsL (n m : Nat) : List Nat := (List.range m).map fun i => n / 2 ^ (m - 1 - i) % 2
theorem bitsL_len (n m : Nat) : (bitsL n m).length = m := by simp [bitsL]
theorem bitsL_get {n m i : Nat} (h : i < m) : (bitsL n m)[i]? = some (n / 2 ^ (m - 1 - i) % 2) := by simp [bitsL, h]
/-- what has been set after r rounds: the lowest r of m -/
def bitsTo (n m r : Nat) : List Nat := List.replicate (m - r) 0 ++ (bitsL n m).drop (m - r)
theorem bitsTo_len (n m r : Nat) (h : r ≤ m) : (bitsTo n m r).length = m := by unfold bitsTo; rw [List.length_append, List.length_replicate, List.length_drop, bitsL_len]; omega
theorem bitsTo_zero (n m : Nat) : bitsTo n m 0 = List.replicate m 0 := by unfold bitsTo; rw [Nat.sub_zero, List.drop_of_length_le (by rw [bitsL_len]; exact Nat.le_refl _), List.append_nil]
theorem bitsTo_all (n m : Nat) : bitsTo n m m = bitsL n m := by unfold bitsTo; simp
theorem bitsTo_succ (n m r : Nat) (h : r < m) : (icells (bitsTo n m r)).set (m - 1 - r) (.int .i64 ((n / 2 ^ r % 2 : Nat) : Int)) = icells (bitsTo n m (r + 1)) := by
  apply List.ext_getElem?
  intro i
  rw [List.getElem?_set]
  unfold icells bitsTo
  simp only [List.getElem?_map, List.length_map]
  by_cases hi : m - 1 - r = i
  · subst hi
    rw [if_pos rfl, if_pos (by simp [bitsL_len]; omega), List.getElem?_append_right (by simp; omega), List.getElem?_drop]
    simp only [List.length_replicate]
    rw [bitsL_get (by omega)]
    rw [show m - 1 - (m - (r + 1) + (m - 1 - r - (m - (r + 1)))) = r by omega]
    rfl
  · rw [if_neg hi]
    by_cases h1 : i < m - (r + 1)
    · rw [List.getElem?_append_left (by simp; omega), List.getElem?_append_left (by simp; omega)]
      simp [h1, show i < m - r by omega]
    · rw [List.getElem?_append_right (by simp; omega), List.getElem?_append_right (by simp; omega), List.getElem?_drop, List.getElem?_drop]
      simp only [List.length_replicate]
      congr 2
      omega

def bitsFit (n m : Nat) : Bool := decide (n / 2 ^ m = 0)
def RetTwo (w : World) (E n : Nat) (xs : List Value) (b : Value) (e : Ending) (w' : World) : Prop := ∃ v, e = .returned (.tuple #[v, b]) ∧ w'.ownsRow w.heap.size E 1 v n xs ∧ Below w.heap.size w w'

set_option maxHeartbeats 1000000 in
theorem rbits_any (n : Nat) (hn : n < 18446744073709551616) (m : Nat) (hm : m ≤ 1000) (w : World) :
    Calls Tryd.prog 65 #[.int .u64 (n : Int), .int .i64 (m : Int)] w (RetTwo w 3 m (icells (bitsL n m)) (.bool (bitsFit n m))) := by
  obtain ⟨i0, hi, hz0, hz1, hz2⟩ := info_parts Tryd.infoI64
  have hmk := fun W => run_make_rowN (P := Tryd.prog) 47 3 i0 (.int .i64 0) Tryd.underlying47 hi hz0 .i64 .i64 m m (Nat.le_refl _) (by rw [hz2]; omega) (by omega) W
  rw [hz1] at hmk
  have hB := Lib.hid (bitsTo_succ n m)
  have hL := Lib.hid (fun r => bitsTo_len n m r)
  have hA := Lib.hid (bitsTo_all n m)
  have hrow0 := own_made w w.heap.size 3 (.int .i64 0) m (Nat.le_refl _) (by unfold maxLen; omega)
  have e0 : List.replicate m (Value.int .i64 0) = icells (bitsTo n m 0) := by rw [bitsTo_zero]; simp [icells]
  rw [e0] at hrow0
  have hb0 : Below w.heap.size w (w.alloc (.cells (madeCells #[Value.int .i64 0] m) 3)) := (Below.refl _ _).alloc (Nat.le_refl _) _
  have hz : n / 2 ^ 0 = n := by simp
  have HZ := Lib.hid hz
  clear e0 hz hi hz0 hz1 hz2
  go_enter Tryd.func65, Tryd.ntmps65
  go_wp2
  have hrow0 : (w.alloc (.cells (madeCells #[Value.int .i64 0] m) 3)).ownsRow w.heap.size 3 1 (.slice (some ⟨w.heap.size, 0, none⟩) m m) m (icells (bitsTo n m 0)) := hrow0
  go_loopw [0, 7] (fun x i wr => ∃ r : Nat, r ≤ m ∧ i = .int .i64 ((m : Int) - 1 - (r : Int)) ∧ x = .int .u64 ((n / 2 ^ r : Nat) : Int) ∧ wr.ownsRow w.heap.size 3 1 (.slice (some ⟨w.heap.size, 0, none⟩) m m) m (icells (bitsTo n m r)) ∧ Below w.heap.size w wr) (fun _ i _ => (intOf i + 1).toNat)
  case atStart => exact ⟨0, Nat.zero_le _, by simp, by rw [HZ.out], hrow0, hb0⟩
  case round =>
    obtain ⟨r, hr, rfl, rfl, hrow, hb⟩ := hrel
    clear hrow0 hb0 hmk
    by_cases hlt : r < m
    · have e1 : (m : Int) - 1 - (r : Int) = ((m - 1 - r : Nat) : Int) := by omega
      have hc := hrow.cellAt (m - 1 - r) (by omega)
      have hf := hrow.frozenAt (m - 1 - r)
      have hlen := hL.out r hr
      have hst := hrow.stored (m - 1 - r) (.int .i64 ((n / 2 ^ r % 2 : Nat) : Int))
      rw [hB.out r hlt] at hst
      have hx : n / 2 ^ r < 18446744073709551616 := Nat.lt_of_le_of_lt (Nat.div_le_self _ _) hn
      have hd : n / 2 ^ r / 2 = n / 2 ^ (r + 1) := by rw [Nat.div_div_eq_div_mul, Nat.pow_succ]
      have HD := Lib.hid hd
      obtain ⟨v, hv⟩ : ∃ v, (icells (bitsTo n m r))[m - 1 - r]? = some v := ⟨_, List.getElem?_eq_getElem (by rw [icells_len]; omega)⟩
      rw [hv] at hc
      clear hv
      have hlt' : (m - 1 - r : Nat) < m := by omega
      have hbs := hb.setCell (p := ⟨w.heap.size, m - 1 - r, none⟩) (Nat.le_refl _) (.int .i64 ((n / 2 ^ r % 2 : Nat) : Int))
      clear hd hlen
      generalize n / 2 ^ r = x at *
      rw [e1]
      go_wp2
      go_roundw
      case rel =>
        refine ⟨r + 1, by omega, ?_, ?_, ?_, ?_⟩
        · congr 1 <;> omega
        · rw [← HD.out]; first | rfl | (congr 1 <;> simp)
        · exact hst.1
        · exact hbs
      case measure => simp [intOf] <;> omega
    · obtain rfl : r = m := by omega
      have e1 : (r : Int) - 1 - (r : Int) = -1 := by omega
      rw [e1]
      rw [hA.out] at hrow
      have hq : ∀ x : Nat, x = n / 2 ^ r → ((x : Int) == 0) = bitsFit n r := fun x hx => by unfold bitsFit; rw [hx, Bool.eq_iff_iff, beq_iff_eq, decide_eq_true_eq]; rw [← hx]; omega
      obtain ⟨x, hx⟩ : ∃ x, x = n / 2 ^ r := ⟨_, rfl⟩
      have hq := hq x hx
      rw [← hx]
      clear hx
      go_wp2
      go_ret2
      exact ⟨_, rfl, hrow, hb⟩

/-- what bits say -/
def numB (l : List Nat) : Nat := l.foldl (fun n b => 2 * n + b) 0
theorem numB_snoc (l : List Nat) (b : Nat) : numB (l ++ [b]) = 2 * numB l + b := by simp [numB]
theorem rnumber_any (l : List Nat) (A : Option Addr) (n c : Nat) (w : World) (hl : ∀ x ∈ l, x < 2) (h : Rd w w.heap.size 1 A n (icells l)) :
    Calls Tryd.prog 68 #[.slice A n c] w fun e w' => e = .returned (.int .u64 ((numB l % 18446744073709551616 : Nat) : Int)) ∧ w = w' := by
  have hln : l.length = n := by have := h.1; rw [icells_len] at this; omega
  have hmx := h.2.1
  unfold maxLen at hmx
  have hg : ∀ j, j < n → ∃ b off, A = some ⟨b, off, none⟩ ∧ w.cell? ⟨b, off + j, none⟩ = some (.int .i64 (l.getD j 0 : Int)) := fun j hj => by
    obtain ⟨b, off, e, hbk, hc⟩ := h.2.2 (by omega)
    refine ⟨b, off, e, hc j _ ?_⟩
    rw [icells_get (by omega)]; simp [List.getD, show j < l.length by omega]
  have HL := Lib.hid hln
  have H2 := Lib.hid hl
  clear h hln hl
  go_enter Tryd.func68, Tryd.ntmps68
  go_wp2
  go_loopw [3, 4] (fun x i wr => ∃ k : Nat, k ≤ n ∧ i = .int .i64 k ∧ wr = w ∧ x = .int .u64 ((numB (l.take k) % 18446744073709551616 : Nat) : Int)) (fun _ i _ => n - (intOf i).toNat)
  case atStart => exact ⟨0, Nat.zero_le _, rfl, rfl, rfl⟩
  case round =>
    obtain ⟨k, hk, rfl, rfl, rfl⟩ := hrel
    by_cases hlt : k < n
    · obtain ⟨b, off, rfl, hc⟩ := hg k hlt
      have hkl : k < l.length := by have := HL.out; omega
      have hs : numB (l.take (k + 1)) = 2 * numB (l.take k) + l.getD k 0 := by
        rw [List.take_succ_eq_append_getElem hkl, numB_snoc]; simp [List.getD, hkl]
      have hx2 : l.getD k 0 < 2 := by
        have := H2.out l[k] (List.getElem_mem hkl)
        simpa [List.getD, hkl] using this
      clear hg
      generalize l.getD k 0 = d at *
      have HS := Lib.hid hs
      generalize numB (l.take k) = x at *
      have hstep : ∀ z : Nat, z = x % 18446744073709551616 → (IntKind.u64.wrap (IntKind.u64.wrap (2 * (z : Int)) + (d : Int))) = (((2 * x + d) % 18446744073709551616 : Nat) : Int) := fun z hz => by
        simp only [IntKind.wrap_u64]; omega
      obtain ⟨z, hz⟩ : ∃ z, z = x % 18446744073709551616 := ⟨_, rfl⟩
      have hst := hstep z hz
      rw [← hz]
      have hz1 : z < 18446744073709551616 := by omega
      clear hs hstep hz
      go_wp2
      go_roundw
      case rel => exact ⟨k + 1, by omega, by go_num, trivial, by rw [HS.out]; simp⟩
      case measure => simp [intOf]; omega
    · obtain rfl : k = n := by omega
      have ht : l.take k = l := List.take_of_length_le (by have := HL.out; omega)
      rw [ht]
      clear ht hg
      go_wp2
      go_ret
      exact ⟨rfl, rfl⟩
end Go.Proofs.YtmahadcohnhdkaaDoor

namespace Go.Proofs.YtmahadcohnhdkaaDoor
open Go.RowKit

def bytesJ : Nat → List Nat → List UInt8
  | 0, _ => []
  | j + 1, l => UInt8.ofNat (numB (l.take 8)) :: bytesJ j (l.drop 8)
theorem bytesJ_len : ∀ (j : Nat) (l : List Nat), (bytesJ j l).length = j
  | 0, _ => rfl
  | j + 1, l => by rw [bytesJ, List.length_cons, bytesJ_len j]
theorem bytesJ_get : ∀ (k j : Nat) (l : List Nat), k < j → (bytesJ j l)[k]? = some (UInt8.ofNat (numB ((l.drop (8 * k)).take 8)))
  | k, 0, _, h => by omega
  | 0, j + 1, l, _ => by simp [bytesJ]
  | k + 1, j + 1, l, h => by
    rw [bytesJ, List.getElem?_cons_succ, bytesJ_get k j _ (by omega), List.drop_drop, show 8 + 8 * k = 8 * (k + 1) by omega]
theorem bytesJ_snoc (k j : Nat) (l : List Nat) (h : k < j) : (bytesJ j l).take (k + 1) = (bytesJ j l).take k ++ [UInt8.ofNat (numB ((l.drop (8 * k)).take 8))] := by
  have hk : k < (bytesJ j l).length := by rw [bytesJ_len]; exact h
  have := bytesJ_get k j l h
  rw [List.getElem?_eq_getElem hk] at this
  injection this with this
  rw [List.take_succ_eq_append_getElem hk, this]
theorem numB_acc (n : Nat) : ∀ l : List Nat, l.foldl (fun n b => 2 * n + b) n = n * 2 ^ l.length + numB l
  | [] => by simp [numB]
  | b :: l => by
    have h1 := numB_acc (2 * n + b) l
    have h2 := numB_acc b l
    unfold numB at *
    simp only [List.foldl_cons, Nat.mul_zero, Nat.zero_add, List.length_cons]
    rw [h1, h2, Nat.pow_succ, Nat.add_mul]
    have : 2 * n * 2 ^ l.length = n * (2 ^ l.length * 2) := by rw [Nat.mul_comm 2 n, Nat.mul_assoc, Nat.mul_comm 2]
    omega
theorem numB_append (a b : List Nat) : numB (a ++ b) = numB a * 2 ^ b.length + numB b := by
  have := numB_acc (numB a) b
  unfold numB at *
  rw [List.foldl_append]
  exact this
theorem numB_lt : ∀ l : List Nat, (∀ x ∈ l, x < 2) → numB l < 2 ^ l.length
  | [], _ => by simp [numB]
  | b :: l, h => by
    have h1 := numB_lt l fun x hx => h x (by simp [hx])
    have hb := h b (by simp)
    have e : numB (b :: l) = b * 2 ^ l.length + numB l := by have := numB_append [b] l; simpa [numB] using this
    rw [e, List.length_cons, Nat.pow_succ]
    have : b * 2 ^ l.length ≤ 1 * 2 ^ l.length := Nat.mul_le_mul_right _ (by omega)
    omega
theorem num_bytesJ : ∀ (j : Nat) (l : List Nat), l.length = 8 * j → (∀ x ∈ l, x < 2) → num (bytesJ j l) = numB l
  | 0, l, h, _ => by
    have : l = [] := List.eq_nil_of_length_eq_zero (by omega)
    subst this
    rfl
  | j + 1, l, h, h2 => by
    have h8 := numB_lt (l.take 8) fun x hx => h2 x (List.mem_of_mem_take hx)
    rw [List.length_take, Nat.min_eq_left (by omega)] at h8
    have ih := num_bytesJ j (l.drop 8) (by rw [List.length_drop]; omega) fun x hx => h2 x (List.mem_of_mem_drop hx)
    rw [bytesJ, num_cons, bytesJ_len, ih]
    have e := numB_append (l.take 8) (l.drop 8)
    rw [List.take_append_drop, List.length_drop, h] at e
    rw [e, show 8 * (j + 1) - 8 = 8 * j by omega, Nat.pow_mul]
    simp only [UInt8.toNat_ofNat']
    rw [Nat.mod_eq_of_lt (by omega)]
theorem bitsL_lt (n m : Nat) : ∀ x ∈ bitsL n m, x < 2 := by
  intro x hx
  unfold bitsL at hx
  rw [List.mem_map] at hx
  obtain ⟨i, _, rfl⟩ := hx
  exact Nat.mod_lt _ (by omega)
theorem bitsL_cons (n m : Nat) : bitsL n (m + 1) = n / 2 ^ m % 2 :: bitsL n m := by
  unfold bitsL
  rw [List.range_succ_eq_map, List.map_cons, List.map_map]
  congr 1
  apply List.map_congr_left
  intro i _
  simp only [Function.comp]
  congr 3
  omega
theorem numB_bits (n : Nat) : ∀ m, numB (bitsL n m) = n % 2 ^ m
  | 0 => by simp [bitsL, numB, Nat.mod_one]
  | m + 1 => by
    have e : numB (n / 2 ^ m % 2 :: bitsL n m) = n / 2 ^ m % 2 * 2 ^ (bitsL n m).length + numB (bitsL n m) := by
      have := numB_append [n / 2 ^ m % 2] (bitsL n m); simpa [numB] using this
    rw [bitsL_cons, e, bitsL_len, numB_bits n m, Nat.pow_succ, Nat.mod_mul]
    rw [Nat.mul_comm, Nat.add_comm]
def formIn (n k : Nat) : List Nat := List.replicate (k - 1) 1 ++ [0] ++ bitsL n (7 * k)
theorem formIn_len {n k : Nat} (h : 1 ≤ k) : (formIn n k).length = 8 * k := by unfold formIn; simp [bitsL_len]; omega
theorem formIn_lt (n k : Nat) : ∀ x ∈ formIn n k, x < 2 := by
  intro x hx
  unfold formIn at hx
  simp only [List.mem_append, List.mem_replicate, List.mem_singleton] at hx
  rcases hx with (⟨_, rfl⟩ | rfl) | hx
  · omega
  · omega
  · exact bitsL_lt _ _ _ hx
def formL (n k : Nat) : List UInt8 := if k = 9 then [255] ++ bytesJ 8 (bitsL n 64) else bytesJ k (formIn n k)
theorem formL_len {n k : Nat} : (formL n k).length = k := by unfold formL; split <;> simp [bytesJ_len]; omega
theorem numB_ones : ∀ k, numB (List.replicate k 1) + 1 = 2 ^ k
  | 0 => rfl
  | k + 1 => by
    have := numB_ones k
    rw [List.replicate_succ', numB_snoc, Nat.pow_succ]
    omega
theorem formL_pform (n : Nat) (hn : n < 18446744073709551616) : formL n (psize n) = pform n := by
  apply num_inj _ _ (by rw [formL_len, pform_len])
  rw [num_pform n hn]
  have h1 := psize_pos n
  by_cases h9 : psize n = 9
  · unfold formL
    rw [if_pos h9, if_pos h9, List.singleton_append, num_cons, bytesJ_len, num_bytesJ 8 _ (by rw [bitsL_len]) (bitsL_lt _ _), numB_bits]
    have : (255 : UInt8).toNat = 255 := rfl
    rw [this]
    omega
  · unfold formL
    rw [if_neg h9, if_neg h9, num_bytesJ _ _ (formIn_len h1) (formIn_lt _ _)]
    unfold formIn pword
    rw [if_neg h9, numB_append, numB_append, numB_bits, bitsL_len]
    have ho := numB_ones (psize n - 1)
    have h0 : numB [0] = 0 := rfl
    rw [h0]
    generalize numB (List.replicate (psize n - 1) 1) = y at *
    rcases psize_cases n with ⟨e, h⟩ | ⟨e, h⟩ | ⟨e, h⟩ | ⟨e, h⟩ | ⟨e, h⟩ | ⟨e, h⟩ | ⟨e, h⟩ | ⟨e, h⟩ | ⟨e, h⟩ <;> rw [e] at ho ⊢ <;> simp only [Nat.reduceSub, Nat.reducePow, Nat.reduceMul, Nat.reduceAdd, List.length_cons, List.length_nil] at ho ⊢ <;> omega
theorem fits_psize (n k : Nat) (h1 : 1 ≤ k) (h8 : k ≤ 8) : n / 2 ^ (7 * k) = 0 ↔ psize n ≤ k := by
  have hc : k = 1 ∨ k = 2 ∨ k = 3 ∨ k = 4 ∨ k = 5 ∨ k = 6 ∨ k = 7 ∨ k = 8 := by omega
  rcases psize_cases n with ⟨e, h⟩ | ⟨e, h⟩ | ⟨e, h⟩ | ⟨e, h⟩ | ⟨e, h⟩ | ⟨e, h⟩ | ⟨e, h⟩ | ⟨e, h⟩ | ⟨e, h⟩ <;> rw [e] <;> rcases hc with rfl | rfl | rfl | rfl | rfl | rfl | rfl | rfl <;> simp only [Nat.reducePow, Nat.reduceMul] <;> omega

theorem Rd.irange {w : World} {B n b off : Nat} {l : List Nat} (h : Rd w B 1 (some ⟨b, off, none⟩) n (icells l)) {k m : Nat} (hk : k + m ≤ n) : Rd w B 1 (some ⟨b, off + k, none⟩) m (icells ((l.drop k).take m)) := by
  have h1 := (h.drop (k := k) (by omega)).take (k := m) (by omega)
  rw [Nat.mul_one, Nat.mul_one] at h1
  unfold icells at *
  rw [List.map_take, List.map_drop]
  exact h1

set_option maxHeartbeats 1000000 in
theorem rbytes_any (l : List Nat) (A : Option Addr) (n c : Nat) (w : World) (hl : ∀ x ∈ l, x < 2) (hnc : n ≤ c) (hn : n ≤ 1000) (h : Rd w w.heap.size 1 A n (icells l)) :
    Calls Tryd.prog 66 #[.slice A n c] w (RetOwn w 5 1 (n / 8) (bcells (bytesJ (n / 8) l))) := by
  have hown := World.ownsRow_nil w w.heap.size 5 1
  have HS := Lib.hid (fun k => bytesJ_snoc k (n / 8) l)
  have HT := Lib.hid (show (bytesJ (n / 8) l).take (n / 8) = bytesJ (n / 8) l from List.take_of_length_le (by rw [bytesJ_len]; exact Nat.le_refl _))
  have H2 := Lib.hid hl
  have HL := Lib.hid (show l.length = n by have := h.1; rw [icells_len] at this; omega)
  clear hl
  go_enter Tryd.func66, Tryd.ntmps66
  go_wp2
  go_loopw [3, 4] (fun v i wr => ∃ k : Nat, k ≤ n / 8 ∧ i = .int .i64 ((8 * k : Nat) : Int) ∧ wr.ownsRow w.heap.size 5 1 v k (bcells ((bytesJ (n / 8) l).take k)) ∧ Below w.heap.size w wr) (fun _ i _ => (n + 8) - (intOf i).toNat)
  case atStart => exact ⟨0, Nat.zero_le _, rfl, hown, Below.refl _ _⟩
  case round =>
    obtain ⟨k, hk, rfl, hrow, hb⟩ := hrel
    have hs := hb.size
    by_cases hlt : 8 * k + 8 ≤ n
    · have hkn : k < n / 8 := by omega
      have r1 := (h.below hb (Nat.le_refl _)).more hb.size
      obtain ⟨b, off, rfl, _, _⟩ := h.2.2 (by omega)
      have r8 := r1.irange (k := 8 * k) (m := 8) (by omega)
      have h8 := numB_lt ((l.drop (8 * k)).take 8) fun x hx => H2.out x (List.mem_of_mem_drop (List.mem_of_mem_take hx))
      have hl8 : ((l.drop (8 * k)).take 8).length = 8 := by rw [List.length_take, List.length_drop, HL.out]; omega
      rw [hl8] at h8
      have HN := fun c => Lib.hid (rnumber_any ((l.drop (8 * k)).take 8) _ 8 c wr (fun x hx => H2.out x (List.mem_of_mem_drop (List.mem_of_mem_take hx))) r8)
      have hsn := HS.out k hkn
      generalize numB ((l.drop (8 * k)).take 8) = x at *
      have hx : x % 18446744073709551616 = x := by omega
      rw [hx] at HN
      have hub : ((UInt8.ofNat x).toNat : Int) = (x : Int) := by simp only [UInt8.toNat_ofNat']; omega
      have HUB := Lib.hid hub
      have HSN := Lib.hid hsn
      have i1 : ((8 * k : Nat) : Int) + 8 ≤ (n : Int) := by omega
      have i2 : ((8 * k : Nat) : Int) + 8 ≤ (c : Int) := by omega
      have i3 : 8 * k < c := by omega
      have i4 : (((8 * k : Nat) : Int) + 8).toNat = 8 * k + 8 := by omega
      have i5 : 8 * k + 8 - 8 * k = 8 := by omega
      have i6 : (0 : Int) ≤ ((8 * k : Nat) : Int) := by omega
      have hx256 : x < 256 := by omega
      have hx0 : (x : Int) % 256 = x := by omega
      clear h8 hx hub hsn r1 r8 h hl8
      generalize hK : 8 * k = K at *
      have HK := Lib.hid hK
      clear hK
      go_wp2_with fail
      refine (HN _).out.mono ?_
      rintro e w1 ⟨rfl, rfl⟩
      clear HN
      go_wp2_with (at_builtin; refine wpList_push eltU8 rfl (.tmp 12) (.tmp 20) rfl (W := wr) rfl hrow rfl rfl (by simp [Value.oneCell']) (by omega) (by unfold maxLen; omega) hb hs ?_; intro v' w' hown' hb' _ _)
      go_roundw
      case rel =>
        refine ⟨k + 1, by omega, ?_, ?_, hb'⟩
        · rw [show 8 * (k + 1) = K + 8 by have := HK.out; omega]; go_num
        · rw [HSN.out, bcells_append]
          simp only [bcells, List.map_cons, List.map_nil, HUB.out] at hown' ⊢
          exact hown'
      case measure => simp [intOf]; omega
    · obtain rfl : k = n / 8 := by omega
      have i1 : ¬ ((8 * (n / 8) : Nat) : Int) + 8 ≤ (n : Int) := by omega
      have i6 : (0 : Int) ≤ ((8 * (n / 8) : Nat) : Int) := by omega
      rw [HT.out] at hrow
      have i7 : ((8 * (n / 8) : Nat) : Int) ≤ 1000 := by omega
      clear hlt
      generalize 8 * (n / 8) = K at *
      go_wp2
      go_ret
      exact ⟨_, rfl, hrow, hb⟩

theorem own_cap' {w : World} {base : Nat} {e : TypeId} {size : Nat} {v : Value} {n : Nat} {xs : List Value} (h : w.ownsRow base e size v n xs) : ∃ A c, v = .slice A n c ∧ n ≤ c := by
  rcases h.2 with ⟨rfl, rfl⟩ | ⟨g, cap, cur, rfl, hb, hh, hnc, hcm, _⟩
  · exact ⟨_, _, rfl, Nat.le_refl _⟩
  · exact ⟨_, _, rfl, hnc⟩

def fitsB (n k : Nat) : Bool := if k = 9 then true else bitsFit n (7 * k)

set_option maxHeartbeats 1000000 in
theorem rform_any (n : Nat) (hn : n < 18446744073709551616) (k : Nat) (h1 : 1 ≤ k) (hk9 : k ≤ 9) (w : World) :
    Calls Tryd.prog 62 #[.int .u64 (n : Int), .int .i64 (k : Int)] w (RetTwo w 5 k (bcells (formL n k)) (.bool (fitsB n k))) := by
  by_cases h9 : k = 9
  · subst h9
    have HB := Lib.hid (rbits_any n hn 64 (by omega) w)
    have ef : formL n 9 = [255] ++ bytesJ 8 (bitsL n 64) := by unfold formL; rw [if_pos rfl]
    have eb : fitsB n 9 = true := by unfold fitsB; rw [if_pos rfl]
    rw [ef, eb]
    have H2 := bitsL_lt n 64
    generalize hbl : bitsL n 64 = bl at *
    have e9 : (((9 : Nat) : Int) == 9) = true := rfl
    have H2' := Lib.hid H2
    clear ef eb hbl H2
    go_enter Tryd.func62, Tryd.ntmps62
    go_wp2_with fail
    refine HB.out.mono ?_
    rintro e w1 ⟨v1, rfl, o1, b1⟩
    obtain ⟨A1, c1, rfl, z1⟩ := own_cap' o1
    have r1 := (own_rd o1).allocs (.cells #[.int .u8 255] 5)
    have ol := own_lit1 w1 5 #[.int .u8 255] 1 b1.size rfl (by unfold maxLen; omega)
    have hba := belowAlloc b1 (.cells #[.int .u8 255] 5)
    have HY := Lib.hid (rbytes_any bl A1 64 c1 _ H2'.out z1 (by omega) r1)
    clear o1 b1 HB
    go_wp2_with fail
    refine HY.out.mono ?_
    rintro e w2 ⟨v2, rfl, o2, b2⟩
    obtain ⟨A2, c2, rfl, z2⟩ := own_cap' o2
    have r2 := own_rd o2
    have ol2 := Ow.after ol b2
    have hb := belowGo hba b2
    have hs := hb.size
    clear HY o2 b2 ol hba r1
    unfold Ow at ol2
    go_wp2_with (at_builtin; refine wpList_app eltU8 rfl (.tmp 19) (.tmp 21) rfl rfl ol2 rfl r2 (bcells_one _) (by omega) (by unfold maxLen; omega) hb hs ?_; intro v3 w3 o3 b3 g3 _)
    go_ret2
    exact ⟨_, rfl, o3, b3⟩
  · have ef : formL n k = bytesJ k (formIn n k) := by unfold formL; rw [if_neg h9]
    have eb : fitsB n k = bitsFit n (7 * k) := by unfold fitsB; rw [if_neg h9]
    rw [ef, eb]
    have e9 : ((k : Int) == 9) = false := by simp; omega
    have HB := fun w => Lib.hid (rbits_any n hn (7 * k) (by omega) w)
    have H2 := Lib.hid (formIn_lt n k)
    have HI := Lib.hid (show List.replicate (k - 1) 1 ++ [0] ++ bitsL n (7 * k) = formIn n k from rfl)
    have hown := World.ownsRow_nil w w.heap.size 3 1
    have HR := Lib.hid (fun i : Nat => (List.replicate_succ' (n := i) (a := (1 : Nat))))
    clear ef eb
    go_enter Tryd.func62, Tryd.ntmps62
    go_wp2
    go_loopw [8, 9] (fun v i wr => ∃ j : Nat, j ≤ k - 1 ∧ i = .int .i64 (j : Int) ∧ wr.ownsRow w.heap.size 3 1 v j (icells (List.replicate j 1)) ∧ Below w.heap.size w wr) (fun _ i _ => k - (intOf i).toNat)
    case atStart => exact ⟨0, Nat.zero_le _, rfl, hown, Below.refl _ _⟩
    case round =>
      obtain ⟨j, hj, rfl, hrow, hb⟩ := hrel
      have hs := hb.size
      by_cases hlt : j < k - 1
      · have i1 : (j : Int) < (k : Int) - 1 := by omega
        go_wp2_with (at_builtin; refine wpList_push eltI64 rfl (.tmp 29) (.tmp 30) rfl (W := wr) rfl hrow rfl rfl (by simp [Value.oneCell']) (by omega) (by unfold maxLen; omega) hb hs ?_; intro v' w' hown' hb' _ _)
        go_roundw
        case rel =>
          refine ⟨j + 1, by omega, by go_num, ?_, hb'⟩
          rw [HR.out, icells_append]
          exact hown'
        case measure => simp [intOf]; omega
      · obtain rfl : j = k - 1 := by omega
        have i1 : ¬ ((k - 1 : Nat) : Int) < (k : Int) - 1 := by omega
        have HB' := Lib.hid ((HB wr).out)
        have HI' := HI
        have HD := Lib.hid (show formIn n k = formIn n k from rfl)
        obtain ⟨q, hq⟩ : ∃ q, q = 7 * k := ⟨_, rfl⟩
        have i2 : (7 : Int) * (k : Int) = (q : Int) := by omega
        rw [← hq] at HB' HI'
        have HQ := Lib.hid hq
        clear hq
        clear HB
        go_wp2_with fail
        refine HB'.out.mono ?_
        rintro e w1 ⟨v1, rfl, o1, b1⟩
        obtain ⟨A1, c1, rfl, z1⟩ := own_cap' o1
        have q1 : Ow _ _ _ _ _ _ _ := o1
        have hlo : ∀ g, u8.ownBlock = some g → g < wr.heap.size := fun g hg => (World.ownsRow.lt hrow g hg).2
        have hrow1 := Ow.after hrow b1
        unfold Ow at hrow1
        have hb1 := belowGo hb b1
        have hs1 := hb1.size
        clear HB' o1
        have HL := Lib.hid (show (icells (List.replicate (k - 1) 1) ++ [Value.int .i64 0]) ++ icells (bitsL n q) = icells (formIn n k) by rw [← HI'.out, icells_append, icells_append]; rfl)
        have HK8 := Lib.hid (show (k - 1 + 1 + q) / 8 = k by have := HQ.out; omega)
        have hn8 : k - 1 + 1 + q ≤ 1000 := by have := HQ.out; omega
        go_wp2_with (first
          | (at_builtin; refine wpList_push eltI64 rfl (.tmp 39) (.tmp 40) rfl (W := w1) (v := u8) rfl hrow1 rfl rfl (by simp [Value.oneCell']) (by omega) (by unfold maxLen; omega) hb1 hs1 ?_; intro v2 w2 o2 b2 g2 _; have r2 := (Ow.grown q1 g2 hlo).rd)
          | (at_builtin; refine wpList_app eltI64 rfl (.tmp 41) (.tmp 42) rfl rfl o2 rfl r2 (icells_one _) (by omega) (by unfold maxLen; omega) b2 b2.size ?_; intro v3 w3 o3 b3 g3 _; obtain ⟨A3, c3, rfl, z3⟩ := own_cap' o3)
          | fail)
        have r3 := own_rd o3
        have HY := Lib.hid (rbytes_any (formIn n k) A3 (k - 1 + 1 + q) c3 w3 H2.out z3 hn8 (by rw [← HL.out]; exact r3))
        rw [HK8.out, show k - 1 + 1 + q = k + q by omega] at HY
        clear r3 o3 o2 r2 hrow1
        refine HY.out.mono ?_
        rintro e w4 ⟨v4, rfl, o4, b4⟩
        clear HY
        go_wp2
        go_ret2
        have hb3 := belowGo b3 b4
        rw [← HQ.out]
        exact ⟨_, rfl, own_low o4 b3.size, hb3⟩

set_option maxHeartbeats 1000000 in
theorem rshortest_any (n : Nat) (hn : n < 18446744073709551616) (w : World) :
    Calls Tryd.prog 55 #[.int .u64 (n : Int)] w (RetOwn w 5 1 (psize n) (bcells (pform n))) := by
  have h1 := psize_pos n
  have h9 := psize_le n
  have HF := fun k h1 h9 w => Lib.hid (rform_any n hn k h1 h9 w)
  have HP := Lib.hid (formL_pform n hn)
  have hfit : ∀ k, 1 ≤ k → k ≤ 8 → fitsB n k = decide (psize n ≤ k) := fun k hk hk8 => by
    unfold fitsB bitsFit
    rw [if_neg (by omega), decide_eq_decide]
    exact fits_psize n k hk hk8
  have HFT := Lib.hid hfit
  clear hfit
  go_enter Tryd.func55, Tryd.ntmps55
  go_wp2
  go_loopw [3] (fun i wr => ∃ k : Nat, 1 ≤ k ∧ k ≤ 9 ∧ k ≤ psize n ∧ i = .int .i64 (k : Int) ∧ Below w.heap.size w wr) (fun i _ => 9 - (intOf i).toNat)
  case atStart => exact ⟨1, by omega, by omega, h1, rfl, Below.refl _ _⟩
  case round =>
    obtain ⟨k, hk1, hk9, hkp, rfl, hb⟩ := hrel
    by_cases hlt : k < 9
    · have HF' := HF k hk1 hk9 wr
      have hft := HFT.out k hk1 (by omega)
      by_cases he : psize n ≤ k
      · obtain rfl : k = psize n := by omega
        rw [decide_eq_true he] at hft
        rw [hft, HP.out] at HF'
        clear hft HF
        go_wp2_with fail
        refine HF'.out.mono ?_
        rintro e w1 ⟨v1, rfl, o1, b1⟩
        go_wp2
        go_ret
        exact ⟨_, rfl, own_low o1 hb.size, belowGo hb b1⟩
      · rw [decide_eq_false he] at hft
        rw [hft] at HF'
        clear hft HF
        go_wp2_with fail
        refine HF'.out.mono ?_
        rintro e w1 ⟨v1, rfl, o1, b1⟩
        go_wp2
        go_roundw
        case rel => exact ⟨k + 1, by omega, by omega, by omega, by go_num, belowGo hb b1⟩
        case measure => simp [intOf]; omega
    · obtain rfl : k = 9 := by omega
      have hp9 : psize n = 9 := by omega
      have HF' := HF 9 (by omega) (by omega) wr
      rw [← hp9, HP.out, hp9] at HF'
      have HP9 := Lib.hid hp9
      clear hp9 HF
      go_wp2_with fail
      refine HF'.out.mono ?_
      rintro e w1 ⟨v1, rfl, o1, b1⟩
      go_wp2
      go_ret
      rw [HP9.out]
      exact ⟨_, rfl, own_low o1 hb.size, belowGo hb b1⟩

theorem rput_any (a : List UInt8) (A : Option Addr) (n c : Nat) (x : Nat) (hx : x < 18446744073709551616) (w : World) (h : Rd w w.heap.size 1 A n (bcells a)) (hn : n + 9 ≤ 140737488355328) :
    Calls Tryd.prog 42 #[.slice A n c, .int .u64 (x : Int)] w (RetOwn w 5 1 (n + psize x) (bcells (a ++ pform x))) := by
  have HO := Lib.hid (rown_any a A n c w h (by omega))
  have HS := fun w => Lib.hid (rshortest_any x hx w)
  have h9 := psize_le x
  go_enter Tryd.func42, Tryd.ntmps42
  go_wp2_with fail
  refine HO.out.mono ?_
  rintro e w1 ⟨v1, rfl, o1, b1⟩
  go_wp2_with fail
  refine (HS w1).out.mono ?_
  rintro e w2 ⟨v2, rfl, o2, b2⟩
  obtain ⟨A2, c2, rfl⟩ := own_slice o2
  have r2 := own_rd o2
  have q1 := Ow.after o1 b2
  unfold Ow at q1
  have hb := belowGo b1 b2
  go_wp2_with (at_builtin; refine wpList_app eltU8 rfl (.tmp 6) (.tmp 8) rfl rfl q1 rfl r2 (bcells_one _) (by omega) (by unfold maxLen; omega) hb hb.size ?_; intro v3 w3 o3 b3 g3 _)
  go_ret
  rw [← bcells_append] at o3
  exact ⟨_, rfl, o3, b3⟩
end Go.Proofs.YtmahadcohnhdkaaDoor

namespace Go.Proofs.YtmahadcohnhdkaaDoor
open Go.RowKit
attribute [local go_sem] Oper.semAt_some

set_option maxRecDepth 100000 in
set_option maxHeartbeats 4000000 in
theorem rmaySl_any (s : Sl) (hs : s.fits) (w : World) : Calls Tryd.prog 53 #[.agg s.cells.toArray] w fun e w' => e = .returned (.bool (maySl s)) ∧ Below w.heap.size w w' := by
  obtain ⟨i, z, m, f, l⟩ := s
  obtain ⟨hi, hz, hm, hf, hl⟩ := hs
  dsimp only at hi hz hm hf hl
  rw [show (Sl.mk i z m f l).cells.toArray = #[.int .u32 (i : Int), .int .u32 (z : Int), .int .u32 (m : Int), .int .u64 (f : Int), .int .u64 (l : Int)] from rfl]
  by_cases h0 : 1 ≤ i
  · have x : ¬ (i : Int) = 0 := by omega
    by_cases h1 : i ≤ 16777215
    · have y : ¬ 16777215 < (i : Int) := by omega
      by_cases h2 : 16 ≤ z
      · have x2 : ¬ (z : Int) < 16 := by omega
        by_cases h3 : z ≤ 16777216
        · have y2 : ¬ 16777216 < (z : Int) := by omega
          by_cases hm0 : m = 0
          · have w0 : (m : Int) = 0 := by omega
            by_cases hf0 : f = 0
            · have w1 : (f : Int) = 0 := by omega
              by_cases hl0 : l = 0
              · have w2 : (l : Int) = 0 := by omega
                have e : maySl ⟨i, z, m, f, l⟩ = true := by unfold maySl; by_cases hq : m = 0 <;> simp [hq] <;> omega
                rw [e]
                clear e
                go_enter Tryd.func53, Tryd.ntmps53
                go_wp2
                exact bodyPost_ret (results_tmp rfl _ _ _) rfl ⟨by simp <;> omega, belowAlloc (Below.refl _ _) _⟩
              · have w2 : ¬ (l : Int) = 0 := by omega
                have e : maySl ⟨i, z, m, f, l⟩ = false := by unfold maySl; by_cases hq : m = 0 <;> simp [hq] <;> omega
                rw [e]
                clear e
                go_enter Tryd.func53, Tryd.ntmps53
                go_wp2
                exact bodyPost_ret (results_tmp rfl _ _ _) rfl ⟨by simp <;> omega, belowAlloc (Below.refl _ _) _⟩
            · have w1 : ¬ (f : Int) = 0 := by omega
              have e : maySl ⟨i, z, m, f, l⟩ = false := by unfold maySl; by_cases hq : m = 0 <;> simp [hq] <;> omega
              rw [e]
              clear e
              go_enter Tryd.func53, Tryd.ntmps53
              go_wp2
              exact bodyPost_ret (results_tmp rfl _ _ _) rfl ⟨by simp <;> omega, belowAlloc (Below.refl _ _) _⟩
          · have w0 : ¬ (m : Int) = 0 := by omega
            by_cases hf1 : 1 ≤ f
            · have w1 : ¬ (f : Int) = 0 := by omega
              by_cases hfl : f ≤ l
              · have w2 : ¬ (l : Int) < (f : Int) := by omega
                by_cases hlM : l ≤ 1099511627776
                · have w3 : ¬ 1099511627776 < (l : Int) := by omega
                  obtain ⟨d, hd⟩ : ∃ d, d = l - f := ⟨_, rfl⟩
                  obtain ⟨d1, hd1⟩ : ∃ e, e = d + 1 := ⟨_, rfl⟩
                  have w4 : (l : Int) - (f : Int) = (d : Int) := by omega
                  have w5 : (d : Int) + 1 = (d1 : Int) := by omega
                  by_cases hmd : m ≤ d1
                  · have w6 : (m : Int) ≤ (d1 : Int) := by omega
                    have e : maySl ⟨i, z, m, f, l⟩ = true := by unfold maySl; by_cases hq : m = 0 <;> simp [hq] <;> omega
                    clear hd hd1
                    rw [e]
                    clear e
                    go_enter Tryd.func53, Tryd.ntmps53
                    go_wp2
                    exact bodyPost_ret (results_tmp rfl _ _ _) rfl ⟨by simp <;> omega, belowAlloc (Below.refl _ _) _⟩
                  · have w6 : ¬ (m : Int) ≤ (d1 : Int) := by omega
                    have e : maySl ⟨i, z, m, f, l⟩ = false := by unfold maySl; by_cases hq : m = 0 <;> simp [hq] <;> omega
                    clear hd hd1
                    rw [e]
                    clear e
                    go_enter Tryd.func53, Tryd.ntmps53
                    go_wp2
                    exact bodyPost_ret (results_tmp rfl _ _ _) rfl ⟨by simp <;> omega, belowAlloc (Below.refl _ _) _⟩
                · have w3 : 1099511627776 < (l : Int) := by omega
                  have e : maySl ⟨i, z, m, f, l⟩ = false := by unfold maySl; by_cases hq : m = 0 <;> simp [hq] <;> omega
                  rw [e]
                  clear e
                  go_enter Tryd.func53, Tryd.ntmps53
                  go_wp2
                  exact bodyPost_ret (results_tmp rfl _ _ _) rfl ⟨by simp <;> omega, belowAlloc (Below.refl _ _) _⟩
              · have w2 : (l : Int) < (f : Int) := by omega
                have e : maySl ⟨i, z, m, f, l⟩ = false := by unfold maySl; by_cases hq : m = 0 <;> simp [hq] <;> omega
                rw [e]
                clear e
                go_enter Tryd.func53, Tryd.ntmps53
                go_wp2
                exact bodyPost_ret (results_tmp rfl _ _ _) rfl ⟨by simp <;> omega, belowAlloc (Below.refl _ _) _⟩
            · have w1 : (f : Int) = 0 := by omega
              have e : maySl ⟨i, z, m, f, l⟩ = false := by unfold maySl; by_cases hq : m = 0 <;> simp [hq] <;> omega
              rw [e]
              clear e
              go_enter Tryd.func53, Tryd.ntmps53
              go_wp2
              exact bodyPost_ret (results_tmp rfl _ _ _) rfl ⟨by simp <;> omega, belowAlloc (Below.refl _ _) _⟩
        · have y2 : 16777216 < (z : Int) := by omega
          have e : maySl ⟨i, z, m, f, l⟩ = false := by unfold maySl; by_cases hq : m = 0 <;> simp [hq] <;> omega
          rw [e]
          clear e
          go_enter Tryd.func53, Tryd.ntmps53
          go_wp2
          exact bodyPost_ret (results_tmp rfl _ _ _) rfl ⟨by simp <;> omega, belowAlloc (Below.refl _ _) _⟩
      · have x2 : (z : Int) < 16 := by omega
        have e : maySl ⟨i, z, m, f, l⟩ = false := by unfold maySl; by_cases hq : m = 0 <;> simp [hq] <;> omega
        rw [e]
        clear e
        go_enter Tryd.func53, Tryd.ntmps53
        go_wp2
        exact bodyPost_ret (results_tmp rfl _ _ _) rfl ⟨by simp <;> omega, belowAlloc (Below.refl _ _) _⟩
    · have y : 16777215 < (i : Int) := by omega
      have e : maySl ⟨i, z, m, f, l⟩ = false := by unfold maySl; by_cases hq : m = 0 <;> simp [hq] <;> omega
      rw [e]
      clear e
      go_enter Tryd.func53, Tryd.ntmps53
      go_wp2
      exact bodyPost_ret (results_tmp rfl _ _ _) rfl ⟨by simp <;> omega, belowAlloc (Below.refl _ _) _⟩
  · have x : (i : Int) = 0 := by omega
    have e : maySl ⟨i, z, m, f, l⟩ = false := by unfold maySl; by_cases hq : m = 0 <;> simp [hq] <;> omega
    rw [e]
    clear e
    go_enter Tryd.func53, Tryd.ntmps53
    go_wp2
    exact bodyPost_ret (results_tmp rfl _ _ _) rfl ⟨by simp <;> omega, belowAlloc (Below.refl _ _) _⟩

theorem results_tmp4 {P : Program} {fn : Func} {tmps : Array Value} {w : World} {a b c d : Tmp} (h : fn.results = #[.tmp a, .tmp b, .tmp c, .tmp d]) :
    (results fn tmps).run P w = .ok (.tuple #[tmps.getD a undef, tmps.getD b undef, tmps.getD c undef, tmps.getD d undef]) w := by
  simp [results, h]
def partsV (k : Int) : Array Value := #[.bool (hasSeq k), .bool (hasName k), .bool (hasId k), .bool (hasSeals k)]
set_option maxRecDepth 100000 in
theorem rparts_any (k : Int) (w : World) : Calls Tryd.prog 41 #[.int .i64 k] w fun e w' => e = .returned (.tuple (partsV k)) ∧ w = w' := by
  by_cases h1 : k = 1
  · subst h1
    go_enter Tryd.func41, Tryd.ntmps41
    go_wp2
    exact bodyPost_ret (results_tmp4 rfl) rfl ⟨rfl, rfl⟩
  by_cases h2 : k = 2
  · subst h2
    go_enter Tryd.func41, Tryd.ntmps41
    go_wp2
    exact bodyPost_ret (results_tmp4 rfl) rfl ⟨rfl, rfl⟩
  by_cases h3 : k = 3
  · subst h3
    go_enter Tryd.func41, Tryd.ntmps41
    go_wp2
    exact bodyPost_ret (results_tmp4 rfl) rfl ⟨rfl, rfl⟩
  by_cases h4 : k = 4
  · subst h4
    go_enter Tryd.func41, Tryd.ntmps41
    go_wp2
    exact bodyPost_ret (results_tmp4 rfl) rfl ⟨rfl, rfl⟩
  by_cases h5 : k = 5
  · subst h5
    go_enter Tryd.func41, Tryd.ntmps41
    go_wp2
    exact bodyPost_ret (results_tmp4 rfl) rfl ⟨rfl, rfl⟩
  by_cases h6 : k = 6
  · subst h6
    go_enter Tryd.func41, Tryd.ntmps41
    go_wp2
    exact bodyPost_ret (results_tmp4 rfl) rfl ⟨rfl, rfl⟩
  have hv : partsV k = #[.bool false, .bool false, .bool false, .bool false] := by unfold partsV hasSeq hasName hasId hasSeals; simp [h1, h2, h3, h4, h5, h6]
  rw [hv]
  clear hv
  go_enter Tryd.func41, Tryd.ntmps41
  go_wp2
  exact bodyPost_ret (results_tmp4 rfl) rfl ⟨rfl, rfl⟩
end Go.Proofs.YtmahadcohnhdkaaDoor

namespace Go.Proofs.YtmahadcohnhdkaaDoor
open Go.RowKit
attribute [local go_sem] Oper.semAt_some

theorem mayEd_ref (k : Int) (nm : List UInt8) (seq id : Nat) (sl : List Sl) (hs hn hi hl : Bool) (n : Nat) (h1 : hs = hasSeq k) (h2 : hn = hasName k) (h3 : hi = hasId k) (h4 : hl = hasSeals k) (h5 : sl.length = n) (hk : isKind k = true) :
    mayEd ⟨k, nm, seq, id, sl⟩ = (!(decide (1099511627776 < seq) || (!hs && decide (0 < seq))) && !((hn && (decide (nm.length < 1) || decide (32 < nm.length))) || (!hn && decide (0 < nm.length))) && !((hi && (decide (id < 1) || decide (16777215 < id))) || (!hi && decide (0 < id))) && !((!hl && decide (0 < n)) || (decide (k = 5) && !decide (n = 1)) || decide (200 < n)) && maySls 0 sl) := by
  subst h1; subst h2; subst h3; subst h4; subst h5
  unfold mayEd
  dsimp only
  rw [hk]
  generalize hasSeq k = hs
  generalize hasName k = hn
  generalize hasId k = hi
  generalize hasSeals k = hl
  generalize maySls 0 sl = b
  generalize nm.length = a
  generalize sl.length = n
  have hk5 : (k == 5) = decide (k = 5) := rfl
  rw [hk5]
  generalize decide (k = 5) = d
  cases hs <;> cases hn <;> cases hi <;> cases hl <;> cases d <;> cases b <;> rw [Bool.eq_iff_iff] <;> simp <;> omega

set_option maxRecDepth 100000 in
set_option maxHeartbeats 8000000 in
theorem rmayE_any (k : Int) (nm : List UInt8) (S : ByteArray) (hS : S = ⟨nm.toArray⟩) (seq id : Nat) (sl : List Sl) (A : Option Addr) (n c : Nat) (w : World) (hn : sl.length = n) (hseq : seq < 18446744073709551616) (hid : id < 4294967296) (hnm : nm.length ≤ 1000000000000) (hsl : ∀ s ∈ sl, s.fits)
    (hr : Rd w w.heap.size 5 A n (slCells sl)) (hnc : n ≤ c) :
    Calls Tryd.prog 40 #[.agg #[.int .i64 k, .string S, .int .u64 (seq : Int), .int .u32 (id : Int), .slice A n c]] w fun e w' => e = .returned (.bool (mayEd ⟨k, nm, seq, id, sl⟩)) ∧ Below w.heap.size w w' := by
  have hSz : S.size = nm.length := by rw [hS]; simp [ByteArray.size]
  clear hS
  have hmx := hr.2.1
  unfold maxLen at hmx
  have q1 := Blk.new w 29 #[.int .i64 k, .string S, .int .u64 (seq : Int), .int .u32 (id : Int), .slice A n c]
  have hb := (Below.refl w.heap.size w).alloc (Nat.le_refl _) (.cells #[.int .i64 k, .string S, .int .u64 (seq : Int), .int .u32 (id : Int), .slice A n c] 29)
  obtain ⟨L, hL⟩ : ∃ L, L = nm.length := ⟨_, rfl⟩
  have PA := Lib.hid (rparts_any k (w.alloc (.cells #[.int .i64 k, .string S, .int .u64 (seq : Int), .int .u32 (id : Int), .slice A n c] 29)))
  unfold partsV at PA
  cases hk : isKind k with
  | false =>
    have EE := Lib.hid (show mayEd ⟨k, nm, seq, id, sl⟩ = false by unfold mayEd; rw [hk]; rfl)
    have HB := Lib.hid hb
    by_cases k1 : k < 1
    · clear hk PA hb q1
      go_enter Tryd.func40, Tryd.ntmps40
      go_wp2_with fail
      exact bodyPost_ret (results_tmp rfl _ _ _) rfl ⟨by rw [EE.out]; rfl, HB.out⟩
    · have k2 : 6 < k := by unfold isKind at hk; simp at hk; omega
      clear hk PA hb q1
      go_enter Tryd.func40, Tryd.ntmps40
      go_wp2_with fail
      exact bodyPost_ret (results_tmp rfl _ _ _) rfl ⟨by rw [EE.out]; rfl, HB.out⟩
  | true =>
    have k1 : ¬ k < 1 := by unfold isKind at hk; simp at hk; omega
    have k2 : ¬ 6 < k := by unfold isKind at hk; simp at hk; omega
    obtain ⟨hs, h1⟩ : ∃ h, h = hasSeq k := ⟨_, rfl⟩
    obtain ⟨hq, h2⟩ : ∃ h, h = hasName k := ⟨_, rfl⟩
    obtain ⟨hi, h3⟩ : ∃ h, h = hasId k := ⟨_, rfl⟩
    obtain ⟨hl, h4⟩ : ∃ h, h = hasSeals k := ⟨_, rfl⟩
    have ME := Lib.hid (mayEd_ref k nm seq id sl hs hq hi hl n h1 h2 h3 h4 hn hk)
    rw [← h1, ← h2, ← h3, ← h4] at PA
    rw [← hL] at ME hSz hnm
    clear h1 h2 h3 h4 hk hL
    have EX := Lib.hid hn
    obtain ⟨r, hrr⟩ : ∃ r, r = mayEd ⟨k, nm, seq, id, sl⟩ := ⟨_, rfl⟩
    rw [← hrr] at ME ⊢
    clear hn hrr nm
    go_enter Tryd.func40, Tryd.ntmps40
    go_upto_region 3 with (fail)
    generalize w.alloc (.cells #[.int .i64 k, .string S, .int .u64 (seq : Int), .int .u32 (id : Int), .slice A n c] 29) = w1 at *
    have c0 : w1.cell? ⟨w.heap.size, 0, none⟩ = some (.int .i64 k) := q1.cell 0
    have c1 : w1.cell? ⟨w.heap.size, 1, none⟩ = some (.string S) := q1.cell 1
    have c2 : w1.cell? ⟨w.heap.size, 2, none⟩ = some (.int .u64 (seq : Int)) := q1.cell 2
    have c3 : w1.cell? ⟨w.heap.size, 3, none⟩ = some (.int .u32 (id : Int)) := q1.cell 3
    have c4 : w1.cell? ⟨w.heap.size, 4, none⟩ = some (.slice A n c) := q1.cell 4
    go_wp2_with fail
    refine PA.out.mono ?_
    rintro e w2 ⟨rfl, rfl⟩
    go_upto_region 4 with (fail)
    have Q1 := Lib.hid q1
    have HB := Lib.hid hb
    have HR := Lib.hid ((hr.below hb (Nat.le_refl _)).more hb.size)
    have HSL := Lib.hid hsl
    clear PA q1 hb hr hsl
    have ME : Hid (r = (!(decide (1099511627776 < seq) || (!hs && decide (0 < seq))) && !((hq && (decide (L < 1) || decide (32 < L))) || (!hq && decide (0 < L))) && !((hi && (decide (id < 1) || decide (16777215 < id))) || (!hi && decide (0 < id))) && !((!hl && decide (0 < n)) || (decide (k = 5) && !decide (n = 1)) || decide (200 < n)) && maySls 0 sl)) := ME
    go_cut [35] from 24 to 35 (fun v wx => v = .bool (decide (1099511627776 < seq) || (!hs && decide (0 < seq))) ∧ wx = w1)
    case first =>
      by_cases p0 : 1099511627776 < seq
      · have y0 : 1099511627776 < (seq : Int) := by omega
        cases hs with
        | false =>
          by_cases p2 : 0 < seq
          · have y2 : 0 < (seq : Int) := by omega
            first
              | (exfalso; omega)
              | skip
                go_wp2_with fail
                go_meet
                case rel => exact ⟨by (try rw [decide_eq_true p0]; try rw [decide_eq_true p2]; rfl), rfl⟩
          · have y2 : ¬ 0 < (seq : Int) := by omega
            first
              | (exfalso; omega)
              | skip
                go_wp2_with fail
                go_meet
                case rel => exact ⟨by (try rw [decide_eq_true p0]; try rw [decide_eq_false p2]; rfl), rfl⟩
        | true =>
          by_cases p2 : 0 < seq
          · have y2 : 0 < (seq : Int) := by omega
            first
              | (exfalso; omega)
              | skip
                go_wp2_with fail
                go_meet
                case rel => exact ⟨by (try rw [decide_eq_true p0]; try rw [decide_eq_true p2]; rfl), rfl⟩
          · have y2 : ¬ 0 < (seq : Int) := by omega
            first
              | (exfalso; omega)
              | skip
                go_wp2_with fail
                go_meet
                case rel => exact ⟨by (try rw [decide_eq_true p0]; try rw [decide_eq_false p2]; rfl), rfl⟩
      · have y0 : ¬ 1099511627776 < (seq : Int) := by omega
        cases hs with
        | false =>
          by_cases p2 : 0 < seq
          · have y2 : 0 < (seq : Int) := by omega
            first
              | (exfalso; omega)
              | skip
                go_wp2_with fail
                go_meet
                case rel => exact ⟨by (try rw [decide_eq_false p0]; try rw [decide_eq_true p2]; rfl), rfl⟩
          · have y2 : ¬ 0 < (seq : Int) := by omega
            first
              | (exfalso; omega)
              | skip
                go_wp2_with fail
                go_meet
                case rel => exact ⟨by (try rw [decide_eq_false p0]; try rw [decide_eq_false p2]; rfl), rfl⟩
        | true =>
          by_cases p2 : 0 < seq
          · have y2 : 0 < (seq : Int) := by omega
            first
              | (exfalso; omega)
              | skip
                go_wp2_with fail
                go_meet
                case rel => exact ⟨by (try rw [decide_eq_false p0]; try rw [decide_eq_true p2]; rfl), rfl⟩
          · have y2 : ¬ 0 < (seq : Int) := by omega
            first
              | (exfalso; omega)
              | skip
                go_wp2_with fail
                go_meet
                case rel => exact ⟨by (try rw [decide_eq_false p0]; try rw [decide_eq_false p2]; rfl), rfl⟩
    case rest =>
    obtain ⟨rfl, hw⟩ := hcut
    have hw := hw.symm
    subst hw
    cases hX : (decide (1099511627776 < seq) || (!hs && decide (0 < seq))) with
    | true =>
      have EE := Lib.hid (show r = false by rw [ME.out, hX]; simp)
      clear hX ME
      go_wp2_with fail
      exact bodyPost_ret (results_tmp rfl _ _ _) rfl ⟨by rw [EE.out]; rfl, HB.out⟩
    | false =>
      rw [hX] at ME
      clear hX
      go_upto_region 6 with (fail)
      go_cut [58] from 36 to 58 (fun v wx => v = .bool ((hq && (decide (L < 1) || decide (32 < L))) || (!hq && decide (0 < L))) ∧ wx = w1)
      case first =>
        cases hq with
        | false =>
          by_cases p1 : L < 1
          · have y1 : (L : Int) < 1 := by omega
            by_cases p2 : 32 < L
            · have y2 : 32 < (L : Int) := by omega
              first
                | (exfalso; omega)
                | skip
                  go_wp2_with fail
                  go_meet
                  case rel => exact ⟨by (try rw [decide_eq_true p1]; try rw [decide_eq_true p2]; rfl), rfl⟩
            · have y2 : ¬ 32 < (L : Int) := by omega
              first
                | (exfalso; omega)
                | skip
                  go_wp2_with fail
                  go_meet
                  case rel => exact ⟨by (try rw [decide_eq_true p1]; try rw [decide_eq_false p2]; rfl), rfl⟩
          · have y1 : ¬ (L : Int) < 1 := by omega
            by_cases p2 : 32 < L
            · have y2 : 32 < (L : Int) := by omega
              first
                | (exfalso; omega)
                | skip
                  go_wp2_with fail
                  go_meet
                  case rel => exact ⟨by (try rw [decide_eq_false p1]; try rw [decide_eq_true p2]; rfl), rfl⟩
            · have y2 : ¬ 32 < (L : Int) := by omega
              first
                | (exfalso; omega)
                | skip
                  go_wp2_with fail
                  go_meet
                  case rel => exact ⟨by (try rw [decide_eq_false p1]; try rw [decide_eq_false p2]; rfl), rfl⟩
        | true =>
          by_cases p1 : L < 1
          · have y1 : (L : Int) < 1 := by omega
            by_cases p2 : 32 < L
            · have y2 : 32 < (L : Int) := by omega
              first
                | (exfalso; omega)
                | skip
                  go_wp2_with fail
                  go_meet
                  case rel => exact ⟨by (try rw [decide_eq_true p1]; try rw [decide_eq_true p2]; rfl), rfl⟩
            · have y2 : ¬ 32 < (L : Int) := by omega
              first
                | (exfalso; omega)
                | skip
                  go_wp2_with fail
                  go_meet
                  case rel => exact ⟨by (try rw [decide_eq_true p1]; try rw [decide_eq_false p2]; rfl), rfl⟩
          · have y1 : ¬ (L : Int) < 1 := by omega
            by_cases p2 : 32 < L
            · have y2 : 32 < (L : Int) := by omega
              first
                | (exfalso; omega)
                | skip
                  go_wp2_with fail
                  go_meet
                  case rel => exact ⟨by (try rw [decide_eq_false p1]; try rw [decide_eq_true p2]; rfl), rfl⟩
            · have y2 : ¬ 32 < (L : Int) := by omega
              first
                | (exfalso; omega)
                | skip
                  go_wp2_with fail
                  go_meet
                  case rel => exact ⟨by (try rw [decide_eq_false p1]; try rw [decide_eq_false p2]; rfl), rfl⟩
      case rest =>
      obtain ⟨rfl, hw⟩ := hcut
      have hw := hw.symm
      subst hw
      cases hX : ((hq && (decide (L < 1) || decide (32 < L))) || (!hq && decide (0 < L))) with
      | true =>
        have EE := Lib.hid (show r = false by rw [ME.out, hX]; simp)
        clear hX ME
        go_wp2_with fail
        exact bodyPost_ret (results_tmp rfl _ _ _) rfl ⟨by rw [EE.out]; rfl, HB.out⟩
      | false =>
        rw [hX] at ME
        clear hX
        go_upto_region 8 with (fail)
        go_cut [78] from 59 to 78 (fun v wx => v = .bool ((hi && (decide (id < 1) || decide (16777215 < id))) || (!hi && decide (0 < id))) ∧ wx = w1)
        case first =>
          cases hi with
          | false =>
            by_cases p1 : id < 1
            · have y1 : (id : Int) < 1 := by omega
              by_cases p2 : 16777215 < id
              · have y2 : 16777215 < (id : Int) := by omega
                first
                  | (exfalso; omega)
                  | skip
                    go_wp2_with fail
                    go_meet
                    case rel => exact ⟨by (try rw [decide_eq_true p1]; try rw [decide_eq_true p2]; rfl), rfl⟩
              · have y2 : ¬ 16777215 < (id : Int) := by omega
                first
                  | (exfalso; omega)
                  | skip
                    go_wp2_with fail
                    go_meet
                    case rel => exact ⟨by (try rw [decide_eq_true p1]; try rw [decide_eq_false p2]; rfl), rfl⟩
            · have y1 : ¬ (id : Int) < 1 := by omega
              by_cases p2 : 16777215 < id
              · have y2 : 16777215 < (id : Int) := by omega
                first
                  | (exfalso; omega)
                  | skip
                    go_wp2_with fail
                    go_meet
                    case rel => exact ⟨by (try rw [decide_eq_false p1]; try rw [decide_eq_true p2]; rfl), rfl⟩
              · have y2 : ¬ 16777215 < (id : Int) := by omega
                first
                  | (exfalso; omega)
                  | skip
                    go_wp2_with fail
                    go_meet
                    case rel => exact ⟨by (try rw [decide_eq_false p1]; try rw [decide_eq_false p2]; rfl), rfl⟩
          | true =>
            by_cases p1 : id < 1
            · have y1 : (id : Int) < 1 := by omega
              by_cases p2 : 16777215 < id
              · have y2 : 16777215 < (id : Int) := by omega
                first
                  | (exfalso; omega)
                  | skip
                    go_wp2_with fail
                    go_meet
                    case rel => exact ⟨by (try rw [decide_eq_true p1]; try rw [decide_eq_true p2]; rfl), rfl⟩
              · have y2 : ¬ 16777215 < (id : Int) := by omega
                first
                  | (exfalso; omega)
                  | skip
                    go_wp2_with fail
                    go_meet
                    case rel => exact ⟨by (try rw [decide_eq_true p1]; try rw [decide_eq_false p2]; rfl), rfl⟩
            · have y1 : ¬ (id : Int) < 1 := by omega
              by_cases p2 : 16777215 < id
              · have y2 : 16777215 < (id : Int) := by omega
                first
                  | (exfalso; omega)
                  | skip
                    go_wp2_with fail
                    go_meet
                    case rel => exact ⟨by (try rw [decide_eq_false p1]; try rw [decide_eq_true p2]; rfl), rfl⟩
              · have y2 : ¬ 16777215 < (id : Int) := by omega
                first
                  | (exfalso; omega)
                  | skip
                    go_wp2_with fail
                    go_meet
                    case rel => exact ⟨by (try rw [decide_eq_false p1]; try rw [decide_eq_false p2]; rfl), rfl⟩
        case rest =>
        obtain ⟨rfl, hw⟩ := hcut
        have hw := hw.symm
        subst hw
        cases hX : ((hi && (decide (id < 1) || decide (16777215 < id))) || (!hi && decide (0 < id))) with
        | true =>
          have EE := Lib.hid (show r = false by rw [ME.out, hX]; simp)
          clear hX ME
          go_wp2_with fail
          exact bodyPost_ret (results_tmp rfl _ _ _) rfl ⟨by rw [EE.out]; rfl, HB.out⟩
        | false =>
          rw [hX] at ME
          clear hX
          go_upto_region 10 with (fail)
          go_cut [103] from 79 to 103 (fun v wx => v = .bool ((!hl && decide (0 < n)) || (decide (k = 5) && !decide (n = 1)) || decide (200 < n)) ∧ wx = w1)
          case first =>
            cases hl with
            | false =>
              by_cases p1 : 0 < n
              · have y1 : 0 < (n : Int) := by omega
                by_cases p2 : k = 5
                · have y2 : (k = 5) = True := by simp; omega
                  have z2 : (k == 5) = true := by simp; omega
                  have P2 := Lib.hid p2
                  clear p2
                  by_cases p3 : n = 1
                  · have y3 : ((n : Int) = 1) = True := by simp; omega
                    have z3 : ((n : Int) != 1) = false := by simp; omega
                    have P3 := Lib.hid p3
                    clear p3
                    by_cases p4 : 200 < n
                    · have y4 : 200 < (n : Int) := by omega
                      first
                        | (exfalso; have := P2.out; have := P3.out; omega)
                        | skip
                          go_wp2_with fail
                          go_meet
                          case rel => exact ⟨by (try rw [decide_eq_true p1]; try rw [decide_eq_true P2.out]; try rw [decide_eq_true P3.out]; try rw [decide_eq_true p4]; rfl), rfl⟩
                    · have y4 : ¬ 200 < (n : Int) := by omega
                      first
                        | (exfalso; have := P2.out; have := P3.out; omega)
                        | skip
                          go_wp2_with fail
                          go_meet
                          case rel => exact ⟨by (try rw [decide_eq_true p1]; try rw [decide_eq_true P2.out]; try rw [decide_eq_true P3.out]; try rw [decide_eq_false p4]; rfl), rfl⟩
                  · have y3 : ¬ (n : Int) = 1 := by omega
                    by_cases p4 : 200 < n
                    · have y4 : 200 < (n : Int) := by omega
                      first
                        | (exfalso; have := P2.out; omega)
                        | skip
                          go_wp2_with fail
                          go_meet
                          case rel => exact ⟨by (try rw [decide_eq_true p1]; try rw [decide_eq_true P2.out]; try rw [decide_eq_false p3]; try rw [decide_eq_true p4]; rfl), rfl⟩
                    · have y4 : ¬ 200 < (n : Int) := by omega
                      first
                        | (exfalso; have := P2.out; omega)
                        | skip
                          go_wp2_with fail
                          go_meet
                          case rel => exact ⟨by (try rw [decide_eq_true p1]; try rw [decide_eq_true P2.out]; try rw [decide_eq_false p3]; try rw [decide_eq_false p4]; rfl), rfl⟩
                · have y2 : ¬ k = 5 := by omega
                  by_cases p3 : n = 1
                  · have y3 : ((n : Int) = 1) = True := by simp; omega
                    have z3 : ((n : Int) != 1) = false := by simp; omega
                    have P3 := Lib.hid p3
                    clear p3
                    by_cases p4 : 200 < n
                    · have y4 : 200 < (n : Int) := by omega
                      first
                        | (exfalso; have := P3.out; omega)
                        | skip
                          go_wp2_with fail
                          go_meet
                          case rel => exact ⟨by (try rw [decide_eq_true p1]; try rw [decide_eq_false p2]; try rw [decide_eq_true P3.out]; try rw [decide_eq_true p4]; rfl), rfl⟩
                    · have y4 : ¬ 200 < (n : Int) := by omega
                      first
                        | (exfalso; have := P3.out; omega)
                        | skip
                          go_wp2_with fail
                          go_meet
                          case rel => exact ⟨by (try rw [decide_eq_true p1]; try rw [decide_eq_false p2]; try rw [decide_eq_true P3.out]; try rw [decide_eq_false p4]; rfl), rfl⟩
                  · have y3 : ¬ (n : Int) = 1 := by omega
                    by_cases p4 : 200 < n
                    · have y4 : 200 < (n : Int) := by omega
                      first
                        | (exfalso; omega)
                        | skip
                          go_wp2_with fail
                          go_meet
                          case rel => exact ⟨by (try rw [decide_eq_true p1]; try rw [decide_eq_false p2]; try rw [decide_eq_false p3]; try rw [decide_eq_true p4]; rfl), rfl⟩
                    · have y4 : ¬ 200 < (n : Int) := by omega
                      first
                        | (exfalso; omega)
                        | skip
                          go_wp2_with fail
                          go_meet
                          case rel => exact ⟨by (try rw [decide_eq_true p1]; try rw [decide_eq_false p2]; try rw [decide_eq_false p3]; try rw [decide_eq_false p4]; rfl), rfl⟩
              · have y1 : ¬ 0 < (n : Int) := by omega
                by_cases p2 : k = 5
                · have y2 : (k = 5) = True := by simp; omega
                  have z2 : (k == 5) = true := by simp; omega
                  have P2 := Lib.hid p2
                  clear p2
                  by_cases p3 : n = 1
                  · have y3 : ((n : Int) = 1) = True := by simp; omega
                    have z3 : ((n : Int) != 1) = false := by simp; omega
                    have P3 := Lib.hid p3
                    clear p3
                    by_cases p4 : 200 < n
                    · have y4 : 200 < (n : Int) := by omega
                      first
                        | (exfalso; have := P2.out; have := P3.out; omega)
                        | skip
                          go_wp2_with fail
                          go_meet
                          case rel => exact ⟨by (try rw [decide_eq_false p1]; try rw [decide_eq_true P2.out]; try rw [decide_eq_true P3.out]; try rw [decide_eq_true p4]; rfl), rfl⟩
                    · have y4 : ¬ 200 < (n : Int) := by omega
                      first
                        | (exfalso; have := P2.out; have := P3.out; omega)
                        | skip
                          go_wp2_with fail
                          go_meet
                          case rel => exact ⟨by (try rw [decide_eq_false p1]; try rw [decide_eq_true P2.out]; try rw [decide_eq_true P3.out]; try rw [decide_eq_false p4]; rfl), rfl⟩
                  · have y3 : ¬ (n : Int) = 1 := by omega
                    by_cases p4 : 200 < n
                    · have y4 : 200 < (n : Int) := by omega
                      first
                        | (exfalso; have := P2.out; omega)
                        | skip
                          go_wp2_with fail
                          go_meet
                          case rel => exact ⟨by (try rw [decide_eq_false p1]; try rw [decide_eq_true P2.out]; try rw [decide_eq_false p3]; try rw [decide_eq_true p4]; rfl), rfl⟩
                    · have y4 : ¬ 200 < (n : Int) := by omega
                      first
                        | (exfalso; have := P2.out; omega)
                        | skip
                          go_wp2_with fail
                          go_meet
                          case rel => exact ⟨by (try rw [decide_eq_false p1]; try rw [decide_eq_true P2.out]; try rw [decide_eq_false p3]; try rw [decide_eq_false p4]; rfl), rfl⟩
                · have y2 : ¬ k = 5 := by omega
                  by_cases p3 : n = 1
                  · have y3 : ((n : Int) = 1) = True := by simp; omega
                    have z3 : ((n : Int) != 1) = false := by simp; omega
                    have P3 := Lib.hid p3
                    clear p3
                    by_cases p4 : 200 < n
                    · have y4 : 200 < (n : Int) := by omega
                      first
                        | (exfalso; have := P3.out; omega)
                        | skip
                          go_wp2_with fail
                          go_meet
                          case rel => exact ⟨by (try rw [decide_eq_false p1]; try rw [decide_eq_false p2]; try rw [decide_eq_true P3.out]; try rw [decide_eq_true p4]; rfl), rfl⟩
                    · have y4 : ¬ 200 < (n : Int) := by omega
                      first
                        | (exfalso; have := P3.out; omega)
                        | skip
                          go_wp2_with fail
                          go_meet
                          case rel => exact ⟨by (try rw [decide_eq_false p1]; try rw [decide_eq_false p2]; try rw [decide_eq_true P3.out]; try rw [decide_eq_false p4]; rfl), rfl⟩
                  · have y3 : ¬ (n : Int) = 1 := by omega
                    by_cases p4 : 200 < n
                    · have y4 : 200 < (n : Int) := by omega
                      first
                        | (exfalso; omega)
                        | skip
                          go_wp2_with fail
                          go_meet
                          case rel => exact ⟨by (try rw [decide_eq_false p1]; try rw [decide_eq_false p2]; try rw [decide_eq_false p3]; try rw [decide_eq_true p4]; rfl), rfl⟩
                    · have y4 : ¬ 200 < (n : Int) := by omega
                      first
                        | (exfalso; omega)
                        | skip
                          go_wp2_with fail
                          go_meet
                          case rel => exact ⟨by (try rw [decide_eq_false p1]; try rw [decide_eq_false p2]; try rw [decide_eq_false p3]; try rw [decide_eq_false p4]; rfl), rfl⟩
            | true =>
              by_cases p1 : 0 < n
              · have y1 : 0 < (n : Int) := by omega
                by_cases p2 : k = 5
                · have y2 : (k = 5) = True := by simp; omega
                  have z2 : (k == 5) = true := by simp; omega
                  have P2 := Lib.hid p2
                  clear p2
                  by_cases p3 : n = 1
                  · have y3 : ((n : Int) = 1) = True := by simp; omega
                    have z3 : ((n : Int) != 1) = false := by simp; omega
                    have P3 := Lib.hid p3
                    clear p3
                    by_cases p4 : 200 < n
                    · have y4 : 200 < (n : Int) := by omega
                      first
                        | (exfalso; have := P2.out; have := P3.out; omega)
                        | skip
                          go_wp2_with fail
                          go_meet
                          case rel => exact ⟨by (try rw [decide_eq_true p1]; try rw [decide_eq_true P2.out]; try rw [decide_eq_true P3.out]; try rw [decide_eq_true p4]; rfl), rfl⟩
                    · have y4 : ¬ 200 < (n : Int) := by omega
                      first
                        | (exfalso; have := P2.out; have := P3.out; omega)
                        | skip
                          go_wp2_with fail
                          go_meet
                          case rel => exact ⟨by (try rw [decide_eq_true p1]; try rw [decide_eq_true P2.out]; try rw [decide_eq_true P3.out]; try rw [decide_eq_false p4]; rfl), rfl⟩
                  · have y3 : ¬ (n : Int) = 1 := by omega
                    by_cases p4 : 200 < n
                    · have y4 : 200 < (n : Int) := by omega
                      first
                        | (exfalso; have := P2.out; omega)
                        | skip
                          go_wp2_with fail
                          go_meet
                          case rel => exact ⟨by (try rw [decide_eq_true p1]; try rw [decide_eq_true P2.out]; try rw [decide_eq_false p3]; try rw [decide_eq_true p4]; rfl), rfl⟩
                    · have y4 : ¬ 200 < (n : Int) := by omega
                      first
                        | (exfalso; have := P2.out; omega)
                        | skip
                          go_wp2_with fail
                          go_meet
                          case rel => exact ⟨by (try rw [decide_eq_true p1]; try rw [decide_eq_true P2.out]; try rw [decide_eq_false p3]; try rw [decide_eq_false p4]; rfl), rfl⟩
                · have y2 : ¬ k = 5 := by omega
                  by_cases p3 : n = 1
                  · have y3 : ((n : Int) = 1) = True := by simp; omega
                    have z3 : ((n : Int) != 1) = false := by simp; omega
                    have P3 := Lib.hid p3
                    clear p3
                    by_cases p4 : 200 < n
                    · have y4 : 200 < (n : Int) := by omega
                      first
                        | (exfalso; have := P3.out; omega)
                        | skip
                          go_wp2_with fail
                          go_meet
                          case rel => exact ⟨by (try rw [decide_eq_true p1]; try rw [decide_eq_false p2]; try rw [decide_eq_true P3.out]; try rw [decide_eq_true p4]; rfl), rfl⟩
                    · have y4 : ¬ 200 < (n : Int) := by omega
                      first
                        | (exfalso; have := P3.out; omega)
                        | skip
                          go_wp2_with fail
                          go_meet
                          case rel => exact ⟨by (try rw [decide_eq_true p1]; try rw [decide_eq_false p2]; try rw [decide_eq_true P3.out]; try rw [decide_eq_false p4]; rfl), rfl⟩
                  · have y3 : ¬ (n : Int) = 1 := by omega
                    by_cases p4 : 200 < n
                    · have y4 : 200 < (n : Int) := by omega
                      first
                        | (exfalso; omega)
                        | skip
                          go_wp2_with fail
                          go_meet
                          case rel => exact ⟨by (try rw [decide_eq_true p1]; try rw [decide_eq_false p2]; try rw [decide_eq_false p3]; try rw [decide_eq_true p4]; rfl), rfl⟩
                    · have y4 : ¬ 200 < (n : Int) := by omega
                      first
                        | (exfalso; omega)
                        | skip
                          go_wp2_with fail
                          go_meet
                          case rel => exact ⟨by (try rw [decide_eq_true p1]; try rw [decide_eq_false p2]; try rw [decide_eq_false p3]; try rw [decide_eq_false p4]; rfl), rfl⟩
              · have y1 : ¬ 0 < (n : Int) := by omega
                by_cases p2 : k = 5
                · have y2 : (k = 5) = True := by simp; omega
                  have z2 : (k == 5) = true := by simp; omega
                  have P2 := Lib.hid p2
                  clear p2
                  by_cases p3 : n = 1
                  · have y3 : ((n : Int) = 1) = True := by simp; omega
                    have z3 : ((n : Int) != 1) = false := by simp; omega
                    have P3 := Lib.hid p3
                    clear p3
                    by_cases p4 : 200 < n
                    · have y4 : 200 < (n : Int) := by omega
                      first
                        | (exfalso; have := P2.out; have := P3.out; omega)
                        | skip
                          go_wp2_with fail
                          go_meet
                          case rel => exact ⟨by (try rw [decide_eq_false p1]; try rw [decide_eq_true P2.out]; try rw [decide_eq_true P3.out]; try rw [decide_eq_true p4]; rfl), rfl⟩
                    · have y4 : ¬ 200 < (n : Int) := by omega
                      first
                        | (exfalso; have := P2.out; have := P3.out; omega)
                        | skip
                          go_wp2_with fail
                          go_meet
                          case rel => exact ⟨by (try rw [decide_eq_false p1]; try rw [decide_eq_true P2.out]; try rw [decide_eq_true P3.out]; try rw [decide_eq_false p4]; rfl), rfl⟩
                  · have y3 : ¬ (n : Int) = 1 := by omega
                    by_cases p4 : 200 < n
                    · have y4 : 200 < (n : Int) := by omega
                      first
                        | (exfalso; have := P2.out; omega)
                        | skip
                          go_wp2_with fail
                          go_meet
                          case rel => exact ⟨by (try rw [decide_eq_false p1]; try rw [decide_eq_true P2.out]; try rw [decide_eq_false p3]; try rw [decide_eq_true p4]; rfl), rfl⟩
                    · have y4 : ¬ 200 < (n : Int) := by omega
                      first
                        | (exfalso; have := P2.out; omega)
                        | skip
                          go_wp2_with fail
                          go_meet
                          case rel => exact ⟨by (try rw [decide_eq_false p1]; try rw [decide_eq_true P2.out]; try rw [decide_eq_false p3]; try rw [decide_eq_false p4]; rfl), rfl⟩
                · have y2 : ¬ k = 5 := by omega
                  by_cases p3 : n = 1
                  · have y3 : ((n : Int) = 1) = True := by simp; omega
                    have z3 : ((n : Int) != 1) = false := by simp; omega
                    have P3 := Lib.hid p3
                    clear p3
                    by_cases p4 : 200 < n
                    · have y4 : 200 < (n : Int) := by omega
                      first
                        | (exfalso; have := P3.out; omega)
                        | skip
                          go_wp2_with fail
                          go_meet
                          case rel => exact ⟨by (try rw [decide_eq_false p1]; try rw [decide_eq_false p2]; try rw [decide_eq_true P3.out]; try rw [decide_eq_true p4]; rfl), rfl⟩
                    · have y4 : ¬ 200 < (n : Int) := by omega
                      first
                        | (exfalso; have := P3.out; omega)
                        | skip
                          go_wp2_with fail
                          go_meet
                          case rel => exact ⟨by (try rw [decide_eq_false p1]; try rw [decide_eq_false p2]; try rw [decide_eq_true P3.out]; try rw [decide_eq_false p4]; rfl), rfl⟩
                  · have y3 : ¬ (n : Int) = 1 := by omega
                    by_cases p4 : 200 < n
                    · have y4 : 200 < (n : Int) := by omega
                      first
                        | (exfalso; omega)
                        | skip
                          go_wp2_with fail
                          go_meet
                          case rel => exact ⟨by (try rw [decide_eq_false p1]; try rw [decide_eq_false p2]; try rw [decide_eq_false p3]; try rw [decide_eq_true p4]; rfl), rfl⟩
                    · have y4 : ¬ 200 < (n : Int) := by omega
                      first
                        | (exfalso; omega)
                        | skip
                          go_wp2_with fail
                          go_meet
                          case rel => exact ⟨by (try rw [decide_eq_false p1]; try rw [decide_eq_false p2]; try rw [decide_eq_false p3]; try rw [decide_eq_false p4]; rfl), rfl⟩
          case rest =>
          obtain ⟨rfl, hw⟩ := hcut
          have hw := hw.symm
          subst hw
          cases hX : ((!hl && decide (0 < n)) || (decide (k = 5) && !decide (n = 1)) || decide (200 < n)) with
          | true =>
            have EE := Lib.hid (show r = false by rw [ME.out, hX]; simp)
            clear hX ME
            go_wp2_with fail
            exact bodyPost_ret (results_tmp rfl _ _ _) rfl ⟨by rw [EE.out]; rfl, HB.out⟩
          | false =>
            rw [hX] at ME
            have hn200 : n ≤ 200 := by simp at hX; omega
            clear hX
            have EE : Hid (r = maySls 0 sl) := Lib.hid (by rw [ME.out]; rfl)
            clear ME
            clear c0 c1 c2 c3 hSz
            go_upto_region 12 with (fail)
            go_wp2_with fail
            go_loopw [7] (fun i wr => ∃ j : Nat, j ≤ n ∧ i = .int .i64 (j : Int) ∧ Below w1.heap.size w1 wr ∧ maySls 0 sl = maySls (prevId sl j) (sl.drop j)) (fun i _ => n - (intOf i).toNat)
            case atStart => exact ⟨0, by omega, rfl, Below.refl _ _, rfl⟩
            case round =>
              obtain ⟨j, hj, rfl, hbr, hst⟩ := hrel
              have HST := Lib.hid hst
              have HBR := Lib.hid hbr
              have c4 : wr.cell? ⟨w.heap.size, 4, none⟩ = some (.slice A n c) := (Q1.out.after hbr).cell 4
              clear hst hbr
              by_cases hlt : j < n
              · skip
                have hji : (j : Int) < (n : Int) := by omega
                obtain ⟨p, off, rfl, hpl, hcell⟩ := HR.out.2.2 (by omega)
                obtain ⟨s, hs⟩ : ∃ s, sl[j]? = some s := ⟨sl[j]'(by have := EX.out; omega), List.getElem?_eq_getElem _⟩
                have hfit := HSL.out _ (List.mem_of_getElem? hs)
                have hat := (slAt hcell hs).after hpl HBR.out
                have hdr : sl.drop j = s :: sl.drop (j + 1) := List.drop_eq_getElem_cons_some hs
                have hmay := fun W => Lib.hid (rmaySl_any s hfit W)
                have hpv : prevId sl (j + 1) = s.id := by unfold prevId; rw [if_neg (by omega), show j + 1 - 1 = j by omega, hs]; rfl
                have hnext : maySl s = true → prevId sl j < s.id → maySls 0 sl = maySls (prevId sl (j + 1)) (sl.drop (j + 1)) := fun h1 h2 => by rw [HST.out, hdr, hpv, maySls, h1, decide_eq_true h2]; rfl
                have hbad : maySl s = false ∨ ¬ prevId sl j < s.id → r = false := fun h => by
                  rw [EE.out, HST.out, hdr, maySls]
                  rcases h with h | h
                  · rw [h]; rfl
                  · rw [decide_eq_false h, Bool.and_false]; rfl
                have hpos : maySl s = true → 1 ≤ s.id := fun h => by unfold maySl at h; simp at h; omega
                obtain ⟨i0, i1, i2, i3, i4⟩ := s
                have hat : At wr p (off + j * 5) [.int .u32 (i0 : Int), .int .u32 (i1 : Int), .int .u32 (i2 : Int), .int .u64 (i3 : Int), .int .u64 (i4 : Int)] := hat
                have hcs : (Sl.mk i0 i1 i2 i3 i4).cells.toArray = #[.int .u32 (i0 : Int), .int .u32 (i1 : Int), .int .u32 (i2 : Int), .int .u64 (i3 : Int), .int .u64 (i4 : Int)] := rfl
                rw [hcs] at hmay
                dsimp only at hpos hnext hbad
                have HAT := Lib.hid hat
                have HNX := Lib.hid hnext
                have HBAD := Lib.hid hbad
                have HPOS := Lib.hid hpos
                have hcl : ∀ k u, (slCells sl)[k]? = some u → w1.cell? ⟨p, off + k, none⟩ = some u := hcell
                have HCL := Lib.hid hcl
                have HPL := Lib.hid hpl
                have CI := Lib.hid (hcl (j * 5 + 0) _ (sl_get hs (k := 0) (v := .int .u32 (i0 : Int)) rfl))
                obtain ⟨hf0, -, -, -, -⟩ := hfit
                dsimp only at hf0
                have H1 := hmay wr
                clear hat hdr hs hcell hcl hpl hpv hnext hbad hpos hcs hmay
                go_wp2_with (first
                  | (refine wpList_value rfl (exec_load_mid rfl rfl HAT.out Tryd.underlying67 rfl (by kernel_rfl)) ?_)
                  | fail)
                refine H1.out.mono ?_
                rintro e w2 ⟨rfl, b2⟩
                have HB2 := Lib.hid (belowGo HBR.out b2)
                cases hms : maySl (Sl.mk i0 i1 i2 i3 i4) with
                | false =>
                  have EE2 := Lib.hid (HBAD.out (Or.inl hms))
                  have hbw := belowGo HB.out HB2.out
                  clear b2 c4
                  go_wp2_with fail
                  exact bodyPost_ret (results_tmp rfl _ _ _) rfl ⟨by rw [EE2.out]; rfl, hbw⟩
                | true =>
                  clear b2 c4
                  have C4 : ∀ W, Below w1.heap.size w1 W → W.cell? ⟨w.heap.size, 4, none⟩ = some (.slice (some ⟨p, off, none⟩) n c) := fun W hW => (Q1.out.after hW).cell 4
                  have CC : ∀ W, Below w1.heap.size w1 W → W.cell? ⟨p, off + j * 5, none⟩ = some (.int .u32 (i0 : Int)) := fun W hW => (hW.cell (p := ⟨p, off + j * 5, none⟩) HPL.out).trans (CI.out)
                  have C4 := Lib.hid C4
                  have CC := Lib.hid CC
                  go_upto_region 17 with (fail)
                  have hcur : Below w1.heap.size w1 w2.drew := ⟨HB2.out.os, HB2.out.tape, HB2.out.output, HB2.out.size, HB2.out.block⟩
                  refine wp_region_plan (fun W => Below w1.heap.size w1 W) [.calms [0, 1, 2, 3, 5, 9, 11, 12], .read 4, .calms [6, 7], .read 8, .read 10, .calms [13, 14], .read 15, .calms [16, 17]] (by kernel_rfl) (by rfl) (by kernel_rfl) (by kernel_rfl) hcur ?_
                  generalize w2.drew = w3 at *
                  by_cases hj0 : j = 0
                  · have hj1 : ¬ 0 < (j : Int) := by omega
                    have HN2 := Lib.hid (HNX.out hms (by rw [hj0]; exact HPOS.out hms))
                    have hud : ∀ b : Bool, (some undef = some (Value.bool b)) = False := fun b => by simp [undef]
                    clear hj0
                    refine plan_calms (by simp [calmRow, need, chk]; rfl) ?_
                    go_wp2_with fail
                    refine plan_skip (by rfl) (by rfl) ?_
                    refine plan_calms (by simp [calmRow, need]; rfl) ?_
                    go_wp2_with fail
                    refine plan_skip2 (some 126) (by rfl) (by rfl) (by rfl) ?_
                    refine plan_skip2 (some 128) (by rfl) (by rfl) (by rfl) ?_
                    refine plan_calms (by simp [calmRow, need]; rfl) ?_
                    go_wp2_with fail
                    refine plan_skip2 (some 133) (by rfl) (by rfl) (by rfl) ?_
                    refine plan_calms (by simp [calmRow, need, chk]; rfl) ?_
                    go_wp2_with fail
                    refine plan_end ?_
                    go_wp2_with fail
                    go_roundw
                    case rel => exact ⟨j + 1, by omega, by go_num, hcur, HN2.out⟩
                    case measure => simp [intOf]; omega
                  · obtain ⟨j1, hj1⟩ : ∃ j1, j = j1 + 1 := ⟨j - 1, by omega⟩
                    have hjp : 0 < (j : Int) := by omega
                    have hjs : (j : Int) - 1 = (j1 : Int) := by omega
                    have hjl : (j1 : Int) < (n : Int) := by omega
                    have hjl2 : j1 < n := by omega
                    obtain ⟨sp, hsp⟩ : ∃ s, sl[j1]? = some s := ⟨sl[j1]'(by have := EX.out; omega), List.getElem?_eq_getElem _⟩
                    have hpid : prevId sl j = sp.id := by unfold prevId; rw [if_neg (by omega), show j - 1 = j1 by omega, hsp]; rfl
                    clear hj1
                    have hfp := (HSL.out _ (List.mem_of_getElem? hsp)).1
                    have CP : ∀ W, Below w1.heap.size w1 W → W.cell? ⟨p, off + j1 * 5, none⟩ = some (.int .u32 (sp.id : Int)) := fun W hW =>
                      (hW.cell (p := ⟨p, off + j1 * 5, none⟩) HPL.out).trans (HCL.out (j1 * 5 + 0) _ (sl_get hsp (k := 0) (v := .int .u32 (sp.id : Int)) rfl))
                    have CP := Lib.hid CP
                    have HPID := Lib.hid hpid
                    obtain ⟨ip, hip⟩ : ∃ x, x = sp.id := ⟨_, rfl⟩
                    rw [← hip] at CP HPID hfp
                    clear hpid hsp hip hj0
                    refine plan_calms (by simp [calmRow, need, chk]; rfl) ?_
                    go_wp2_with fail
                    refine plan_read (by rfl) (.slice (some ⟨p, off, none⟩) n c) (by rfl) (fun W hW => exec_load rfl rfl (by kernel_rfl) (C4.out W hW)) ?_
                    refine plan_calms (by simp [calmRow, need]; rfl) ?_
                    go_wp2_with fail
                    refine plan_read (by rfl) (.int .u32 (i0 : Int)) (by rfl) (fun W hW => exec_load rfl rfl (by kernel_rfl) (CC.out W hW)) ?_
                    refine plan_read (by rfl) (.slice (some ⟨p, off, none⟩) n c) (by rfl) (fun W hW => exec_load rfl rfl (by kernel_rfl) (C4.out W hW)) ?_
                    refine plan_calms (by simp [calmRow, need]; rfl) ?_
                    go_wp2_with fail
                    refine plan_read (by rfl) (.int .u32 (ip : Int)) (by rfl) (fun W hW => exec_load rfl rfl (by kernel_rfl) (CP.out W hW)) ?_
                    refine plan_calms (by simp [calmRow, need, chk]; rfl) ?_
                    by_cases hlti : ip < i0
                    · have hli : ¬ (i0 : Int) ≤ (ip : Int) := by omega
                      have HN2 := Lib.hid (HNX.out hms (by rw [HPID.out]; exact hlti))
                      go_wp2_with fail
                      refine plan_end ?_
                      go_wp2_with fail
                      go_roundw
                      case rel => exact ⟨j + 1, by omega, by go_num, hcur, HN2.out⟩
                      case measure => simp [intOf]; omega
                    · have hli : (i0 : Int) ≤ (ip : Int) := by omega
                      have EE2 := Lib.hid (HBAD.out (Or.inr (by rw [HPID.out]; exact hlti)))
                      have hbw := belowGo HB.out hcur
                      go_wp2_with fail
                      refine plan_end ?_
                      go_wp2_with fail
                      exact bodyPost_ret (results_tmp rfl _ _ _) rfl ⟨by rw [EE2.out]; rfl, hbw⟩
              · obtain rfl : j = n := by omega
                have hji : ¬ (j : Int) < (j : Int) := by omega
                have ee : r = true := by rw [EE.out, HST.out, List.drop_of_length_le (by have := EX.out; omega)]; rfl
                have EE2 := Lib.hid ee
                have hbw := belowGo HB.out HBR.out
                clear ee
                go_wp2_with fail
                exact bodyPost_ret (results_tmp rfl _ _ _) rfl ⟨by rw [EE2.out]; rfl, hbw⟩
theorem rmayEd_any (d : Ed) (h1 : d.seq < 18446744073709551616) (h2 : d.id < 4294967296) (h3 : d.name.length ≤ 1000000000000) (h4 : ∀ s ∈ d.seals, s.fits) (A : Option Addr) (n c : Nat) (w : World) (hn : d.seals.length = n) (hr : Rd w w.heap.size 5 A n (slCells d.seals)) (hnc : n ≤ c) :
    Calls Tryd.prog 40 #[.agg (edC d ⟨d.name.toArray⟩ (.slice A n c))] w fun e w' => e = .returned (.bool (mayEd d)) ∧ Below w.heap.size w w' := by
  obtain ⟨k, nm, seq, id, sl⟩ := d
  exact rmayE_any k nm _ rfl seq id sl A n c w hn h1 h2 h3 h4 hr hnc
end Go.Proofs.YtmahadcohnhdkaaDoor

namespace Go.Proofs.YtmahadcohnhdkaaDoor
open Go.RowKit
attribute [local go_sem] Oper.semAt_some

def opt (b : Bool) (l : List UInt8) : List UInt8 := match b with | true => l | false => []
/-- the bytes so far -/
def RPut (w : World) (E : Array Value) (L : List UInt8) (v : Value) (wx : World) : Prop :=
  ∃ A m c, v = .slice A m c ∧ m = L.length ∧ Ow wx w.heap.size 5 1 (.slice A m c) m (bcells L) ∧ Blk wx w.heap.size 29 E ∧ Below w.heap.size w wx
theorem RPut.same {w wx : World} {E : Array Value} {L L' : List UInt8} {v : Value} (h : RPut w E L v wx) (e : L' = L) : RPut w E L' v wx := by subst e; exact h
def RetPutR (w : World) (d : Ed) (e : Ending) (w' : World) : Prop :=
  ∃ v, e = .returned (.tuple #[v, .int .i64 (if mayEd d then 0 else 1)]) ∧ w'.ownsRow w.heap.size 5 1 v (if mayEd d then edB d else []).length (bcells (if mayEd d then edB d else [])) ∧ Below w.heap.size w w'
theorem mayEd_bounds {d : Ed} (h : mayEd d = true) : d.name.length ≤ 32 ∧ d.seals.length ≤ 200 := by
  unfold mayEd at h
  simp only [Bool.and_eq_true] at h
  obtain ⟨⟨⟨⟨⟨⟨⟨⟨_, _⟩, _⟩, h1⟩, _⟩, _⟩, _⟩, h2⟩, _⟩ := h
  refine ⟨?_, by simpa using h2⟩
  split at h1
  · simp at h1; omega
  · simp at h1; simp [h1]
theorem mayEd_sls {d : Ed} (h : mayEd d = true) : maySls 0 d.seals = true := by
  unfold mayEd at h
  simp only [Bool.and_eq_true] at h
  exact h.2
theorem maySls_sub {l : List Sl} {p : Nat} (h : maySls p l = true) {s : Sl} (hs : s ∈ l) : 0 < s.many → s.first ≤ s.last := fun h0 => by
  have := maySls_mem h s hs
  unfold maySl at this
  rw [if_neg (by omega)] at this
  simp at this
  omega
theorem isKind_of' {d : Ed} (h : mayEd d = true) : 1 ≤ d.kind ∧ d.kind ≤ 6 := by
  unfold mayEd at h
  simp only [Bool.and_eq_true] at h
  obtain ⟨⟨⟨⟨⟨⟨⟨⟨h1, _⟩, _⟩, _⟩, _⟩, _⟩, _⟩, _⟩, _⟩ := h
  unfold isKind at h1
  simp at h1
  exact h1
theorem edB_cut (k : Int) (nm : List UInt8) (seq id : Nat) (sl : List Sl) : edB ⟨k, nm, seq, id, sl⟩ = [UInt8.ofNat k.toNat] ++ opt (hasSeq k) (pform seq) ++ opt (hasName k) (pform nm.length ++ nm) ++ opt (hasId k) (pform id) ++ opt (decide (k = 6)) (pform sl.length) ++ sl.flatMap slB := by
  unfold edB
  dsimp only
  cases hasSeq k <;> cases hasName k <;> cases hasId k <;> by_cases h : k = 6 <;> simp [h, opt]
theorem slB_cut (i0 i1 i2 i3 i4 : Nat) : slB (Sl.mk i0 i1 i2 i3 i4) = pform i0 ++ pform i1 ++ pform i2 ++ opt (decide (0 < i2)) (pform i3 ++ pform (i4 - i3)) := by
  unfold slB
  by_cases h : i2 = 0
  · subst h; rfl
  · have : 0 < i2 := by omega
    simp [h, this, opt]

set_option maxRecDepth 100000 in
set_option maxHeartbeats 8000000 in
theorem rputE_yes (k : Int) (nm : List UInt8) (S : ByteArray) (hS : S = ⟨nm.toArray⟩) (seq id : Nat) (sl : List Sl) (A : Option Addr) (n c : Nat) (w : World) (hn : sl.length = n) (hfit : Ed.fits ⟨k, nm, seq, id, sl⟩)
    (hr : Rd w w.heap.size 5 A n (slCells sl)) (hnc : n ≤ c) (hm : mayEd ⟨k, nm, seq, id, sl⟩ = true) :
    Calls Tryd.prog 21 #[.agg #[.int .i64 k, .string S, .int .u64 (seq : Int), .int .u32 (id : Int), .slice A n c]] w fun e w' => ∃ v, e = .returned (.tuple #[v, .int .i64 0]) ∧ w'.ownsRow w.heap.size 5 1 v (edB ⟨k, nm, seq, id, sl⟩).length (bcells (edB ⟨k, nm, seq, id, sl⟩)) ∧ Below w.heap.size w w' := by
  have hSz : S.size = nm.length := by rw [hS]; simp [ByteArray.size]
  have hSS : Lib.strCells S = bcells nm := by rw [hS]; rfl
  obtain ⟨f1, f2, f3, f4⟩ := hfit
  dsimp only at f1 f2 f3 f4
  have hk := isKind_of' hm
  have hb0 := mayEd_bounds hm
  dsimp only at hk hb0
  obtain ⟨z1, z2⟩ := hb0
  have q1 := Blk.new w 29 #[.int .i64 k, .string S, .int .u64 (seq : Int), .int .u32 (id : Int), .slice A n c]
  have hb := (Below.refl w.heap.size w).alloc (Nat.le_refl _) (.cells #[.int .i64 k, .string S, .int .u64 (seq : Int), .int .u32 (id : Int), .slice A n c] 29)
  have HMS := Lib.hid (mayEd_sls hm)
  have MA := rmayE_any k nm S hS seq id sl A n c (w.alloc (.cells #[.int .i64 k, .string S, .int .u64 (seq : Int), .int .u32 (id : Int), .slice A n c] 29)) hn f1 f2 f3 f4 ((hr.below hb (Nat.le_refl _)).more hb.size) hnc
  rw [hm] at MA
  have MA := Lib.hid MA
  have PA := fun W => Lib.hid (rparts_any k W)
  unfold partsV at PA
  obtain ⟨hs, h1⟩ : ∃ h, h = hasSeq k := ⟨_, rfl⟩
  obtain ⟨hq, h2⟩ : ∃ h, h = hasName k := ⟨_, rfl⟩
  obtain ⟨hi, h3⟩ : ∃ h, h = hasId k := ⟨_, rfl⟩
  obtain ⟨hl, h4⟩ : ∃ h, h = hasSeals k := ⟨_, rfl⟩
  obtain ⟨h6, h5⟩ : ∃ h, h = decide (k = 6) := ⟨_, rfl⟩
  have hed := edB_cut k nm seq id sl
  rw [← h1, ← h2, ← h3, ← h5, hn] at hed
  rw [← h1, ← h2, ← h3, ← h4] at PA
  have k6 : (k == 6) = h6 := h5.symm
  rw [hn] at z2
  have HK := Lib.hid hk
  obtain ⟨kn, hkn⟩ : ∃ x : Nat, x = k.toNat := ⟨_, rfl⟩
  have hkk : k = (kn : Int) := by omega
  have hk6 : kn ≤ 6 := by omega
  have HHR := Lib.hid hr
  have F4 := Lib.hid f4
  obtain ⟨D, hD⟩ : ∃ D, D = edB ⟨k, nm, seq, id, sl⟩ := ⟨_, rfl⟩
  rw [← hD] at hed ⊢
  have HED := Lib.hid hed
  have HSS := Lib.hid hSS
  have HSL := Lib.hid hn
  clear h1 h2 h3 h4 h5 hk hed hm hr f4 hS hSS hD hn
  subst hkk
  rw [show ((kn : Int)).toNat = kn from rfl] at HED
  clear hkn
  go_enter Tryd.func21, Tryd.ntmps21
  go_upto_region 1 with (fail)
  generalize w.alloc (.cells #[.int .i64 (kn : Int), .string S, .int .u64 (seq : Int), .int .u32 (id : Int), .slice A n c] 29) = w1 at *
  have Q1 := Lib.hid q1
  have HB := Lib.hid hb
  go_wp2_with (first
    | (refine wpList_value rfl (exec_load_blk rfl rfl Q1.out Tryd.underlying29 rfl (by kernel_rfl)) ?_)
    | fail)
  refine MA.out.mono ?_
  rintro e w2 ⟨rfl, b2⟩
  have HB := Lib.hid (belowGo HB.out b2)
  have Q1 := Lib.hid (Q1.out.after b2)
  clear q1 hb b2 MA
  have PA2 := PA (w2.alloc (.cells #[.int .u8 (kn : Int)] 5))
  have c0 : w2.cell? ⟨w.heap.size, 0, none⟩ = some (.int .i64 (kn : Int)) := Q1.out.cell 0
  have hu8 : IntKind.u8.wrap (kn : Int) = (kn : Int) := by rw [IntKind.wrap_u8]; omega
  have hbc : bcells [UInt8.ofNat kn] = [.int .u8 (kn : Int)] := by
    have : (UInt8.ofNat kn).toNat = kn := by rw [UInt8.toNat_ofNat']; omega
    unfold bcells
    simp [this]
  go_upto_region 4 with (fail)
  have ol : Ow (w2.alloc (.cells #[.int .u8 (kn : Int)] 5)) w.heap.size 5 1 (.slice (some ⟨w2.heap.size, 0, none⟩) 1 1) 1 (bcells [UInt8.ofNat kn]) := by
    rw [hbc]
    exact own_lit1 w2 5 #[.int .u8 (kn : Int)] 1 HB.out.size rfl (by unfold maxLen; omega)
  have Q1 := Lib.hid (Q1.out.alloc (.cells #[.int .u8 (kn : Int)] 5))
  have HB := Lib.hid (HB.out.alloc HB.out.size (.cells #[.int .u8 (kn : Int)] 5))
  have O : Hid (Ow _ _ _ _ _ _ _) := Lib.hid ol
  generalize hwa : w2.alloc (.cells #[.int .u8 (kn : Int)] 5) = wa at *
  have HPA := fun W => PA W
  clear hwa c0 hbc ol hu8 PA
  obtain ⟨A0, hA0⟩ : ∃ A0 : Option Addr, A0 = some ⟨w2.heap.size, 0, none⟩ := ⟨_, rfl⟩
  rw [← hA0] at O ⊢
  clear hA0
  have c0 : wa.cell? ⟨w.heap.size, 0, none⟩ = some (.int .i64 (kn : Int)) := Q1.out.cell 0
  go_wp2_with fail
  refine PA2.out.mono ?_
  rintro e w3 ⟨rfl, rfl⟩
  clear PA2 c0
  obtain ⟨L0, hL0⟩ : ∃ L, L = [UInt8.ofNat kn] := ⟨_, rfl⟩
  rw [← hL0] at O HED
  have l0 : 1 = L0.length := by rw [hL0]; rfl
  have LL0 := Lib.hid l0
  clear hL0 l0
  have c0 : wa.cell? ⟨w.heap.size, 0, none⟩ = some (.int .i64 (kn : Int)) := Q1.out.cell 0
  go_upto_if 26 with (fail)
  go_cut [4] from 26 to 30 (fun v wx => RPut w #[.int .i64 (kn : Int), .string S, .int .u64 (seq : Int), .int .u32 (id : Int), .slice A n c] (L0 ++ opt hs (pform seq)) v wx)
  case first =>
    have c0 : wa.cell? ⟨w.heap.size, 0, none⟩ = some (.int .i64 (kn : Int)) := Q1.out.cell 0
    have c1 : wa.cell? ⟨w.heap.size, 1, none⟩ = some (.string S) := Q1.out.cell 1
    have c2 : wa.cell? ⟨w.heap.size, 2, none⟩ = some (.int .u64 (seq : Int)) := Q1.out.cell 2
    have c3 : wa.cell? ⟨w.heap.size, 3, none⟩ = some (.int .u32 (id : Int)) := Q1.out.cell 3
    have c4 : wa.cell? ⟨w.heap.size, 4, none⟩ = some (.slice A n c) := Q1.out.cell 4
    cases hs with
    | false =>
      go_wp2_with fail
      go_meet
      case rel => exact ⟨_, _, _, rfl, by show _ = (L0 ++ []).length; rw [List.append_nil]; exact LL0.out, by show Ow _ _ _ _ _ _ (bcells (L0 ++ [])); rw [List.append_nil]; exact O.out, Q1.out, HB.out⟩
    | true =>
      have N := Lib.hid (rput_any L0 A0 1 1 seq f1 wa (Ow.rd O.out) (by omega))
      go_wp2_with fail
      refine N.out.mono ?_
      rintro e x1 ⟨v, rfl, ox, bx⟩
      have Q1 := Lib.hid (Q1.out.after bx)
      have LOW := Lib.hid HB.out.size
      have HB := Lib.hid (belowGo HB.out bx)
      obtain ⟨Axx1, cxx1, rfl, -⟩ := own_cap ox
      have O : Hid (Ow _ _ _ _ _ _ _) := Lib.hid (own_low ox LOW.out)
      clear ox bx N LOW
      go_wp2_with fail
      go_meet
      case rel => exact ⟨_, _, _, rfl, by show _ = (L0 ++ pform seq).length; rw [List.length_append, pform_len, ← LL0.out], O.out, Q1.out, HB.out⟩
  case rest =>
  obtain ⟨A1, m1, d1, rfl, l1, o, q1, hb⟩ := hcut
  have lb1 : m1 ≤ 1 + 9 := by
    have := LL0.out
    rw [l1, List.length_append]
    cases hs
    · show _ + 0 ≤ _; omega
    · show _ + (pform seq).length ≤ _; simp only [pform_len]; have := psize_le (seq); omega
  have Q1 := Lib.hid q1
  have HB := Lib.hid hb
  have O : Hid (Ow _ _ _ _ _ _ _) := Lib.hid o
  obtain ⟨L1, hL1⟩ : ∃ L, L = L0 ++ opt hs (pform seq) := ⟨_, rfl⟩
  rw [← hL1] at O l1 HED
  have LL1 := Lib.hid l1
  have HL1 := Lib.hid hL1
  clear o q1 hb hL1 l1
  go_upto_if 31 with (fail)
  go_cut [4] from 31 to 41 (fun v wx => RPut w #[.int .i64 (kn : Int), .string S, .int .u64 (seq : Int), .int .u32 (id : Int), .slice A n c] (L1 ++ opt hq (pform nm.length ++ nm)) v wx)
  case first =>
    have c0 : wc.cell? ⟨w.heap.size, 0, none⟩ = some (.int .i64 (kn : Int)) := Q1.out.cell 0
    have c1 : wc.cell? ⟨w.heap.size, 1, none⟩ = some (.string S) := Q1.out.cell 1
    have c2 : wc.cell? ⟨w.heap.size, 2, none⟩ = some (.int .u64 (seq : Int)) := Q1.out.cell 2
    have c3 : wc.cell? ⟨w.heap.size, 3, none⟩ = some (.int .u32 (id : Int)) := Q1.out.cell 3
    have c4 : wc.cell? ⟨w.heap.size, 4, none⟩ = some (.slice A n c) := Q1.out.cell 4
    cases hq with
    | false =>
      go_wp2_with fail
      go_meet
      case rel => exact ⟨_, _, _, rfl, by show _ = (L1 ++ []).length; rw [List.append_nil]; exact LL1.out, by show Ow _ _ _ _ _ _ (bcells (L1 ++ [])); rw [List.append_nil]; exact O.out, Q1.out, HB.out⟩
    | true =>
      have N := Lib.hid (rput_any L1 A1 m1 d1 nm.length (by omega) wc (Ow.rd O.out) (by omega))
      go_wp2_with fail
      refine N.out.mono ?_
      rintro e x1 ⟨v, rfl, ox, bx⟩
      have Q1 := Lib.hid (Q1.out.after bx)
      have LOW := Lib.hid HB.out.size
      have HB := Lib.hid (belowGo HB.out bx)
      obtain ⟨Axx1, cxx1, rfl, -⟩ := own_cap ox
      have O : Hid (Ow _ _ _ _ _ _ _) := Lib.hid (own_low ox LOW.out)
      clear ox bx N LOW
      obtain ⟨i0, hi0, hz0, hz1, hz2⟩ := info_parts Tryd.infoU8
      have HBS := Lib.hid HB.out.size
      have hps := psize_le nm.length
      have c1 : x1.cell? ⟨w.heap.size, 1, none⟩ = some (.string S) := Q1.out.cell 1
      clear c0 c2 c3 c4
      go_wp2_with (first
        | (at_builtin; refine Lib.wpList_append_own_string (P := Tryd.prog) (w := x1) rfl _ _ 32 9 rfl w.heap.size 5 i0 Tryd.underlying32 Tryd.underlying9 hi0 hz0 hz1 hz2 _ (m1 + psize nm.length) _ rfl O.out S rfl (by unfold maxLen; omega) (by omega) HBS.out ?_; intro v x2 ox gx _; have Q1 := Lib.hid (Q1.out.grownT O.out (by decide) gx); have HB := Lib.hid (below_of_grown HB.out HB.out.size O.out gx); have OX : Hid (Ow x2 w.heap.size 5 1 v ((m1 + psize nm.length) + nm.length) (bcells ((L1 ++ pform nm.length) ++ nm))) := Lib.hid (by rw [bcells_append, ← HSS.out]; first | exact ox | (rw [hSz] at ox; exact ox)); clear ox gx)
        | fail)
      obtain ⟨A2, e2, rfl, -⟩ := own_cap OX.out
      go_wp2_with fail
      go_meet
      case rel => exact ⟨_, _, _, rfl, by show _ = (L1 ++ (pform nm.length ++ nm)).length; rw [List.length_append, List.length_append, pform_len, ← LL1.out, Nat.add_assoc], by show Ow _ _ _ _ _ _ (bcells (L1 ++ (pform nm.length ++ nm))); rw [← List.append_assoc]; exact OX.out, Q1.out, HB.out⟩
  case rest =>
  obtain ⟨A2, m2, d2, rfl, l2, o, q1, hb⟩ := hcut
  have lb2 : m2 ≤ m1 + 41 := by
    have := LL1.out
    rw [l2, List.length_append]
    cases hq
    · show _ + 0 ≤ _; omega
    · show _ + (pform nm.length ++ nm).length ≤ _; simp only [List.length_append, pform_len]; have := psize_le (nm.length); omega
  have Q1 := Lib.hid q1
  have HB := Lib.hid hb
  have O : Hid (Ow _ _ _ _ _ _ _) := Lib.hid o
  obtain ⟨L2, hL2⟩ : ∃ L, L = L1 ++ opt hq (pform nm.length ++ nm) := ⟨_, rfl⟩
  rw [← hL2] at O l2 HED
  have LL2 := Lib.hid l2
  have HL2 := Lib.hid hL2
  clear o q1 hb hL2 l2
  go_upto_if 42 with (fail)
  go_cut [4] from 42 to 47 (fun v wx => RPut w #[.int .i64 (kn : Int), .string S, .int .u64 (seq : Int), .int .u32 (id : Int), .slice A n c] (L2 ++ opt hi (pform id)) v wx)
  case first =>
    have c0 : wc.cell? ⟨w.heap.size, 0, none⟩ = some (.int .i64 (kn : Int)) := Q1.out.cell 0
    have c1 : wc.cell? ⟨w.heap.size, 1, none⟩ = some (.string S) := Q1.out.cell 1
    have c2 : wc.cell? ⟨w.heap.size, 2, none⟩ = some (.int .u64 (seq : Int)) := Q1.out.cell 2
    have c3 : wc.cell? ⟨w.heap.size, 3, none⟩ = some (.int .u32 (id : Int)) := Q1.out.cell 3
    have c4 : wc.cell? ⟨w.heap.size, 4, none⟩ = some (.slice A n c) := Q1.out.cell 4
    cases hi with
    | false =>
      go_wp2_with fail
      go_meet
      case rel => exact ⟨_, _, _, rfl, by show _ = (L2 ++ []).length; rw [List.append_nil]; exact LL2.out, by show Ow _ _ _ _ _ _ (bcells (L2 ++ [])); rw [List.append_nil]; exact O.out, Q1.out, HB.out⟩
    | true =>
      have N := Lib.hid (rput_any L2 A2 m2 d2 id (by omega) wc (Ow.rd O.out) (by omega))
      go_wp2_with fail
      refine N.out.mono ?_
      rintro e x1 ⟨v, rfl, ox, bx⟩
      have Q1 := Lib.hid (Q1.out.after bx)
      have LOW := Lib.hid HB.out.size
      have HB := Lib.hid (belowGo HB.out bx)
      obtain ⟨Axx1, cxx1, rfl, -⟩ := own_cap ox
      have O : Hid (Ow _ _ _ _ _ _ _) := Lib.hid (own_low ox LOW.out)
      clear ox bx N LOW
      go_wp2_with fail
      go_meet
      case rel => exact ⟨_, _, _, rfl, by show _ = (L2 ++ pform id).length; rw [List.length_append, pform_len, ← LL2.out], O.out, Q1.out, HB.out⟩
  case rest =>
  obtain ⟨A3, m3, d3, rfl, l3, o, q1, hb⟩ := hcut
  have lb3 : m3 ≤ m2 + 9 := by
    have := LL2.out
    rw [l3, List.length_append]
    cases hi
    · show _ + 0 ≤ _; omega
    · show _ + (pform id).length ≤ _; simp only [pform_len]; have := psize_le (id); omega
  have Q1 := Lib.hid q1
  have HB := Lib.hid hb
  have O : Hid (Ow _ _ _ _ _ _ _) := Lib.hid o
  obtain ⟨L3, hL3⟩ : ∃ L, L = L2 ++ opt hi (pform id) := ⟨_, rfl⟩
  rw [← hL3] at O l3 HED
  have LL3 := Lib.hid l3
  have HL3 := Lib.hid hL3
  clear o q1 hb hL3 l3
  have c0 : wc.cell? ⟨w.heap.size, 0, none⟩ = some (.int .i64 (kn : Int)) := Q1.out.cell 0
  go_upto_if 50 with (fail)
  go_cut [4] from 50 to 56 (fun v wx => RPut w #[.int .i64 (kn : Int), .string S, .int .u64 (seq : Int), .int .u32 (id : Int), .slice A n c] (L3 ++ opt h6 (pform n)) v wx)
  case first =>
    have c0 : wc.cell? ⟨w.heap.size, 0, none⟩ = some (.int .i64 (kn : Int)) := Q1.out.cell 0
    have c1 : wc.cell? ⟨w.heap.size, 1, none⟩ = some (.string S) := Q1.out.cell 1
    have c2 : wc.cell? ⟨w.heap.size, 2, none⟩ = some (.int .u64 (seq : Int)) := Q1.out.cell 2
    have c3 : wc.cell? ⟨w.heap.size, 3, none⟩ = some (.int .u32 (id : Int)) := Q1.out.cell 3
    have c4 : wc.cell? ⟨w.heap.size, 4, none⟩ = some (.slice A n c) := Q1.out.cell 4
    cases h6 with
    | false =>
      go_wp2_with fail
      go_meet
      case rel => exact ⟨_, _, _, rfl, by show _ = (L3 ++ []).length; rw [List.append_nil]; exact LL3.out, by show Ow _ _ _ _ _ _ (bcells (L3 ++ [])); rw [List.append_nil]; exact O.out, Q1.out, HB.out⟩
    | true =>
      have N := Lib.hid (rput_any L3 A3 m3 d3 n (by omega) wc (Ow.rd O.out) (by omega))
      go_wp2_with fail
      refine N.out.mono ?_
      rintro e x1 ⟨v, rfl, ox, bx⟩
      have Q1 := Lib.hid (Q1.out.after bx)
      have LOW := Lib.hid HB.out.size
      have HB := Lib.hid (belowGo HB.out bx)
      obtain ⟨Axx1, cxx1, rfl, -⟩ := own_cap ox
      have O : Hid (Ow _ _ _ _ _ _ _) := Lib.hid (own_low ox LOW.out)
      clear ox bx N LOW
      go_wp2_with fail
      go_meet
      case rel => exact ⟨_, _, _, rfl, by show _ = (L3 ++ pform n).length; rw [List.length_append, pform_len, ← LL3.out], O.out, Q1.out, HB.out⟩
  case rest =>
  obtain ⟨A4, m4, d4, rfl, l4, o, q1, hb⟩ := hcut
  have lb4 : m4 ≤ m3 + 9 := by
    have := LL3.out
    rw [l4, List.length_append]
    cases h6
    · show _ + 0 ≤ _; omega
    · show _ + (pform n).length ≤ _; simp only [pform_len]; have := psize_le (n); omega
  have Q1 := Lib.hid q1
  have HB := Lib.hid hb
  have O : Hid (Ow _ _ _ _ _ _ _) := Lib.hid o
  obtain ⟨L4, hL4⟩ : ∃ L, L = L3 ++ opt h6 (pform n) := ⟨_, rfl⟩
  rw [← hL4] at O l4 HED
  have LL4 := Lib.hid l4
  have HL4 := Lib.hid hL4
  clear o q1 hb hL4 l4
  have hL4 : L4.length ≤ 100 := by have := LL4.out; omega
  clear lb1 lb2 lb3 lb4 c0
  go_upto_region 14 with (fail)
  go_wp2_with fail
  go_loopw [4, 9] (fun v i wr => ∃ j : Nat, j ≤ n ∧ i = .int .i64 (j : Int) ∧ RPut w #[.int .i64 (kn : Int), .string S, .int .u64 (seq : Int), .int .u32 (id : Int), .slice A n c] (L4 ++ (sl.take j).flatMap slB) v wr) (fun _ i _ => n - (intOf i).toNat)
  case atStart => exact ⟨0, Nat.zero_le _, rfl, _, _, _, rfl, by simp; exact LL4.out, by simp; exact O.out, Q1.out, HB.out⟩
  case round =>
    obtain ⟨j, hj, rfl, Ab, mb, cb, rfl, hmb, o, q1, hb⟩ := hrel
    have Q1 := Lib.hid q1
    have HB := Lib.hid hb
    have O : Hid (Ow _ _ _ _ _ _ _) := Lib.hid o
    clear q1 hb o
    have c4 : wr.cell? ⟨w.heap.size, 4, none⟩ = some (.slice A n c) := Q1.out.cell 4
    by_cases hlt : j < n
    · skip
      have hji : (j : Int) < (n : Int) := by omega
      obtain ⟨p, off, rfl, hpl, hcell⟩ := HHR.out.2.2 (by omega)
      obtain ⟨s, hs⟩ : ∃ s, sl[j]? = some s := ⟨sl[j]'(by have := HSL.out; omega), List.getElem?_eq_getElem _⟩
      have hfit := F4.out _ (List.mem_of_getElem? hs)
      have hat := (slAt hcell hs).after hpl HB.out
      have hls : slB s = pform s.id ++ pform s.size ++ pform s.many ++ opt (decide (0 < s.many)) (pform s.first ++ pform (s.last - s.first)) := slB_cut _ _ _ _ _
      have htk : (sl.take (j + 1)).flatMap slB = (sl.take j).flatMap slB ++ slB s := by rw [List.take_add_one, hs, List.flatMap_append]; simp
      have hlb := slBs_len (sl.take j)
      have hlt2 : (sl.take j).length ≤ 200 := by rw [List.length_take]; omega
      have hsub := maySls_sub HMS.out (List.mem_of_getElem? hs)
      obtain ⟨i0, i1, i2, i3, i4⟩ := s
      obtain ⟨f0, f1', f2', f3', f4'⟩ := hfit
      dsimp only at f0 f1' f2' f3' f4' hls hsub
      have hat : At wr p (off + j * 5) [.int .u32 (i0 : Int), .int .u32 (i1 : Int), .int .u32 (i2 : Int), .int .u64 (i3 : Int), .int .u64 (i4 : Int)] := hat
      obtain ⟨Lj, hLj⟩ : ∃ L, L = L4 ++ (sl.take j).flatMap slB := ⟨_, rfl⟩
      have hbj : mb ≤ 10000 := by rw [hmb, List.length_append]; omega
      rw [← hLj] at O hmb
      have HLN : Hid (L4 ++ (sl.take (j + 1)).flatMap slB = Lj ++ (pform i0 ++ pform i1 ++ pform i2 ++ opt (decide (0 < i2)) (pform i3 ++ pform (i4 - i3)))) := Lib.hid (by rw [htk, hls, hLj, List.append_assoc L4])
      have HMB := Lib.hid hmb
      have HAT := Lib.hid hat
      clear hcell hs hat hls htk hlb hlt2 hLj hmb
      have qs := Blk.new wr 67 #[.int .u32 (i0 : Int), .int .u32 (i1 : Int), .int .u32 (i2 : Int), .int .u64 (i3 : Int), .int .u64 (i4 : Int)]
      go_upto_region 18 with (first
        | (refine wpList_value rfl (exec_load_mid rfl rfl HAT.out Tryd.underlying67 rfl (by kernel_rfl)) ?_)
        | fail)
      have Q1 := Lib.hid (Q1.out.alloc (.cells #[.int .u32 (i0 : Int), .int .u32 (i1 : Int), .int .u32 (i2 : Int), .int .u64 (i3 : Int), .int .u64 (i4 : Int)] 67))
      have O : Hid (Ow _ _ _ _ _ _ _) := Lib.hid (Ow.alloc O.out (.cells #[.int .u32 (i0 : Int), .int .u32 (i1 : Int), .int .u32 (i2 : Int), .int .u64 (i3 : Int), .int .u64 (i4 : Int)] 67))
      have HB := Lib.hid (HB.out.alloc HB.out.size (.cells #[.int .u32 (i0 : Int), .int .u32 (i1 : Int), .int .u32 (i2 : Int), .int .u64 (i3 : Int), .int .u64 (i4 : Int)] 67))
      have QS := Lib.hid qs
      obtain ⟨gs, hgs⟩ : ∃ g, g = wr.heap.size := ⟨_, rfl⟩
      rw [← hgs] at QS ⊢
      generalize wr.alloc (.cells #[.int .u32 (i0 : Int), .int .u32 (i1 : Int), .int .u32 (i2 : Int), .int .u64 (i3 : Int), .int .u64 (i4 : Int)] 67) = wa at *
      clear qs hgs c4
      have s0 : wa.cell? ⟨gs, 0, none⟩ = some (.int .u32 (i0 : Int)) := QS.out.cell 0
      have N := Lib.hid (rput_any Lj Ab mb cb i0 (by omega) wa (Ow.rd O.out) (by omega))
      go_wp2_with fail
      refine N.out.mono ?_
      rintro e x1 ⟨v, rfl, ox, bx⟩
      have QS := Lib.hid (QS.out.after bx)
      have Q1 := Lib.hid (Q1.out.after bx)
      have LOW := Lib.hid HB.out.size
      have HB := Lib.hid (belowGo HB.out bx)
      obtain ⟨Axx1, cxx1, rfl, -⟩ := own_cap ox
      have O : Hid (Ow _ _ _ _ _ _ _) := Lib.hid (own_low ox LOW.out)
      clear ox bx N LOW
      clear s0
      have pb1 := psize_le (i0)
      have s1 : x1.cell? ⟨gs, 1, none⟩ = some (.int .u32 (i1 : Int)) := QS.out.cell 1
      have N := Lib.hid (rput_any (Lj ++ pform i0) Axx1 (mb + psize i0) cxx1 i1 (by omega) x1 (Ow.rd O.out) (by omega))
      go_wp2_with fail
      refine N.out.mono ?_
      rintro e x2 ⟨v, rfl, ox, bx⟩
      have QS := Lib.hid (QS.out.after bx)
      have Q1 := Lib.hid (Q1.out.after bx)
      have LOW := Lib.hid HB.out.size
      have HB := Lib.hid (belowGo HB.out bx)
      obtain ⟨Axx2, cxx2, rfl, -⟩ := own_cap ox
      have O : Hid (Ow _ _ _ _ _ _ _) := Lib.hid (own_low ox LOW.out)
      clear ox bx N LOW
      clear s1
      have pb2 := psize_le (i1)
      have s2 : x2.cell? ⟨gs, 2, none⟩ = some (.int .u32 (i2 : Int)) := QS.out.cell 2
      have N := Lib.hid (rput_any ((Lj ++ pform i0) ++ pform i1) Axx2 ((mb + psize i0) + psize i1) cxx2 i2 (by omega) x2 (Ow.rd O.out) (by omega))
      go_wp2_with fail
      refine N.out.mono ?_
      rintro e x3 ⟨v, rfl, ox, bx⟩
      have QS := Lib.hid (QS.out.after bx)
      have Q1 := Lib.hid (Q1.out.after bx)
      have LOW := Lib.hid HB.out.size
      have HB := Lib.hid (belowGo HB.out bx)
      obtain ⟨Axx3, cxx3, rfl, -⟩ := own_cap ox
      have O : Hid (Ow _ _ _ _ _ _ _) := Lib.hid (own_low ox LOW.out)
      clear ox bx N LOW
      clear s2
      have pb3 := psize_le (i2)
      have s2 : x3.cell? ⟨gs, 2, none⟩ = some (.int .u32 (i2 : Int)) := QS.out.cell 2
      by_cases hz : i2 = 0
      · skip
        have hzi : ¬ 0 < (i2 : Int) := by omega
        have HLN2 : Hid (L4 ++ (sl.take (j + 1)).flatMap slB = (((Lj ++ pform i0) ++ pform i1) ++ pform i2)) := Lib.hid (by rw [HLN.out, hz]; simp [opt])
        clear hz HLN
        go_wp2_with fail
        go_roundw
        case rel => exact ⟨j + 1, by omega, by go_num, _, _, _, rfl, by rw [HLN2.out]; simp only [List.length_append, pform_len, ← HMB.out], by rw [HLN2.out]; exact O.out, Q1.out, HB.out⟩
        case measure => simp [intOf]; omega
      · skip
        have hzi : 0 < (i2 : Int) := by omega
        have hle := hsub (by omega)
        obtain ⟨df, hdf⟩ : ∃ d, d = i4 - i3 := ⟨_, rfl⟩
        have hdi : (i4 : Int) - (i3 : Int) = (df : Int) := by omega
        have hdl : df < 18446744073709551616 := by omega
        have HLN2 : Hid (L4 ++ (sl.take (j + 1)).flatMap slB = (((Lj ++ pform i0) ++ pform i1) ++ pform i2) ++ pform i3 ++ pform df) := Lib.hid (by rw [HLN.out, hdf, decide_eq_true (by omega)]; simp [opt])
        clear hz HLN hdf hle
        have s3 : x3.cell? ⟨gs, 3, none⟩ = some (.int .u64 (i3 : Int)) := QS.out.cell 3
        have N := Lib.hid (rput_any (((Lj ++ pform i0) ++ pform i1) ++ pform i2) Axx3 (((mb + psize i0) + psize i1) + psize i2) cxx3 i3 (by omega) x3 (Ow.rd O.out) (by omega))
        go_wp2_with fail
        refine N.out.mono ?_
        rintro e x4 ⟨v, rfl, ox, bx⟩
        have QS := Lib.hid (QS.out.after bx)
        have Q1 := Lib.hid (Q1.out.after bx)
        have LOW := Lib.hid HB.out.size
        have HB := Lib.hid (belowGo HB.out bx)
        obtain ⟨Axx4, cxx4, rfl, -⟩ := own_cap ox
        have O : Hid (Ow _ _ _ _ _ _ _) := Lib.hid (own_low ox LOW.out)
        clear ox bx N LOW
        clear s3
        have pb4 := psize_le (i3)
        have s3 : x4.cell? ⟨gs, 3, none⟩ = some (.int .u64 (i3 : Int)) := QS.out.cell 3
        have s4 : x4.cell? ⟨gs, 4, none⟩ = some (.int .u64 (i4 : Int)) := QS.out.cell 4
        have N := Lib.hid (rput_any ((((Lj ++ pform i0) ++ pform i1) ++ pform i2) ++ pform i3) Axx4 ((((mb + psize i0) + psize i1) + psize i2) + psize i3) cxx4 df hdl x4 (Ow.rd O.out) (by omega))
        go_wp2_with fail
        refine N.out.mono ?_
        rintro e x5 ⟨v, rfl, ox, bx⟩
        have QS := Lib.hid (QS.out.after bx)
        have Q1 := Lib.hid (Q1.out.after bx)
        have LOW := Lib.hid HB.out.size
        have HB := Lib.hid (belowGo HB.out bx)
        obtain ⟨Axx5, cxx5, rfl, -⟩ := own_cap ox
        have O : Hid (Ow _ _ _ _ _ _ _) := Lib.hid (own_low ox LOW.out)
        clear ox bx N LOW
        clear s3 s4
        have pb5 := psize_le (df)
        go_wp2_with fail
        go_roundw
        case rel => exact ⟨j + 1, by omega, by go_num, _, _, _, rfl, by rw [HLN2.out]; simp only [List.length_append, pform_len, ← HMB.out], by rw [HLN2.out]; exact O.out, Q1.out, HB.out⟩
        case measure => simp [intOf]; omega
    · obtain rfl : j = n := by omega
      have hji : ¬ (j : Int) < (j : Int) := by omega
      have hfin : L4 ++ (sl.take j).flatMap slB = D := by rw [List.take_of_length_le (by have := HSL.out; omega), HED.out]
      rw [hfin] at O hmb
      have HMB := Lib.hid hmb
      clear hfin hmb
      go_wp2_with fail
      refine bodyPost_ret (results_tmp2 rfl) rfl ⟨_, rfl, ?_, HB.out⟩
      rw [← HMB.out]
      exact O.out

set_option maxRecDepth 100000 in
set_option maxHeartbeats 4000000 in
theorem rputEd_any (d : Ed) (hd : d.fits) (A : Option Addr) (n c : Nat) (w : World) (hn : d.seals.length = n) (hr : Rd w w.heap.size 5 A n (slCells d.seals)) (hnc : n ≤ c) :
    Calls Tryd.prog 21 #[.agg (edC d ⟨d.name.toArray⟩ (.slice A n c))] w (RetPutR w d) := by
  cases hm : mayEd d with
  | true =>
    obtain ⟨k, nm, seq, id, sl⟩ := d
    refine (rputE_yes k nm _ rfl seq id sl A n c w hn hd hr hnc hm).mono ?_
    rintro e w' ⟨v, rfl, o, b⟩
    unfold RetPutR
    rw [if_pos hm, if_pos hm]
    exact ⟨v, rfl, o, b⟩
  | false =>
    obtain ⟨E, hE⟩ : ∃ E, E = edC d ⟨d.name.toArray⟩ (.slice A n c) := ⟨_, rfl⟩
    have hsz : E.size = 5 := by rw [hE]; rfl
    have b1 := (Below.refl w.heap.size w).alloc (Nat.le_refl _) (.cells E 29)
    have q1 := Blk.new w 29 E
    have HM := rmayEd_any d hd.1 hd.2.1 hd.2.2.1 hd.2.2.2 A n c (w.alloc (.cells E 29)) hn ((hr.below b1 (Nat.le_refl _)).more b1.size) hnc
    rw [hm, ← hE] at HM
    rw [← hE]
    unfold RetPutR
    rw [if_neg (by rw [hm]; decide), if_neg (by rw [hm]; decide)]
    have HMM := Lib.hid HM
    clear HM hm hE
    go_enter Tryd.func21, Tryd.ntmps21
    go_upto_region 1 with (fail)
    generalize w.alloc (.cells E 29) = w1 at *
    have Q1 := Lib.hid q1
    go_wp2_with (first | (refine wpList_value rfl (exec_load_blk rfl rfl Q1.out Tryd.underlying29 rfl (by rw [hsz]; kernel_rfl)) ?_) | fail)
    refine HMM.out.mono ?_
    rintro e w2 ⟨rfl, b2⟩
    have hb := belowGo b1 b2
    go_wp2_with fail
    exact bodyPost_ret (results_tmp2 rfl) rfl ⟨.slice none 0 0, rfl, World.ownsRow_nil _ _ _ _, hb⟩
end Go.Proofs.YtmahadcohnhdkaaDoor
