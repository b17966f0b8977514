/- The document's answer, chapter 01: Own, Bits, Number. For every input of the sizes that are asked. -/
import Derived.Test.YtedjolkkidciiaaGP
namespace Go.Proofs.Ytedjolkkidciiaa
open Go.RowKit

def icells (l : List Nat) : List Value := l.map fun (x : Nat) => Value.int .i64 (x : Int)
theorem icells_len (l : List Nat) : (icells l).length = l.length := by simp [icells]
theorem icells_append (a b : List Nat) : icells (a ++ b) = icells a ++ icells b := by simp [icells]
theorem icells_get {l : List Nat} {k : Nat} (hk : k < l.length) : (icells l)[k]? = some (.int .i64 (l[k] : Int)) := by simp [icells, hk]
theorem icells_one (l : List Nat) : ∀ u ∈ icells l, u.oneCell' = true := by
  intro u hu
  unfold icells at hu
  rw [List.mem_map] at hu
  obtain ⟨x, _, rfl⟩ := hu
  rfl
theorem Try.infoI64 : (Try.prog.info? 3).map (fun i => (i.zero, i.size, i.bytes)) = some (some (.int .i64 0), 1, 8) := by kernel_rfl
theorem eltI64 : Elt Try.prog 83 3 (.int .i64 0) 1 8 := ⟨Try.underlying83, Try.infoI64, rfl, by omega⟩

theorem rown_any (a : List UInt8) (A : Option Addr) (n c : Nat) (w : World) (h : Rd w w.heap.size 1 A n (bcells a)) (hn : n ≤ 140737488355328) :
    Calls Try.prog 9 #[.slice A n c] w (RetOwn w 5 1 n (bcells a)) := by
  have hown := World.ownsRow_nil w w.heap.size 5 1
  go_enter Try.func9, Try.ntmps9
  go_wp2_with (at_builtin; refine wpList_app eltU8 rfl (.tmp 4) (.tmp 5) rfl rfl hown rfl h (bcells_one _) (by omega) (by unfold maxLen; omega) (Below.refl _ _) (Nat.le_refl _) ?_; intro v4 w4 o4 b4 g4 _)
  go_ret
  rw [Nat.zero_add, List.nil_append] at o4
  exact ⟨_, rfl, o4, b4⟩

/-- a number's bits, so many, the highest first -/
def bitsL (n m : Nat) : List Nat := (List.range m).map fun i => n / 2 ^ (m - 1 - i) % 2
theorem bitsL_len (n m : Nat) : (bitsL n m).length = m := by simp [bitsL]
theorem bitsL_get {n m i : Nat} (h : i < m) : (bitsL n m)[i]? = some (n / 2 ^ (m - 1 - i) % 2) := by simp [bitsL, h]
/-- what has been set after r rounds: the lowest r of m -/
def bitsTo (n m r : Nat) : List Nat := List.replicate (m - r) 0 ++ (bitsL n m).drop (m - r)
theorem bitsTo_len (n m r : Nat) (h : r ≤ m) : (bitsTo n m r).length = m := by unfold bitsTo; rw [List.length_append, List.length_replicate, List.length_drop, bitsL_len]; omega
theorem bitsTo_zero (n m : Nat) : bitsTo n m 0 = List.replicate m 0 := by unfold bitsTo; rw [Nat.sub_zero, List.drop_of_length_le (by rw [bitsL_len]; exact Nat.le_refl _), List.append_nil]
theorem bitsTo_all (n m : Nat) : bitsTo n m m = bitsL n m := by unfold bitsTo; simp
theorem bitsTo_succ (n m r : Nat) (h : r < m) : (icells (bitsTo n m r)).set (m - 1 - r) (.int .i64 ((n / 2 ^ r % 2 : Nat) : Int)) = icells (bitsTo n m (r + 1)) := by
  apply List.ext_getElem?
  intro i
  rw [List.getElem?_set]
  unfold icells bitsTo
  simp only [List.getElem?_map, List.length_map]
  by_cases hi : m - 1 - r = i
  · subst hi
    rw [if_pos rfl, if_pos (by simp [bitsL_len]; omega), List.getElem?_append_right (by simp; omega), List.getElem?_drop]
    simp only [List.length_replicate]
    rw [bitsL_get (by omega)]
    rw [show m - 1 - (m - (r + 1) + (m - 1 - r - (m - (r + 1)))) = r by omega]
    rfl
  · rw [if_neg hi]
    by_cases h1 : i < m - (r + 1)
    · rw [List.getElem?_append_left (by simp; omega), List.getElem?_append_left (by simp; omega)]
      simp [h1, show i < m - r by omega]
    · rw [List.getElem?_append_right (by simp; omega), List.getElem?_append_right (by simp; omega), List.getElem?_drop, List.getElem?_drop]
      simp only [List.length_replicate]
      congr 2
      omega

def bitsFit (n m : Nat) : Bool := decide (n / 2 ^ m = 0)
def RetTwo (w : World) (E n : Nat) (xs : List Value) (b : Value) (e : Ending) (w' : World) : Prop := ∃ v, e = .returned (.tuple #[v, b]) ∧ w'.ownsRow w.heap.size E 1 v n xs ∧ Below w.heap.size w w'

set_option maxHeartbeats 1000000 in
theorem rbits_any (n : Nat) (hn : n < 18446744073709551616) (m : Nat) (hm : m ≤ 1000) (w : World) :
    Calls Try.prog 42 #[.int .u64 (n : Int), .int .i64 (m : Int)] w (RetTwo w 3 m (icells (bitsL n m)) (.bool (bitsFit n m))) := by
  obtain ⟨i0, hi, hz0, hz1, hz2⟩ := info_parts Try.infoI64
  have hmk := fun W => run_make_rowN (P := Try.prog) 83 3 i0 (.int .i64 0) Try.underlying83 hi hz0 .i64 .i64 m m (Nat.le_refl _) (by rw [hz2]; omega) (by omega) W
  rw [hz1] at hmk
  have hB := Lib.hid (bitsTo_succ n m)
  have hL := Lib.hid (fun r => bitsTo_len n m r)
  have hA := Lib.hid (bitsTo_all n m)
  have hrow0 := own_made w w.heap.size 3 (.int .i64 0) m (Nat.le_refl _) (by unfold maxLen; omega)
  have e0 : List.replicate m (Value.int .i64 0) = icells (bitsTo n m 0) := by rw [bitsTo_zero]; simp [icells]
  rw [e0] at hrow0
  have hb0 : Below w.heap.size w (w.alloc (.cells (madeCells #[Value.int .i64 0] m) 3)) := (Below.refl _ _).alloc (Nat.le_refl _) _
  have hz : n / 2 ^ 0 = n := by simp
  have HZ := Lib.hid hz
  clear e0 hz hi hz0 hz1 hz2
  go_enter Try.func42, Try.ntmps42
  go_wp2
  have hrow0 : (w.alloc (.cells (madeCells #[Value.int .i64 0] m) 3)).ownsRow w.heap.size 3 1 (.slice (some ⟨w.heap.size, 0, none⟩) m m) m (icells (bitsTo n m 0)) := hrow0
  go_loopw [0, 7] (fun x i wr => ∃ r : Nat, r ≤ m ∧ i = .int .i64 ((m : Int) - 1 - (r : Int)) ∧ x = .int .u64 ((n / 2 ^ r : Nat) : Int) ∧ wr.ownsRow w.heap.size 3 1 (.slice (some ⟨w.heap.size, 0, none⟩) m m) m (icells (bitsTo n m r)) ∧ Below w.heap.size w wr) (fun _ i _ => (intOf i + 1).toNat)
  case atStart => exact ⟨0, Nat.zero_le _, by simp, by rw [HZ.out], hrow0, hb0⟩
  case round =>
    obtain ⟨r, hr, rfl, rfl, hrow, hb⟩ := hrel
    clear hrow0 hb0 hmk
    by_cases hlt : r < m
    · have e1 : (m : Int) - 1 - (r : Int) = ((m - 1 - r : Nat) : Int) := by omega
      have hc := hrow.cellAt (m - 1 - r) (by omega)
      have hf := hrow.frozenAt (m - 1 - r)
      have hlen := hL.out r hr
      have hst := hrow.stored (m - 1 - r) (.int .i64 ((n / 2 ^ r % 2 : Nat) : Int))
      rw [hB.out r hlt] at hst
      have hx : n / 2 ^ r < 18446744073709551616 := Nat.lt_of_le_of_lt (Nat.div_le_self _ _) hn
      have hd : n / 2 ^ r / 2 = n / 2 ^ (r + 1) := by rw [Nat.div_div_eq_div_mul, Nat.pow_succ]
      have HD := Lib.hid hd
      obtain ⟨v, hv⟩ : ∃ v, (icells (bitsTo n m r))[m - 1 - r]? = some v := ⟨_, List.getElem?_eq_getElem (by rw [icells_len]; omega)⟩
      rw [hv] at hc
      clear hv
      have hlt' : (m - 1 - r : Nat) < m := by omega
      have hbs := hb.setCell (p := ⟨w.heap.size, m - 1 - r, none⟩) (Nat.le_refl _) (.int .i64 ((n / 2 ^ r % 2 : Nat) : Int))
      clear hd hlen
      generalize n / 2 ^ r = x at *
      rw [e1]
      go_wp2
      go_roundw
      case rel =>
        refine ⟨r + 1, by omega, ?_, ?_, ?_, ?_⟩
        · congr 1 <;> omega
        · rw [← HD.out]; first | rfl | (congr 1 <;> simp)
        · exact hst.1
        · exact hbs
      case measure => simp [intOf] <;> omega
    · obtain rfl : r = m := by omega
      have e1 : (r : Int) - 1 - (r : Int) = -1 := by omega
      rw [e1]
      rw [hA.out] at hrow
      have hq : ∀ x : Nat, x = n / 2 ^ r → ((x : Int) == 0) = bitsFit n r := fun x hx => by unfold bitsFit; rw [hx, Bool.eq_iff_iff, beq_iff_eq, decide_eq_true_eq]; rw [← hx]; omega
      obtain ⟨x, hx⟩ : ∃ x, x = n / 2 ^ r := ⟨_, rfl⟩
      have hq := hq x hx
      rw [← hx]
      clear hx
      go_wp2
      go_ret2
      exact ⟨_, rfl, hrow, hb⟩

/-- what bits say -/
def numB (l : List Nat) : Nat := l.foldl (fun n b => 2 * n + b) 0
theorem numB_snoc (l : List Nat) (b : Nat) : numB (l ++ [b]) = 2 * numB l + b := by simp [numB]
theorem rnumber_any (l : List Nat) (A : Option Addr) (n c : Nat) (w : World) (hl : ∀ x ∈ l, x < 2) (h : Rd w w.heap.size 1 A n (icells l)) :
    Calls Try.prog 43 #[.slice A n c] w fun e w' => e = .returned (.int .u64 ((numB l % 18446744073709551616 : Nat) : Int)) ∧ w = w' := by
  have hln : l.length = n := by have := h.1; rw [icells_len] at this; omega
  have hmx := h.2.1
  unfold maxLen at hmx
  have hg : ∀ j, j < n → ∃ b off, A = some ⟨b, off, none⟩ ∧ w.cell? ⟨b, off + j, none⟩ = some (.int .i64 (l.getD j 0 : Int)) := fun j hj => by
    obtain ⟨b, off, e, hbk, hc⟩ := h.2.2 (by omega)
    refine ⟨b, off, e, hc j _ ?_⟩
    rw [icells_get (by omega)]; simp [List.getD, show j < l.length by omega]
  have HL := Lib.hid hln
  have H2 := Lib.hid hl
  clear h hln hl
  go_enter Try.func43, Try.ntmps43
  go_wp2
  go_loopw [3, 4] (fun x i wr => ∃ k : Nat, k ≤ n ∧ i = .int .i64 k ∧ wr = w ∧ x = .int .u64 ((numB (l.take k) % 18446744073709551616 : Nat) : Int)) (fun _ i _ => n - (intOf i).toNat)
  case atStart => exact ⟨0, Nat.zero_le _, rfl, rfl, rfl⟩
  case round =>
    obtain ⟨k, hk, rfl, rfl, rfl⟩ := hrel
    by_cases hlt : k < n
    · obtain ⟨b, off, rfl, hc⟩ := hg k hlt
      have hkl : k < l.length := by have := HL.out; omega
      have hs : numB (l.take (k + 1)) = 2 * numB (l.take k) + l.getD k 0 := by
        rw [List.take_succ_eq_append_getElem hkl, numB_snoc]; simp [List.getD, hkl]
      have hx2 : l.getD k 0 < 2 := by
        have := H2.out l[k] (List.getElem_mem hkl)
        simpa [List.getD, hkl] using this
      clear hg
      generalize l.getD k 0 = d at *
      have HS := Lib.hid hs
      generalize numB (l.take k) = x at *
      have hstep : ∀ z : Nat, z = x % 18446744073709551616 → (IntKind.u64.wrap (IntKind.u64.wrap (2 * (z : Int)) + (d : Int))) = (((2 * x + d) % 18446744073709551616 : Nat) : Int) := fun z hz => by
        simp only [IntKind.wrap_u64]; omega
      obtain ⟨z, hz⟩ : ∃ z, z = x % 18446744073709551616 := ⟨_, rfl⟩
      have hst := hstep z hz
      rw [← hz]
      have hz1 : z < 18446744073709551616 := by omega
      clear hs hstep hz
      go_wp2
      go_roundw
      case rel => exact ⟨k + 1, by omega, by go_num, trivial, by rw [HS.out]; simp⟩
      case measure => simp [intOf]; omega
    · obtain rfl : k = n := by omega
      have ht : l.take k = l := List.take_of_length_le (by have := HL.out; omega)
      rw [ht]
      clear ht hg
      go_wp2
      go_ret
      exact ⟨rfl, rfl⟩
end Go.Proofs.Ytedjolkkidciiaa
