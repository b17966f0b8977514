/- Package record: Put. For every record; the tables as they are laid. -/
import Derived.Test.YtfapipamohlniaaDoorRec1
import Derived.Test.YtfapipamohlniaaDoorCrcRt
namespace Go.Proofs.YtfapipamohlniaaDoor
open Go.RowKit

def sizesC : List Nat := [1, 1, 2, 6, 3, 4]
def sizeC (i : Nat) : Nat := sizesC.getD i 0
/-- the sizes lie as they are laid -/
def Szs (w : World) : Prop := 0 < w.heap.size ∧ ∀ i, i < 6 → w.cell? ⟨0, i, none⟩ = some (.int .i64 ((sizeC i : Nat) : Int))
def TabR (w : World) : Prop := Tab w ∧ Szs w
theorem Szs.after {w w' : World} (h : Szs w) (hb : Below w.heap.size w w') : Szs w' := ⟨Nat.lt_of_lt_of_le h.1 hb.size, fun i hi => (hb.cell (p := ⟨0, i, none⟩) h.1).trans (h.2 i hi)⟩
theorem TabR.after {w w' : World} (h : TabR w) (hb : Below w.heap.size w w') : TabR w' := ⟨h.1.after hb, h.2.after hb⟩
theorem TabR.alloc {w : World} (h : TabR w) (o : Obj) : TabR (w.alloc o) := h.after ((Below.refl _ _).alloc (Nat.le_refl _) o)
theorem TabR.below {w w' : World} {B : Nat} (h : TabR w) (hb : Below B w w') (h1 : 1 < B) (h2 : 0 < B) : TabR w' :=
  ⟨h.1.below hb h1, Nat.lt_of_lt_of_le h.2.1 hb.size, fun i hi => (hb.cell (p := ⟨0, i, none⟩) h2).trans (h.2.2 i hi)⟩

/-- the numbers of a record's head -/
def numsR (q k n m s o : Nat) : List Nat := [k, n, m, q, s, o]
def numR (l : List Nat) (i : Nat) : Nat := l.getD i 0
/-- the first bytes of a record's head -/
def partR (l : List Nat) (j : Nat) : List UInt8 := (List.range j).flatMap fun i => le (numR l i) (sizeC i)
theorem partR_succ (l : List Nat) (j : Nat) : partR l (j + 1) = partR l j ++ le (numR l j) (sizeC j) := by
  unfold partR
  rw [List.range_succ, List.flatMap_append]
  simp
def lenP (j : Nat) : Nat := [0, 1, 2, 4, 10, 13, 17].getD j 0
theorem lenP_succ {j : Nat} (h : j < 6) : lenP (j + 1) = lenP j + sizeC j := by
  have all : ∀ j : Fin 6, lenP (j.val + 1) = lenP j.val + sizeC j.val := by decide
  exact all ⟨j, h⟩
theorem partR_len (l : List Nat) : ∀ j, j ≤ 6 → (partR l j).length = lenP j
  | 0, _ => rfl
  | j + 1, h => by rw [partR_succ, List.length_append, le_len, partR_len l j (by omega), lenP_succ (by omega)]
theorem lenP_le {j : Nat} (h : j ≤ 6) : lenP j ≤ 17 := by
  have all : ∀ j : Fin 7, lenP j.val ≤ 17 := by decide
  exact all ⟨j, by omega⟩
/-- a record's head without its sum; its run -/
def headR (q k n m s o : Nat) : List UInt8 := partR (numsR q k n m s o) 6
theorem headR_len (q k n m s o : Nat) : (headR q k n m s o).length = 17 := partR_len _ 6 (by omega)
def runR (q k : Nat) (a b : List UInt8) (s o : Nat) : List UInt8 := coverC (coverC (headR q k a.length b.length s o) ++ a ++ b)
theorem runR_len (q k : Nat) (a b : List UInt8) (s o : Nat) : (runR q k a b s o).length = 25 + a.length + b.length := by
  unfold runR
  rw [coverC_len, List.length_append, List.length_append, coverC_len, headR_len]
  omega
theorem mayR_bounds {q : Nat} {k : Int} {n m s o : Nat} (h : mayR q k n m s o = true) : (k = 1 ∨ k = 2 ∧ m = 0) ∧ 1 ≤ q ∧ q ≤ 1099511627776 ∧ 1 ≤ n ∧ n ≤ 64 ∧ m ≤ 1024 ∧ mayL s o = true ∧ s ≤ 16777215 ∧ o ≤ 16777216 := by
  unfold mayR kindR seqR mayB mayV at h
  simp only [Bool.and_eq_true, Bool.or_eq_true, decide_eq_true_eq] at h
  obtain ⟨h1, ⟨h2, h3⟩, ⟨h4, h5⟩, h6, h7⟩ := h
  have h8 := h7
  unfold mayL noneB standsB at h8
  simp only [Bool.or_eq_true, decide_eq_true_eq] at h8
  exact ⟨h1, h2, h3, h4, h5, h6, h7, by omega, by omega⟩
theorem numR_fits {q k n m s o : Nat} (h : mayR q (k : Int) n m s o = true) {j : Nat} (hj : j < 6) : numR (numsR q k n m s o) j < 2 ^ (8 * sizeC j) := by
  obtain ⟨h1, h2, h3, h4, h5, h6, h7, h8, h9⟩ := mayR_bounds h
  have hk : k ≤ 2 := by omega
  have hc : j = 0 ∨ j = 1 ∨ j = 2 ∨ j = 3 ∨ j = 4 ∨ j = 5 := by omega
  rcases hc with rfl | rfl | rfl | rfl | rfl | rfl <;> simp [numR, numsR, sizeC, sizesC] <;> omega
theorem sizeC_in {j : Nat} (h : j < 6) : 1 ≤ sizeC j ∧ sizeC j ≤ 8 := by
  have all : ∀ j : Fin 6, 1 ≤ sizeC j.val ∧ sizeC j.val ≤ 8 := by decide
  exact all ⟨j, h⟩
theorem fixedB_part {l : List Nat} {j : Nat} (hj : j < 6) (h : numR l j < 2 ^ (8 * sizeC j)) : fixedB (partR l j) (numR l j) ((sizeC j : Nat) : Int) = partR l (j + 1) := by
  have := sizeC_in hj
  have e : fixedOk (numR l j) ((sizeC j : Nat) : Int) = true := by
    unfold fixedOk fits
    simp only [Bool.and_eq_true, decide_eq_true_eq]
    refine ⟨⟨by omega, by omega⟩, ?_⟩
    rw [show (8 * ((sizeC j : Nat) : Int)).toNat = 8 * sizeC j by omega]
    exact h
  unfold fixedB
  rw [e, partR_succ]
  simp
set_option maxRecDepth 100000 in
theorem idx6 (a b c d e f : Nat) {j : Nat} (h : j < 6) (w : World) : (Instr.index 118 (.agg #[.int .u64 (a : Int), .int .u64 (b : Int), .int .u64 (c : Int), .int .u64 (d : Int), .int .u64 (e : Int), .int .u64 (f : Int)]) (.int .i64 (j : Int))).run Tryd.prog w = .ok (.int .u64 ((numR [a, b, c, d, e, f] j : Nat) : Int)) w := by
  have hc : j = 0 ∨ j = 1 ∨ j = 2 ∨ j = 3 ∨ j = 4 ∨ j = 5 := by omega
  rcases hc with rfl | rfl | rfl | rfl | rfl | rfl <;> rfl
end Go.Proofs.YtfapipamohlniaaDoor
