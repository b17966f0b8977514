/- RecordRows: its argument opened; what it writes, and what is read of it. Plain laws, no condition. -/
import Derived.Test.YtlnidmjnomoddaaDoorOpenR
import Derived.Test.YtlnidmjnomoddaaDoorRecM
namespace Go.Proofs.YtlnidmjnomoddaaDoor
open Go.ChangeShapes Go.WideShapes Go.ChangeAt Go.RowKit

/-- a record of the argument: its cells, and the bytes that its rows hold -/
structure RecX where
  q : Nat
  k : Int
  A : Option Addr
  n : Nat
  c : Nat
  B : Option Addr
  m : Nat
  d : Nat
  s : Nat
  o : Nat
  a : List UInt8
  b : List UInt8
def RecX.cells (x : RecX) : List Value := [.int .u64 (x.q : Int), .int .i64 x.k, .slice x.A x.n x.c, .slice x.B x.m x.d, .int .u32 (x.s : Int), .int .u32 (x.o : Int)]
theorem RecX.cells_len (x : RecX) : x.cells.length = 6 := rfl
def RecX.ok (w : World) (x : RecX) : Prop := x.q < 18446744073709551616 ∧ x.s < 4294967296 ∧ x.o < 4294967296 ∧ Rd w w.heap.size 1 x.A x.n (bcells x.a) ∧ Rd w w.heap.size 1 x.B x.m (bcells x.b) ∧ x.n ≤ x.c ∧ x.m ≤ x.d
def RecX.run (x : RecX) : List UInt8 := runR (seqM x.q) (kindM x.k) (keyM x.a) (valM x.k x.b) (segM x.s) (offM x.s x.o)
theorem RecX.run_len (x : RecX) : 26 ≤ x.run.length ∧ x.run.length ≤ 1113 := by
  have h := mayR_bounds (made_may x.q x.k x.a x.b x.s x.o)
  unfold RecX.run
  rw [runR_len]
  omega
/-- all runs, one behind the other -/
def allX (l : List RecX) : List UInt8 := l.flatMap RecX.run
def endsX (l : List RecX) (i : Nat) : Nat := (allX (l.take i)).length
theorem endsX_zero (l : List RecX) : endsX l 0 = 0 := rfl
theorem endsX_succ {l : List RecX} {i : Nat} (hi : i < l.length) : endsX l (i + 1) = endsX l i + (l[i]).run.length := by
  unfold endsX allX
  rw [List.take_succ_eq_append_getElem hi, List.flatMap_append, List.length_append]
  simp
theorem endsX_all (l : List RecX) {i : Nat} (hi : l.length ≤ i) : endsX l i = (allX l).length := by
  unfold endsX
  rw [List.take_of_length_le hi]
theorem allX_succ {l : List RecX} {i : Nat} (hi : i < l.length) : allX (l.take (i + 1)) = allX (l.take i) ++ (l[i]).run := by
  unfold allX
  rw [List.take_succ_eq_append_getElem hi, List.flatMap_append]
  simp
theorem allX_split {l : List RecX} {i : Nat} (hi : i < l.length) : allX l = allX (l.take i) ++ ((l[i]).run ++ allX (l.drop (i + 1))) := by
  have h : l = l.take i ++ (l[i] :: l.drop (i + 1)) := by rw [List.getElem_cons_drop hi, List.take_append_drop]
  conv => lhs; rw [h]
  unfold allX
  rw [List.flatMap_append, List.flatMap_cons]
theorem allX_le (l : List RecX) {m : Nat} (h : l.length ≤ m) : (allX l).length ≤ 1113 * m := by
  have : ∀ l : List RecX, (allX l).length ≤ 1113 * l.length := by
    intro l
    induction l with
    | nil => simp [allX]
    | cons x l ih =>
      have := x.run_len
      unfold allX at ih ⊢
      rw [List.flatMap_cons, List.length_append, List.length_cons]
      omega
  have := this l
  omega
/-- what lies between the place at hand and the cut: torn -/
theorem seg_torn {l : List RecX} {i k : Nat} (hi : i < l.length) (h1 : endsX l i ≤ k) (h2 : k < endsX l (i + 1)) : ((allX l).take k).drop (endsX l i) = (l[i]).run.take (k - endsX l i) := by
  rw [endsX_succ hi] at h2
  rw [allX_split hi]
  unfold endsX at h1 h2 ⊢
  rw [List.take_append, List.take_of_length_le h1, List.drop_left, List.take_append]
  rw [show k - (allX (List.take i l)).length - (l[i]).run.length = 0 by omega]
  simp
/-- what lies between the place at hand and the cut: a run, and more -/
theorem seg_more {l : List RecX} {i k : Nat} (hi : i < l.length) (h2 : endsX l (i + 1) ≤ k) : ((allX l).take k).drop (endsX l i) = (l[i]).run ++ (allX (l.drop (i + 1))).take (k - endsX l i - (l[i]).run.length) := by
  rw [endsX_succ hi] at h2
  rw [allX_split hi]
  unfold endsX at h2 ⊢
  rw [List.take_append, List.take_of_length_le (l := allX (List.take i l)) (by omega), List.drop_left, List.take_append, List.take_of_length_le (l := (l[i]).run) (by omega)]
/-- the run at hand -/
theorem seg_own {l : List RecX} {i : Nat} (hi : i < l.length) : ((allX l).drop (endsX l i)).take (l[i]).run.length = (l[i]).run := by
  rw [allX_split hi]
  unfold endsX
  rw [List.drop_left, List.take_left]

theorem endsX_take {l : List RecX} {M i : Nat} (h : i ≤ M) : endsX (l.take M) i = endsX l i := by
  unfold endsX
  rw [List.take_take, Nat.min_eq_left h]
theorem seg_torn2 {l : List RecX} {M i k : Nat} (hMl : M ≤ l.length) (hi : i < M) (h1 : endsX l i ≤ k) (h2 : k < endsX l (i + 1)) : ((allX (l.take M)).take k).drop (endsX l i) = (l[i]'(by omega)).run.take (k - endsX l i) := by
  have := seg_torn (l := l.take M) (i := i) (k := k) (by rw [List.length_take]; omega) (by rw [endsX_take (by omega)]; exact h1) (by rw [endsX_take (by omega)]; exact h2)
  rwa [endsX_take (by omega), List.getElem_take] at this
theorem seg_more2 {l : List RecX} {M i k : Nat} (hMl : M ≤ l.length) (hi : i < M) (h2 : endsX l (i + 1) ≤ k) : ∃ r, ((allX (l.take M)).take k).drop (endsX l i) = (l[i]'(by omega)).run ++ r := by
  have := seg_more (l := l.take M) (i := i) (k := k) (by rw [List.length_take]; omega) (by rw [endsX_take (by omega)]; exact h2)
  rw [endsX_take (by omega), List.getElem_take] at this
  exact ⟨_, this⟩
theorem seg_own2 {l : List RecX} {M i : Nat} (hMl : M ≤ l.length) (hi : i < M) : ((allX (l.take M)).take (endsX l (i + 1))).drop (endsX l i) = (l[i]'(by omega)).run := by
  have h1 := seg_own (l := l.take M) (i := i) (by rw [List.length_take]; omega)
  rw [endsX_take (by omega), List.getElem_take] at h1
  rw [List.drop_take, endsX_succ (by omega : i < l.length), Nat.add_sub_cancel_left]
  exact h1
theorem endsX_mono {l : List RecX} {i : Nat} (hi : i < l.length) : endsX l i ≤ endsX l (i + 1) := by rw [endsX_succ hi]; omega
theorem endsX_mono2 {l : List RecX} {M : Nat} (hM : M ≤ l.length) : ∀ d i, i + d = M → endsX l i ≤ endsX l M
  | 0, i, h => by have : i = M := by omega
                  subst this; exact Nat.le_refl _
  | d + 1, i, h => Nat.le_trans (endsX_mono (by omega)) (endsX_mono2 hM d (i + 1) (by omega))

section
variable {H : Type} {enc : TypeId × Value → H} {P : Program} {w : World} {base : Nat} {spare : Nat → Bool} {held : Bool}
theorem rd_recs {u t e : TypeId} {f0 f1 f2 f3 f4 g0 g1 : Field} (hu : P.underlying u = some (.slice t))
    (ht : P.underlying t = some (.struct #[f0, f1, f2, f3, f4])) (hC : P.cellsOf t = 6) (o0 : f0.offset = 0) (o1 : f1.offset = 1) (o2 : f2.offset = 2) (o3 : f3.offset = 3) (o4 : f4.offset = 4)
    (k0 : P.cellsOf f0.type = 1) (k1 : P.cellsOf f1.type = 1) (k2 : P.cellsOf f2.type = 1) (k3 : P.cellsOf f3.type = 1) (k4 : P.cellsOf f4.type = 2)
    (h0 : P.underlying f0.type = some (.int .u64)) (h1 : P.underlying f1.type = some (.int .i64)) (h2 : P.underlying f2.type = some (.slice e)) (h3 : P.underlying f3.type = some (.slice e)) (h4 : P.underlying f4.type = some (.struct #[g0, g1]))
    (hone : Go.Deep.oneCellFields P #[g0, g1] = true) (hg0 : P.underlying g0.type = some (.int .u32)) (hg1 : P.underlying g1.type = some (.int .u32)) (he : P.underlying e = some (.int .u8)) (hCe : P.cellsOf e = 1)
    {A : Option Addr} {n c : Nat} {D : DataW H} {p : List MemPlace} (h : DataW.Trod enc P w base spare held u (.slice A n c) D p) :
    ∃ l : List RecX, l.length = n ∧ Rd w w.heap.size 6 A n (l.flatMap RecX.cells) ∧ n ≤ c ∧ ∀ x ∈ l, x.ok w := by
  obtain ⟨l, r1, r2, r3, _, r5⟩ := rd_slice_map RecX.cells (RecX.ok w) (by omega : 0 < 6) hu hC (fun cs fuel y _ hy => by
    obtain ⟨q, k, A, n, c, B, m, d, s, o, a, b, e1, b1, _, _, b4, b5, ra, rb, q1, q2⟩ := rec_of_trod ht hC o0 o1 o2 o3 o4 k0 k1 k2 k3 k4 h0 h1 h2 h3 h4 hone hg0 hg1 he hCe hy
    exact ⟨⟨q, k, A, n, c, B, m, d, s, o, a, b⟩, e1, b1, b4, b5, ra, rb, q1, q2⟩) h
  exact ⟨l, r1, r2, r3, r5⟩
end
/-- a cell of the argument's record i -/
theorem recs_get (l : List RecX) {i j : Nat} (hi : i < l.length) (hj : j < 6) : (l.flatMap RecX.cells)[i * 6 + j]? = (l[i]).cells[j]? := by
  rw [flatMap_get RecX.cells 6 RecX.cells_len l i j hj]
  simp [hi]
end Go.Proofs.YtlnidmjnomoddaaDoor
