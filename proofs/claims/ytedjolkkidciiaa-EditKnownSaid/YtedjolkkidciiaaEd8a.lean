/- Package edit: for May: seals in a row. -/
import Derived.Test.YtedjolkkidciiaaEd3
import Derived.Test.YtedjolkkidciiaaEd7
import Derived.Test.YtedjolkkidciiaaGB
import Derived.Deep.CutRange
namespace Go.Proofs.Ytedjolkkidciiaa
open Go.RowKit

def prevId (l : List Sl) (j : Nat) : Nat := if j = 0 then 0 else ((l[j - 1]?).map Sl.id).getD 0
theorem sl_get {l : List Sl} {j k : Nat} {s : Sl} {v : Value} (hs : l[j]? = some s) (hv : s.cells[k]? = some v) : (slCells l)[j * 5 + k]? = some v := by
  induction l generalizing j with
  | nil => simp at hs
  | cons x r ih =>
    rw [slCells, List.flatMap_cons, ← slCells]
    have hx : x.cells.length = 5 := rfl
    have hk : k < 5 := by
      have := (List.getElem?_eq_some_iff.1 hv).1
      exact this
    cases j with
    | zero =>
      simp only [List.getElem?_cons_zero, Option.some.injEq] at hs
      subst hs
      rw [Nat.zero_mul, Nat.zero_add, List.getElem?_append_left (by omega)]
      exact hv
    | succ j =>
      rw [List.getElem?_append_right (by omega), show (j + 1) * 5 + k - x.cells.length = j * 5 + k by rw [hx]; omega]
      exact ih (by simpa using hs)
theorem slAt {w : World} {p off : Nat} {l : List Sl} {j : Nat} {s : Sl} (h : ∀ j u, (slCells l)[j]? = some u → w.cell? ⟨p, off + j, none⟩ = some u) (hs : l[j]? = some s) : At w p (off + j * 5) s.cells := by
  intro k v hv
  rw [Nat.add_assoc]
  exact h _ _ (sl_get hs hv)
theorem plan_skip2 {P : Program} {ops : Array Oper} {I : World → Prop} {R : List Nat} {K : Act → World → Prop} {σ : Tree} {a : Act} {w : World} {i : Nat} {o : Oper} (d : Option Tmp) (ho : ops[i]? = some o) (hd : o.dst = d) (hw : Region.wanted o (yielded ops a.tmps) = false) (h : Plan P ops I R K σ (a.put d undef) w) : Plan P ops I R K (.read i σ) a w := by
  subst hd
  exact plan_skip ho hw h
theorem List.drop_eq_getElem_cons_some {α : Type} {l : List α} {j : Nat} {s : α} (hs : l[j]? = some s) : l.drop j = s :: l.drop (j + 1) := by
  obtain ⟨hj, rfl⟩ := List.getElem?_eq_some_iff.1 hs
  exact List.drop_eq_getElem_cons hj
end Go.Proofs.Ytedjolkkidciiaa
