/- Package edit: for Put. -/
import Derived.Test.YtedjolkkidciiaaEd8
import Derived.Test.YtedjolkkidciiaaEd9
import Derived.Test.YtedjolkkidciiaaGB
import Derived.Lib.AppendStr
namespace Go.Proofs.Ytedjolkkidciiaa
open Go.RowKit

def RetPut (w : World) (l : List UInt8) (e : Ending) (w' : World) : Prop := ∃ v, e = .returned (.tuple #[v, .int .i64 0]) ∧ w'.ownsRow w.heap.size 5 1 v l.length (bcells l) ∧ Below w.heap.size w w'
theorem maySls_mem : ∀ {l : List Sl} {p : Nat}, maySls p l = true → ∀ s ∈ l, maySl s = true
  | [], _, _, s, hs => by cases hs
  | x :: r, p, h, s, hs => by
    rw [maySls, Bool.and_eq_true, Bool.and_eq_true] at h
    rcases List.mem_cons.1 hs with rfl | hs
    · exact h.1.1
    · exact maySls_mem h.2 s hs
theorem slBs_len (l : List Sl) : (l.flatMap slB).length ≤ 45 * l.length := by
  induction l with
  | nil => simp
  | cons x r ih =>
    rw [List.flatMap_cons, List.length_append, List.length_cons, slB_nums]
    have h1 := pforms_len (nums x)
    have h2 : (nums x).length ≤ 5 := by unfold nums; split <;> simp
    omega
theorem strCells_bytes (l : List UInt8) : Lib.strCells ⟨l.toArray⟩ = bcells l := rfl
theorem results_tmp2 {P : Program} {fn : Func} {tmps : Array Value} {w : World} {u v : Tmp} (h : fn.results = #[.tmp u, .tmp v]) : (results fn tmps).run P w = .ok (.tuple #[tmps.getD u undef, tmps.getD v undef]) w := by
  simp [results, h]
end Go.Proofs.Ytedjolkkidciiaa
