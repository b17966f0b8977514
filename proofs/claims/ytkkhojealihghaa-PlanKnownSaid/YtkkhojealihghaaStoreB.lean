/- A struct or an array stored whole into its block. Plain law. -/
import Derived.Test.YtkkhojealihghaaBlk
import Derived.Laws.Tables
namespace Go.Proofs.Ytkkhojealihghaa
open Go.RowKit
section
variable {P : Program} {w : World} {g : Nat} {t : TypeId} {cs old : Array Value}
theorem Blk.row (h : Blk w g t old) (cs : Array Value) : Blk (w.setRow g cs) g t cs := by
  unfold Blk at h ⊢
  exact setRow_heap w g old cs t (0, 0) h
theorem row_other {j : Nat} (hj : j ≠ g) (cs : Array Value) : (w.setRow g cs).heap[j]? = w.heap[j]? := setRow_other w g j cs hj
theorem row_below {B : Nat} {w0 : World} (h : Below B w0 w) (hB : B ≤ g) (cs : Array Value) : Below B w0 (w.setRow g cs) :=
  h.trans ⟨rfl, rfl, rfl, by simp [World.setRow], fun k hk => row_other (by omega) cs⟩
theorem row_size (w : World) (g : Nat) (cs : Array Value) : (w.setRow g cs).heap.size = w.heap.size := by simp [World.setRow]
theorem wpList_storeB {ops : Array Oper} {rest : List Oper} {o : Oper} {a : Act} {Q : Exit → Act → World → Prop} (hg : o.guard = none) (ty : TypeId) (x y : Operand) (ho : o.op = .store ty x y)
    (hx : a.eval x = .pointer (some ⟨g, 0, none⟩)) (hy : a.eval y = .agg cs) (hb : Blk w g t old) (hi : (P.info? ty).map (·.size) = some cs.size) (hold : old.size = cs.size) (h1 : cs.all (·.oneCell') = true)
    (h : wpList P ops Q rest (a.put o.dst undef) (w.setRow g cs)) : wpList P ops Q (o :: rest) a w :=
  wpList_plain hg fun _ hK => wp_store_row ty x y ho g cs hx hy t old hb hi hold h1 (hK _ _ h)
end
end Go.Proofs.Ytkkhojealihghaa
