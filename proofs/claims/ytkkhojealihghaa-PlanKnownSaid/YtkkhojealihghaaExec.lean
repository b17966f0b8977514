/- One operation by its run: for what the walk does not take by itself (loads and stores of whole structs, maps). Plain laws. -/
import Derived.Test.YtkkhojealihghaaStoreB
import Derived.Test.YtkkhojealihghaaPlan
import Derived.Test.YtkkhojealihghaaMap
namespace Go.Proofs.Ytkkhojealihghaa
open Go.RowKit
open Go.ChangeMaps (setBlock)
section
variable {P : Program} {ops : Array Oper} {rest : List Oper} {o : Oper} {a : Act} {w w' : World} {Q : Exit → Act → World → Prop}
theorem wpList_value {v : Value} (hw : Region.wanted o (yielded ops a.tmps) = true) (he : (execOp a.eval o).run P w = .ok (.value v) w') (h : wpList P ops Q rest (a.put o.dst v) w') : wpList P ops Q (o :: rest) a w := by
  unfold wpList
  rw [if_pos hw]
  refine Or.inl ?_
  unfold Oper.wp
  rw [he]
  exact h
theorem wpList_skip (hw : Region.wanted o (yielded ops a.tmps) = true) (he : (execOp a.eval o).run P w = .ok .skip w') (h : wpList P ops Q rest (a.put o.dst undef) w') : wpList P ops Q (o :: rest) a w := by
  unfold wpList
  rw [if_pos hw]
  refine Or.inl ?_
  unfold Oper.wp
  rw [he]
  exact h
theorem wpList_wanted (hw : Region.wanted o (yielded ops a.tmps) = true) (h : ∀ K : Act → World → Prop, (∀ a w, wpList P ops Q rest a w → K a w) → o.wp P a w K Q) : wpList P ops Q (o :: rest) a w := by
  unfold wpList
  rw [if_pos hw]
  exact Or.inl (h _ fun _ _ h => h)
theorem exec_lookup {ρ : Operand → Value} {t : TypeId} {m x : Operand} {c : Bool} {v : Value} (ho : o.op = .lookup t m x c) (h : (Instr.lookup t (ρ m) (ρ x) c).run P w = .ok v w') : (execOp ρ o).run P w = .ok (.value v) w' := by
  unfold execOp; rw [ho]; simp only [Sem.run_bind, h, Result.andThen_ok, Sem.run_pure]
theorem exec_make {ρ : Operand → Value} {t : TypeId} {x y : Operand} {v : Value} (ho : o.op = .makeSlice t x y) (h : (Instr.makeSlice t (ρ x) (ρ y)).run P w = .ok v w') : (execOp ρ o).run P w = .ok (.value v) w' := by
  unfold execOp; rw [ho]; simp only [Sem.run_bind, h, Result.andThen_ok, Sem.run_pure]
theorem exec_entry {ρ : Operand → Value} {t : TypeId} {m x : Operand} {v : Value} (ho : o.op = .mapEntry t m x) (h : (Instr.mapEntry t (ρ m) (ρ x)).run P w = .ok v w') : (execOp ρ o).run P w = .ok (.value v) w' := by
  unfold execOp; rw [ho]; simp only [Sem.run_bind, h, Result.andThen_ok, Sem.run_pure]
theorem exec_update {ρ : Operand → Value} {t : TypeId} {m x y : Operand} (ho : o.op = .mapUpdate t m x y) (h : (Instr.mapUpdate t (ρ m) (ρ x) (ρ y)).run P w = .ok () w') : (execOp ρ o).run P w = .ok .skip w' := by
  unfold execOp; rw [ho]; simp only [Sem.run_bind, h, Result.andThen_ok, Sem.run_pure]
theorem exec_insert {ρ : Operand → Value} {t : TypeId} {m x y : Operand} (ho : o.op = .insert t m x y) (h : (Instr.mapUpdate t (ρ m) (ρ x) (ρ y)).run P w = .ok () w') : (execOp ρ o).run P w = .ok .skip w' := by
  unfold execOp; rw [ho]; simp only [Sem.run_bind, h, Result.andThen_ok, Sem.run_pure]
theorem exec_estore {ρ : Operand → Value} {t : TypeId} {m x y : Operand} (ho : o.op = .entryStore t m x y) (h : (Instr.entryStore t (ρ m) (ρ x) (ρ y)).run P w = .ok () w') : (execOp ρ o).run P w = .ok .skip w' := by
  unfold execOp; rw [ho]; simp only [Sem.run_bind, h, Result.andThen_ok, Sem.run_pure]
end
end Go.Proofs.Ytkkhojealihghaa
