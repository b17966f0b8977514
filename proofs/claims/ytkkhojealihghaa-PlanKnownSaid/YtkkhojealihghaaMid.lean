/- A struct that lies in the middle of a row, read whole. Plain laws, no condition of their own. -/
import Derived.Test.YtkkhojealihghaaPlan
namespace Go.Proofs.Ytkkhojealihghaa
open Go.RowKit
section
variable {P : Program} {w : World}
/-- the cells cs lie in block b from o on -/
def At (w : World) (b o : Nat) (cs : List Value) : Prop := ∀ j v, cs[j]? = some v → w.cell? ⟨b, o + j, none⟩ = some v
theorem At.after {b o : Nat} {cs : List Value} (h : At w b o cs) (hl : b < w.heap.size) {w' : World} (hb : Below w.heap.size w w') : At w' b o cs := fun j v hv => (hb.cell (p := ⟨b, o + j, none⟩) hl).trans (h j v hv)
theorem exec_load_mid {ρ : Operand → Value} {o : Oper} {t : TypeId} {x : Operand} {b off : Nat} {cs : List Value} {d : TypeDesc} (ho : o.op = .load t x) (hx : ρ x = .pointer (some ⟨b, off, none⟩)) (hc : At w b off cs)
    (hu : P.underlying t = some d) (hd : (match d with | .struct _ | .array _ _ => true | _ => false) = true) (hi : (P.info? t).map (·.size) = some cs.length) : (execOp ρ o).run P w = .ok (.value (.agg cs.toArray)) w := by
  have hl : (loadCells ⟨b, off, none⟩ cs.length).run P w = .ok cs.toArray w := run_loadCells_list (P := P) w ⟨b, off, none⟩ cs (fun j v hv => by rw [add_none]; exact hc j v hv)
  obtain ⟨i, hi1, hi2⟩ : ∃ i, P.info? t = some i ∧ i.size = cs.length := by
    cases hc : P.info? t with
    | none => rw [hc] at hi; cases hi
    | some i => rw [hc] at hi; exact ⟨i, rfl, by simpa using hi⟩
  have hs : (sizeOf t).run P w = .ok cs.length w := by
    have := run_sizeOf w hi1
    rw [this]
    congr 1
    simp [Program.cellsOf, hi1, hi2]
  have ha : (isAgg t).run P w = .ok true w := by
    unfold isAgg
    rw [Sem.run_bind, run_underlying hu]
    cases d <;> first | rfl | exact absurd hd (by simp)
  unfold execOp
  rw [ho]
  simp only [hx, Instr.loadAt, Instr.sureAddr, Sem.run_bind, Sem.run_pure, Result.andThen_ok, loadVar, ha, if_true, hs, hl]
end
end Go.Proofs.Ytkkhojealihghaa
