/- Blocks of unlike element types are unlike: what is written to the one leaves the other. Plain laws, no condition. -/
import Derived.Test.YtkkhojealihghaaAppK
import Derived.Test.YtkkhojealihghaaBlk
namespace Go.Proofs.Ytkkhojealihghaa
open Go.RowKit

section
variable {w w' : World} {g base B size size' n n' : Nat} {t e : TypeId} {cs : Array Value} {u v : Value} {xs ys : List Value}
theorem own_blk_ne (h : Blk w g t cs) (ho : Ow w base e size v n xs) (hne : t ≠ e) : some g ≠ v.ownBlock := by
  rcases ho.2 with ⟨rfl, _⟩ | ⟨k, cap, cur, rfl, _, hh, _⟩
  · intro h; cases h
  · intro he
    injection he with he
    subst he
    unfold Blk at h
    rw [hh] at h
    injection h with h
    injection h with _ h
    exact hne h.symm
theorem own_own_ne (h : Ow w base e size v n xs) (h' : Ow w B t size' u n' ys) (hne : t ≠ e) : u.ownBlock = none ∨ u.ownBlock ≠ v.ownBlock := by
  rcases h'.2 with ⟨rfl, _⟩ | ⟨k, cap, cur, rfl, _, hh, _⟩
  · exact .inl rfl
  · right
    intro he
    rcases h.2 with ⟨rfl, _⟩ | ⟨k', cap', cur', rfl, _, hh', _⟩
    · cases he
    · injection he with he
      dsimp only at he
      subst he
      rw [hh] at hh'
      injection hh' with hh'
      injection hh' with _ hh'
      exact hne hh'
theorem Blk.grownT (h : Blk w g t cs) (ho : Ow w base e size v n xs) (hne : t ≠ e) (hg : w.grownBy w' v.ownBlock) : Blk w' g t cs := (hg.block g h.lt (own_blk_ne h ho hne)).trans h
theorem Ow.grownT (h : Ow w B t size' u n' ys) (ho : Ow w base e size v n xs) (hne : t ≠ e) (hg : w.grownBy w' v.ownBlock) : Ow w' B t size' u n' ys := World.ownsRow.kept h hg (own_own_ne ho h hne)
theorem grown_set (w : World) (p : Addr) (x : Value) : w.grownBy (w.setCell p x) (some p.block) :=
  ⟨rfl, rfl, rfl, by simp [World.setCell], fun k _ hne => by
    simp only [World.setCell, Array.getElem?_modify]
    rw [if_neg]
    intro e
    subst e
    exact hne rfl⟩
theorem Ow.setT (h : Ow w B e size v n xs) (hb : Blk w g t cs) (hne : t ≠ e) (i : Nat) (x : Value) : Ow (w.setCell ⟨g, i, none⟩ x) B e size v n xs :=
  World.ownsRow.kept h (grown_set w ⟨g, i, none⟩ x) (by
    right
    intro h'
    exact own_blk_ne hb h hne h'.symm)
theorem Ow.cell {A : Option Addr} {c : Nat} (h : Ow w B e size (.slice A n c) n xs) {b off : Nat} (hA : A = some ⟨b, off, none⟩) (hn : 0 < n) {j : Nat} {x : Value} (hu : xs[j]? = some x) : w.cell? ⟨b, off + j, none⟩ = some x := (Ow.rd h).cell hA hn hu
end
theorem exec_nil {P : Program} {w : World} {ρ : Operand → Value} {o : Oper} {x : Operand} {p : Addr} (ho : o.op = .nilCheck x) (hx : ρ x = .pointer (some p)) : (execOp ρ o).run P w = .ok (.value (.pointer (some p))) w := by
  unfold execOp
  rw [ho]
  simp only [hx]
  rfl
end Go.Proofs.Ytkkhojealihghaa
