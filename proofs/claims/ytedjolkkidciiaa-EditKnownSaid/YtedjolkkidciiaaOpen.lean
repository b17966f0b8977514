/- A law's arguments that are slices, read as lists. Plain laws, no condition. -/
import Derived.Test.YtedjolkkidciiaaGA
namespace Go.Proofs.Ytedjolkkidciiaa
open Go.ChangeShapes Go.WideShapes Go.ChangeAt Go.RowKit

section
variable {H : Type} {enc : TypeId × Value → H} {P : Program} {w : World} {base : Nat} {spare : Nat → Bool} {held : Bool}

theorem rd_slice_map {α : Type} (f : α → List Value) (Q : α → Prop) {t e : TypeId} {size : Nat} (hs : 0 < size) (ht : P.underlying t = some (.slice e)) (hC : P.cellsOf e = size)
    (hread : ∀ (cs : List Value) fuel y, cs.length = size → DataW.trod enc P w base spare held fuel e cs = some y → ∃ x, cs = f x ∧ Q x)
    {A : Option Addr} {n c : Nat} {d : DataW H} {p : List MemPlace} (h : DataW.Trod enc P w base spare held t (.slice A n c) d p) :
    ∃ l : List α, l.length = n ∧ Rd w w.heap.size size A n (l.flatMap f) ∧ n ≤ c ∧ c ≤ maxLen ∧ ∀ x ∈ l, Q x := by
  obtain ⟨cs, hlen, hrd, hnc, hcm, hel⟩ := rd_of_slice hs ht hC h
  have hx : ∀ i : Fin n, ∃ x, cs i.val = f x ∧ Q x := fun i => by
    obtain ⟨fuel, y, hy⟩ := hel i.val i.isLt
    exact hread _ fuel y (hlen _) hy
  obtain ⟨g, hg⟩ := Classical.axiomOfChoice hx
  refine ⟨(List.finRange n).map g, by simp, ?_, hnc, hcm, ?_⟩
  · have e1 : (List.range n).flatMap cs = ((List.finRange n).map g).flatMap f := by
      rw [List.flatMap_map]
      have : List.range n = (List.finRange n).map (·.val) := by
        apply List.ext_getElem
        · simp
        · intro i h1 h2; simp
      rw [this, List.flatMap_map]
      congr 1
      funext i
      exact (hg i).1
    rw [← e1]; exact hrd
  · intro x hx
    rw [List.mem_map] at hx
    obtain ⟨i, _, rfl⟩ := hx
    exact (hg i).2

theorem rd_ints {t e : TypeId} {k : IntKind} (ht : P.underlying t = some (.slice e)) (he : P.underlying e = some (.int k)) (hC : P.cellsOf e = 1)
    {A : Option Addr} {n c : Nat} {d : DataW H} {p : List MemPlace} (h : DataW.Trod enc P w base spare held t (.slice A n c) d p) :
    ∃ l : List Int, l.length = n ∧ Rd w w.heap.size 1 A n (l.map (.int k)) ∧ n ≤ c ∧ c ≤ maxLen ∧ ∀ x ∈ l, (Lit.int k x).wf = true := by
  obtain ⟨l, h1, h2, h3, h4, h5⟩ := rd_slice_map (fun x : Int => [Value.int k x]) (fun x => (Lit.int k x).wf = true) (Nat.succ_pos 0) ht hC
    (fun cs fuel y _ hy => by obtain ⟨n, rfl, _, hw⟩ := DataW.trod_int he hy; exact ⟨n, rfl, hw⟩) h
  exact ⟨l, h1, by rw [List.map_eq_flatMap]; exact h2, h3, h4, h5⟩

/-- the two cells of a struct of two one-cell fields -/
theorem fields2 {e : TypeId} {f0 f1 : Field} (hs : P.underlying e = some (.struct #[f0, f1])) (hone : Go.Deep.oneCellFields P #[f0, f1] = true) (hC : P.cellsOf e = 2) {fuel : Nat} {cs : List Value} {y : DataW H × List MemPlace}
    (h : DataW.trod enc P w base spare held fuel e cs = some y) : ∃ v0 v1 n y0 y1, cs = [v0, v1] ∧ DataW.trod enc P w base spare held n f0.type [v0] = some y0 ∧ DataW.trod enc P w base spare held n f1.type [v1] = some y1 := by
  obtain ⟨xs, n, _, _, hlen, hxl, hf⟩ := DataW.trod_struct hs h
  rw [hC] at hlen
  match cs, hlen, xs, hxl with
  | [v0, v1], _, [y0, y1], _ =>
    obtain ⟨o0, k0⟩ := Go.Deep.hone_of hone 0 f0 rfl
    obtain ⟨o1, k1⟩ := Go.Deep.hone_of hone 1 f1 rfl
    have h0 := hf 0 f0 rfl
    have h1 := hf 1 f1 rfl
    rw [o0, k0] at h0
    rw [o1, k1] at h1
    exact ⟨v0, v1, n, y0, y1, rfl, h0, h1⟩
end
end Go.Proofs.Ytedjolkkidciiaa
