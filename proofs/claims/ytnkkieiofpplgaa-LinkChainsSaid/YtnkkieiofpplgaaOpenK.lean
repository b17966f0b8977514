/- An argument that is a row of steps, opened. -/
import Derived.Test.YtnkkieiofpplgaaOpenU
import Derived.Test.YtnkkieiofpplgaaLkBy
import Derived.OpenShut
namespace Go.Proofs.Ytnkkieiofpplgaa
open Go.ChangeShapes Go.WideShapes Go.ChangeAt Go.RowKit
theorem rd_steps {H : Type} {enc : TypeId × Value → H} {w : World} {A : Option Addr} {n c : Nat} {d : DataW H} {p : List MemPlace} (h : DataW.Trod enc Try.prog w 0 (fun _ => true) true 22 (.slice A n c) d p) :
    ∃ l : List Stp, l.length = n ∧ Rd w w.heap.size 3 A n (stCells l) := by
  obtain ⟨l, h1, h2, h3, h4, _⟩ := rd_slice_map stC (fun _ => True) (Nat.succ_pos 2) Try.underlying22 (by kernel_rfl)
    (fun cs fuel y _ hy => by
      obtain ⟨v0, v1, v2, n, y0, y1, y2, rfl, g0, g1, g2⟩ := fields3 Try.underlying75 (by kernel_rfl) (by kernel_rfl) hy
      obtain ⟨a, rfl⟩ := u8_of_trod Try.underlying5 g0
      obtain ⟨b, rfl⟩ := u8_of_trod Try.underlying5 g1
      obtain ⟨b2, rfl⟩ := bool_of_trod Try.underlying4 g2
      exact ⟨⟨a, b, b2⟩, rfl, trivial⟩) h
  exact ⟨l, h1, h2⟩
end Go.Proofs.Ytnkkieiofpplgaa
