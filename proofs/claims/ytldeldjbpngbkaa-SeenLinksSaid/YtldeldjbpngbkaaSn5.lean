/- What the document's seen, Seen and Kept come to. For every world in which the slices read as lists. -/
import Derived.Test.YtldeldjbpngbkaaSn4
import Derived.Test.YtldeldjbpngbkaaApp
namespace Go.Proofs.Ytldeldjbpngbkaa.Sn
open Go.RowKit

theorem eltBool : Elt Try.prog 65 4 (.bool false) 1 1 := ⟨Try.underlying65, Try.infoBool, rfl, by omega⟩

theorem seenAt_take {l : List Ver} {at_ : List Int} {i k : Nat} (hk : k < at_.length) : seenAt l (at_.take (k + 1)) i = (seenAt l (at_.take k) i || (newIs l at_[k] && newK l at_[k] == i)) := by
  unfold seenAt
  rw [List.take_succ_eq_append_getElem hk, List.any_append]
  simp

theorem keptAt_ref (l : List Ver) (at_ : List Int) (k : Nat) : keptAt l at_ k = (seenAt l at_ k && (kindAt l k == 1 || (List.range k).any (keptAt l at_))) := kept_step l at_ k

end Go.Proofs.Ytldeldjbpngbkaa.Sn
