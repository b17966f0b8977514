/- Two locs compared. No condition. -/
import Derived.Test.YtkkhojealihghaaLocM
import Derived.Test.YtkkhojealihghaaPlan
import Derived.Test.YtkkhojealihghaaEq
namespace Go.Proofs.Ytkkhojealihghaa
open Go.RowKit

theorem equal_loc (s o s' o' : Nat) (w : World) : (Op.equal 41 (locV s o) (locV s' o')).run Try.prog w = .ok (decide (s = s' ∧ o = o')) w := by
  unfold locV
  rw [run_equal_int2 Try.underlying41 (by kernel_rfl) (by decide) (by decide) rfl rfl Try.underlying37 Try.underlying37]
  congr 1
  rw [Bool.eq_iff_iff]
  simp
  omega
end Go.Proofs.Ytkkhojealihghaa
