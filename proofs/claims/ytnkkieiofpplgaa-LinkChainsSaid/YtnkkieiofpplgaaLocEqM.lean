/- Two locs compared. No condition. -/
import Derived.Test.YtnkkieiofpplgaaLocM
import Derived.Test.YtnkkieiofpplgaaGB
import Derived.Test.YtnkkieiofpplgaaEq
namespace Go.Proofs.Ytnkkieiofpplgaa
open Go.RowKit

theorem equal_loc (s o s' o' : Nat) (w : World) : (Op.equal 34 (locV s o) (locV s' o')).run Try.prog w = .ok (decide (s = s' ∧ o = o')) w := by
  unfold locV
  rw [run_equal_int2 Try.underlying34 (by kernel_rfl) (by decide) (by decide) rfl rfl Try.underlying32 Try.underlying32]
  congr 1
  rw [Bool.eq_iff_iff]
  simp
  omega
end Go.Proofs.Ytnkkieiofpplgaa
