/- Two locs compared. No condition. -/
import Derived.Test.YtfapipamohlniaaDoorLocM
import Derived.Test.YtfapipamohlniaaDoorPlan
import Derived.Test.YtfapipamohlniaaDoorEq
namespace Go.Proofs.YtfapipamohlniaaDoor
open Go.RowKit

theorem equal_loc (s o s' o' : Nat) (w : World) : (Op.equal 42 (locV s o) (locV s' o')).run Tryd.prog w = .ok (decide (s = s' ∧ o = o')) w := by
  unfold locV
  rw [run_equal_int2 Tryd.underlying42 (by kernel_rfl) (by decide) (by decide) rfl rfl Tryd.underlying24 Tryd.underlying24]
  congr 1
  rw [Bool.eq_iff_iff]
  simp
  omega
end Go.Proofs.YtfapipamohlniaaDoor
