/- Two locs compared. No condition. -/
import Derived.Test.YtldeldjbpngbkaaLocM
import Derived.Test.YtldeldjbpngbkaaPlan
import Derived.Test.YtldeldjbpngbkaaEq
namespace Go.Proofs.Ytldeldjbpngbkaa
open Go.RowKit

theorem equal_loc (s o s' o' : Nat) (w : World) : (Op.equal 29 (locV s o) (locV s' o')).run Try.prog w = .ok (decide (s = s' ∧ o = o')) w := by
  unfold locV
  rw [run_equal_int2 Try.underlying29 (by kernel_rfl) (by decide) (by decide) rfl rfl Try.underlying27 Try.underlying27]
  congr 1
  rw [Bool.eq_iff_iff]
  simp
  omega
end Go.Proofs.Ytldeldjbpngbkaa
