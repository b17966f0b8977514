/- Two locs compared. No condition. -/
import Derived.Test.YtohddbehcfoecaaLoc1
import Derived.Test.YtohddbehcfoecaaPlan
import Derived.Test.YtohddbehcfoecaaEq
namespace Go.Proofs.Ytohddbehcfoecaa
open Go.RowKit

theorem equal_loc (s o s' o' : Nat) (w : World) : (Op.equal 24 (locV s o) (locV s' o')).run Try.prog w = .ok (decide (s = s' ∧ o = o')) w := by
  unfold locV
  rw [run_equal_int2 Try.underlying24 (by kernel_rfl) (by decide) (by decide) rfl rfl Try.underlying22 Try.underlying22]
  congr 1
  rw [Bool.eq_iff_iff]
  simp
  omega
end Go.Proofs.Ytohddbehcfoecaa
