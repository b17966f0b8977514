/- Package link: Len, Last, Wrong. For all links. -/
import Derived.Test.YtldeldjbpngbkaaLk2
import Derived.Test.YtldeldjbpngbkaaApp
namespace Go.Proofs.Ytldeldjbpngbkaa
open Go.RowKit
attribute [local go_sem] Oper.semAt_some

theorem Try.infoLoc : (Try.prog.info? 29).map (fun i => (i.zero, i.size, i.bytes)) = some (some (.agg #[.int .u32 0, .int .u32 0]), 2, 8) := by kernel_rfl
theorem eltLoc : Elt Try.prog 52 29 (.agg #[.int .u32 0, .int .u32 0]) 2 8 := ⟨Try.underlying52, Try.infoLoc, rfl, by omega⟩
theorem lcs_one (L : List (Nat × Nat)) : ∀ u ∈ lcs L, u.oneCell' = true := by
  intro u hu
  obtain ⟨l, _, h⟩ := List.mem_flatMap.1 hu
  simp only [List.mem_cons, List.not_mem_nil, or_false] at h
  rcases h with rfl | rfl <;> rfl
end Go.Proofs.Ytldeldjbpngbkaa
