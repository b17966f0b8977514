/- Package edit: parts. For every kind. -/
import Derived.Test.YtedjolkkidciiaaEd2
namespace Go.Proofs.Ytedjolkkidciiaa
open Go.RowKit
attribute [local go_sem] Oper.semAt_some

def hasV (k : Int) : Array Value := #[.bool (hasSeq k), .bool (hasName k), .bool (hasId k), .bool (hasSeals k)]
set_option maxRecDepth 100000 in
theorem parts_any (k : Int) (w : World) : Calls Try.prog 29 #[.int .i64 k] w fun e w' => e = .returned (.tuple #[.agg (hasV k), .bool (isKind k)]) ∧ Below w.heap.size w w' := by
  by_cases h1 : k = 1
  · subst h1
    go_enter Try.func29, Try.ntmps29
    go_wp2
    exact bodyPost_ret (results_cell2 rfl rfl (res_load (Blk.new w 67 #[.bool true, .bool false, .bool false, .bool false]) Try.underlying67 rfl (by kernel_rfl))) rfl ⟨rfl, belowAlloc (Below.refl _ _) _⟩
  · by_cases h2 : k = 2
    · subst h2
      go_enter Try.func29, Try.ntmps29
      go_wp2
      exact bodyPost_ret (results_cell2 rfl rfl (res_load (Blk.new w 67 #[.bool true, .bool true, .bool false, .bool false]) Try.underlying67 rfl (by kernel_rfl))) rfl ⟨rfl, belowAlloc (Below.refl _ _) _⟩
    · by_cases h3 : k = 3
      · subst h3
        go_enter Try.func29, Try.ntmps29
        go_wp2
        exact bodyPost_ret (results_cell2 rfl rfl (res_load (Blk.new w 67 #[.bool false, .bool true, .bool false, .bool false]) Try.underlying67 rfl (by kernel_rfl))) rfl ⟨rfl, belowAlloc (Below.refl _ _) _⟩
      · by_cases h4 : k = 4
        · subst h4
          go_enter Try.func29, Try.ntmps29
          go_wp2
          exact bodyPost_ret (results_cell2 rfl rfl (res_load (Blk.new w 67 #[.bool false, .bool false, .bool true, .bool false]) Try.underlying67 rfl (by kernel_rfl))) rfl ⟨rfl, belowAlloc (Below.refl _ _) _⟩
        · by_cases h5 : k = 5
          · subst h5
            go_enter Try.func29, Try.ntmps29
            go_wp2
            exact bodyPost_ret (results_cell2 rfl rfl (res_load (Blk.new w 67 #[.bool false, .bool false, .bool false, .bool true]) Try.underlying67 rfl (by kernel_rfl))) rfl ⟨rfl, belowAlloc (Below.refl _ _) _⟩
          · by_cases h6 : k = 6
            · subst h6
              go_enter Try.func29, Try.ntmps29
              go_wp2
              exact bodyPost_ret (results_cell2 rfl rfl (res_load (Blk.new w 67 #[.bool true, .bool false, .bool false, .bool true]) Try.underlying67 rfl (by kernel_rfl))) rfl ⟨rfl, belowAlloc (Below.refl _ _) _⟩
            · have hk : isKind k = false := by unfold isKind; simp; omega
              have hv : hasV k = #[.bool false, .bool false, .bool false, .bool false] := by unfold hasV hasSeq hasName hasId hasSeals; simp [h1, h2, h3, h4, h5, h6]
              rw [hk, hv]
              clear hk hv
              go_enter Try.func29, Try.ntmps29
              go_wp2
              exact bodyPost_ret (results_cell2 rfl rfl (res_load (Blk.new w 67 #[.bool false, .bool false, .bool false, .bool false]) Try.underlying67 rfl (by kernel_rfl))) rfl ⟨rfl, belowAlloc (Below.refl _ _) _⟩
end Go.Proofs.Ytedjolkkidciiaa
