/- s[k:] and the first bytes of a slice. Plain laws, no condition of their own. -/
import Derived.Test.YtfapipamohlniaaDoorByt
import Derived.Test.YtfapipamohlniaaDoorAppK
namespace Go.Proofs.YtfapipamohlniaaDoor
open Go.RowKit

theorem btake_eq (l : List UInt8) (k : Nat) : (bcells l).take k = bcells (l.take k) := by unfold bcells; rw [List.map_take]
set_option maxRecDepth 10000 in
theorem run_low (W : World) {b off n c k : Nat} (hk : k ≤ n) (_hc : n ≤ c) : (Instr.sliceAt 25 (.slice (some ⟨b, off, none⟩) n c) (some (.int .i64 (k : Int))) none none).run Tryd.prog W = .ok (.slice (if c = k then some ⟨b, off, none⟩ else some ⟨b, off + k, none⟩) (n - k) (c - k)) W := by
  have e2 : (sizeOf (Tryd.prog.elem 25)).run Tryd.prog W = .ok 1 W := run_sizeOf W (i := (Tryd.prog.info? 5).get!) (by kernel_rfl)
  rw [run_sliceAt_slice W _ _ _ _ _ (by kernel_rfl), run_slice_l W 25 _ _ _ (by kernel_rfl) .i64 (k : Int) (by omega) (by omega), e2]
  simp only [Result.andThen, sliced, Int.toNat_natCast]
  by_cases h : c = k
  · simp [h]
  · simp [h, add_none]
theorem Rd.bdrop {w : World} {B n b off : Nat} {l : List UInt8} (h : Rd w B 1 (some ⟨b, off, none⟩) n (bcells l)) {k : Nat} (hk : k ≤ n) : Rd w B 1 (some ⟨b, off + k, none⟩) (n - k) (bcells (l.drop k)) := by
  have := h.drop hk
  unfold bcells at this ⊢
  rw [Nat.mul_one] at this
  rw [List.map_drop]
  exact this

end Go.Proofs.YtfapipamohlniaaDoor
