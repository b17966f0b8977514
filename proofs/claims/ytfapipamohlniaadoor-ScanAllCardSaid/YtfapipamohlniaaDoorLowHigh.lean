/- b[i:k] of a slice of bytes. Plain, no condition. -/
import Derived.Test.YtfapipamohlniaaDoorLow
namespace Go.Proofs.YtfapipamohlniaaDoor
open Go.RowKit

/-- where b[i:..] begins -/
def cutA (A : Option Addr) (c i : Nat) : Option Addr := if c = i then A else A.map (·.add (i * 1))
set_option maxRecDepth 10000 in
theorem run_lh (W : World) {A : Option Addr} {n c i k : Nat} (hi : i ≤ k) (hk : k ≤ c) (I K : Int) (eI : I = (i : Int)) (eK : K = (k : Int)) : (Instr.sliceAt 25 (.slice A n c) (some (.int .i64 I)) (some (.int .i64 K)) none).run Tryd.prog W = .ok (.slice (cutA A c i) (k - i) (c - i)) W := by
  subst eI; subst eK
  have e2 : (sizeOf (Tryd.prog.elem 25)).run Tryd.prog W = .ok 1 W := run_sizeOf W (i := (Tryd.prog.info? 5).get!) (by kernel_rfl)
  rw [run_sliceAt_slice W _ _ _ _ _ (by kernel_rfl), run_slice_lh W 25 _ _ _ (by kernel_rfl) .i64 .i64 (i : Int) (k : Int) (by omega) (by omega) (by omega), e2]
  simp only [Result.andThen, sliced, Int.toNat_natCast]
  rfl
theorem Rd.cut {w : World} {B n c : Nat} {A : Option Addr} {l : List UInt8} (h : Rd w B 1 A n (bcells l)) (hnc : n ≤ c) {i k : Nat} (hi : i ≤ k) (hk : k ≤ n) : Rd w B 1 (cutA A c i) (k - i) (bcells ((l.take k).drop i)) := by
  have hln := h.1
  rw [bcells_len, Nat.mul_one] at hln
  have h1 : Rd w B 1 A k (bcells (l.take k)) := by
    have := h.take hk
    rwa [Nat.mul_one, btake_eq] at this
  by_cases hki : k = i
  · subst hki
    have e : (l.take k).drop k = [] := by rw [List.drop_eq_nil_of_le]; rw [List.length_take]; omega
    rw [e, Nat.sub_self]
    exact ⟨rfl, by unfold maxLen; omega, fun h => absurd h (by omega)⟩
  · obtain ⟨b, off, rfl, _, _⟩ := h1.2.2 (by omega)
    have h2 := h1.bdrop (k := i) hi
    have e : cutA (some ⟨b, off, none⟩) c i = some ⟨b, off + i, none⟩ := by
      unfold cutA
      rw [if_neg (by omega), Nat.mul_one]
      simp [add_none]
    rw [e]
    exact h2
end Go.Proofs.YtfapipamohlniaaDoor
