/- Package key: May, MayValue. For every length. -/
import Derived.Test.YtkkhojealihghaaByt
namespace Go.Proofs.Ytkkhojealihghaa
open Go.RowKit

def mayB (n : Nat) : Bool := decide (1 ≤ n) && decide (n ≤ 64)
theorem mayK_any (A : Option Addr) (n c : Nat) (w : World) (hn : n ≤ 9223372036854775807) : Calls Try.prog 30 #[.slice A n c] w fun e w' => e = .returned (.bool (mayB n)) ∧ w = w' := by
  by_cases h1 : 1 ≤ n
  · by_cases h2 : n ≤ 64
    · have e : mayB n = true := by unfold mayB; simp; omega
      rw [e]
      clear e
      go_enter Try.func30, Try.ntmps30
      go_wp2
      go_ret
      exact ⟨by simp <;> omega, rfl⟩
    · have e : mayB n = false := by unfold mayB; simp; omega
      rw [e]
      clear e
      go_enter Try.func30, Try.ntmps30
      go_wp2
      go_ret
      exact ⟨by simp <;> omega, rfl⟩
  · have e : mayB n = false := by unfold mayB; simp; omega
    rw [e]
    clear e
    go_enter Try.func30, Try.ntmps30
    go_wp2
    go_ret
    exact ⟨by simp <;> omega, rfl⟩
def mayV (n : Nat) : Bool := decide (n ≤ 1024)
end Go.Proofs.Ytkkhojealihghaa
