/- Package key: May, MayValue. For every length. -/
import Derived.Test.YtnkkieiofpplgaaByt
namespace Go.Proofs.Ytnkkieiofpplgaa
open Go.RowKit

def mayB (n : Nat) : Bool := decide (1 ≤ n) && decide (n ≤ 64)
theorem mayK_any (A : Option Addr) (n c : Nat) (w : World) (hn : n ≤ 9223372036854775807) : Calls Try.prog 31 #[.slice A n c] w fun e w' => e = .returned (.bool (mayB n)) ∧ w = w' := by
  by_cases h1 : 1 ≤ n
  · by_cases h2 : n ≤ 64
    · have e : mayB n = true := by unfold mayB; simp; omega
      rw [e]
      clear e
      go_enter Try.func31, Try.ntmps31
      go_wp2
      go_ret
      exact ⟨by simp <;> omega, rfl⟩
    · have e : mayB n = false := by unfold mayB; simp; omega
      rw [e]
      clear e
      go_enter Try.func31, Try.ntmps31
      go_wp2
      go_ret
      exact ⟨by simp <;> omega, rfl⟩
  · have e : mayB n = false := by unfold mayB; simp; omega
    rw [e]
    clear e
    go_enter Try.func31, Try.ntmps31
    go_wp2
    go_ret
    exact ⟨by simp <;> omega, rfl⟩
def mayV (n : Nat) : Bool := decide (n ≤ 1024)
theorem mayKV_any (A : Option Addr) (n c : Nat) (w : World) : Calls Try.prog 41 #[.slice A n c] w fun e w' => e = .returned (.bool (mayV n)) ∧ w = w' := by
  have e : ((n : Int) ≤ 1024) = (n ≤ 1024) := by simp; omega
  by_cases h1 : n ≤ 1024
  · have e : mayV n = true := by unfold mayV; simp; omega
    rw [e]
    clear e
    go_enter Try.func41, Try.ntmps41
    go_wp2
    go_ret
    exact ⟨by simp <;> omega, rfl⟩
  · have e : mayV n = false := by unfold mayV; simp; omega
    rw [e]
    clear e
    go_enter Try.func41, Try.ntmps41
    go_wp2
    go_ret
    exact ⟨by simp <;> omega, rfl⟩
end Go.Proofs.Ytnkkieiofpplgaa
