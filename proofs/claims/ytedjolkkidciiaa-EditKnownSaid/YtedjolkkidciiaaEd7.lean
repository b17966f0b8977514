/- Package edit: MaySeal. For every seal. -/
import Derived.Test.YtedjolkkidciiaaEdLaw
import Derived.Test.YtedjolkkidciiaaGB
namespace Go.Proofs.Ytedjolkkidciiaa
open Go.RowKit
attribute [local go_sem] Oper.semAt_some

set_option maxRecDepth 100000 in
set_option maxHeartbeats 4000000 in
theorem maySl_any (s : Sl) (hs : s.fits) (w : World) : Calls Try.prog 16 #[.agg s.cells.toArray] w fun e w' => e = .returned (.bool (maySl s)) ∧ Below w.heap.size w w' := by
  obtain ⟨i, z, m, f, l⟩ := s
  obtain ⟨hi, hz, hm, hf, hl⟩ := hs
  dsimp only at hi hz hm hf hl
  rw [show (Sl.mk i z m f l).cells.toArray = #[.int .u32 (i : Int), .int .u32 (z : Int), .int .u32 (m : Int), .int .u64 (f : Int), .int .u64 (l : Int)] from rfl]
  by_cases h0 : 1 ≤ i
  · have x : ¬ (i : Int) < 1 := by omega
    by_cases h1 : i ≤ 16777215
    · have y : ¬ 16777215 < (i : Int) := by omega
      by_cases h2 : 16 ≤ z
      · have x2 : ¬ (z : Int) < 16 := by omega
        by_cases h3 : z ≤ 16777216
        · have y2 : ¬ 16777216 < (z : Int) := by omega
          by_cases hm0 : m = 0
          · have w0 : (m : Int) = 0 := by omega
            by_cases hf0 : f = 0
            · have w1 : (f : Int) = 0 := by omega
              by_cases hl0 : l = 0
              · have w2 : (l : Int) = 0 := by omega
                have e : maySl ⟨i, z, m, f, l⟩ = true := by unfold maySl; by_cases hq : m = 0 <;> simp [hq] <;> omega
                rw [e]
                clear e
                go_enter Try.func16, Try.ntmps16
                go_wp2
                exact bodyPost_ret (results_tmp rfl _ _ _) rfl ⟨by simp <;> omega, belowAlloc (Below.refl _ _) _⟩
              · have w2 : ¬ (l : Int) = 0 := by omega
                have e : maySl ⟨i, z, m, f, l⟩ = false := by unfold maySl; by_cases hq : m = 0 <;> simp [hq] <;> omega
                rw [e]
                clear e
                go_enter Try.func16, Try.ntmps16
                go_wp2
                exact bodyPost_ret (results_tmp rfl _ _ _) rfl ⟨by simp <;> omega, belowAlloc (Below.refl _ _) _⟩
            · have w1 : ¬ (f : Int) = 0 := by omega
              have e : maySl ⟨i, z, m, f, l⟩ = false := by unfold maySl; by_cases hq : m = 0 <;> simp [hq] <;> omega
              rw [e]
              clear e
              go_enter Try.func16, Try.ntmps16
              go_wp2
              exact bodyPost_ret (results_tmp rfl _ _ _) rfl ⟨by simp <;> omega, belowAlloc (Below.refl _ _) _⟩
          · have w0 : ¬ (m : Int) = 0 := by omega
            by_cases hf1 : 1 ≤ f
            · have w1 : 1 ≤ (f : Int) := by omega
              by_cases hfl : f ≤ l
              · have w2 : (f : Int) ≤ (l : Int) := by omega
                by_cases hlM : l ≤ 1099511627776
                · have w3 : (l : Int) ≤ 1099511627776 := by omega
                  obtain ⟨d, hd⟩ : ∃ d, d = l - f := ⟨_, rfl⟩
                  obtain ⟨m1, hm1⟩ : ∃ d, d = m - 1 := ⟨_, rfl⟩
                  have w4 : (l : Int) - (f : Int) = (d : Int) := by omega
                  have w5 : (m : Int) - 1 = (m1 : Int) := by omega
                  by_cases hmd : m1 ≤ d
                  · have w6 : (m1 : Int) ≤ (d : Int) := by omega
                    have e : maySl ⟨i, z, m, f, l⟩ = true := by unfold maySl; by_cases hq : m = 0 <;> simp [hq] <;> omega
                    clear hd hm1
                    rw [e]
                    clear e
                    go_enter Try.func16, Try.ntmps16
                    go_wp2
                    exact bodyPost_ret (results_tmp rfl _ _ _) rfl ⟨by simp <;> omega, belowAlloc (Below.refl _ _) _⟩
                  · have w6 : ¬ (m1 : Int) ≤ (d : Int) := by omega
                    have e : maySl ⟨i, z, m, f, l⟩ = false := by unfold maySl; by_cases hq : m = 0 <;> simp [hq] <;> omega
                    clear hd hm1
                    rw [e]
                    clear e
                    go_enter Try.func16, Try.ntmps16
                    go_wp2
                    exact bodyPost_ret (results_tmp rfl _ _ _) rfl ⟨by simp <;> omega, belowAlloc (Below.refl _ _) _⟩
                · have w3 : ¬ (l : Int) ≤ 1099511627776 := by omega
                  have e : maySl ⟨i, z, m, f, l⟩ = false := by unfold maySl; by_cases hq : m = 0 <;> simp [hq] <;> omega
                  rw [e]
                  clear e
                  go_enter Try.func16, Try.ntmps16
                  go_wp2
                  exact bodyPost_ret (results_tmp rfl _ _ _) rfl ⟨by simp <;> omega, belowAlloc (Below.refl _ _) _⟩
              · have w2 : ¬ (f : Int) ≤ (l : Int) := by omega
                have e : maySl ⟨i, z, m, f, l⟩ = false := by unfold maySl; by_cases hq : m = 0 <;> simp [hq] <;> omega
                rw [e]
                clear e
                go_enter Try.func16, Try.ntmps16
                go_wp2
                exact bodyPost_ret (results_tmp rfl _ _ _) rfl ⟨by simp <;> omega, belowAlloc (Below.refl _ _) _⟩
            · have w1 : ¬ 1 ≤ (f : Int) := by omega
              have e : maySl ⟨i, z, m, f, l⟩ = false := by unfold maySl; by_cases hq : m = 0 <;> simp [hq] <;> omega
              rw [e]
              clear e
              go_enter Try.func16, Try.ntmps16
              go_wp2
              exact bodyPost_ret (results_tmp rfl _ _ _) rfl ⟨by simp <;> omega, belowAlloc (Below.refl _ _) _⟩
        · have y2 : 16777216 < (z : Int) := by omega
          have e : maySl ⟨i, z, m, f, l⟩ = false := by unfold maySl; by_cases hq : m = 0 <;> simp [hq] <;> omega
          rw [e]
          clear e
          go_enter Try.func16, Try.ntmps16
          go_wp2
          exact bodyPost_ret (results_tmp rfl _ _ _) rfl ⟨by simp <;> omega, belowAlloc (Below.refl _ _) _⟩
      · have x2 : (z : Int) < 16 := by omega
        have e : maySl ⟨i, z, m, f, l⟩ = false := by unfold maySl; by_cases hq : m = 0 <;> simp [hq] <;> omega
        rw [e]
        clear e
        go_enter Try.func16, Try.ntmps16
        go_wp2
        exact bodyPost_ret (results_tmp rfl _ _ _) rfl ⟨by simp <;> omega, belowAlloc (Below.refl _ _) _⟩
    · have y : 16777215 < (i : Int) := by omega
      have e : maySl ⟨i, z, m, f, l⟩ = false := by unfold maySl; by_cases hq : m = 0 <;> simp [hq] <;> omega
      rw [e]
      clear e
      go_enter Try.func16, Try.ntmps16
      go_wp2
      exact bodyPost_ret (results_tmp rfl _ _ _) rfl ⟨by simp <;> omega, belowAlloc (Below.refl _ _) _⟩
  · have x : (i : Int) < 1 := by omega
    have e : maySl ⟨i, z, m, f, l⟩ = false := by unfold maySl; by_cases hq : m = 0 <;> simp [hq] <;> omega
    rw [e]
    clear e
    go_enter Try.func16, Try.ntmps16
    go_wp2
    exact bodyPost_ret (results_tmp rfl _ _ _) rfl ⟨by simp <;> omega, belowAlloc (Below.refl _ _) _⟩
end Go.Proofs.Ytedjolkkidciiaa
