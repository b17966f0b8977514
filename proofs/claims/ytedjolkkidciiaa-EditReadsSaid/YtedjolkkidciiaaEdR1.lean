/- The document's edits: MaySeal, Parts. For every seal, every kind. -/
import Derived.Test.YtedjolkkidciiaaEdLaw
import Derived.Test.YtedjolkkidciiaaGB
namespace Go.Proofs.Ytedjolkkidciiaa
open Go.RowKit
attribute [local go_sem] Oper.semAt_some

set_option maxRecDepth 100000 in
set_option maxHeartbeats 4000000 in
theorem rmaySl_any (s : Sl) (hs : s.fits) (w : World) : Calls Try.prog 22 #[.agg s.cells.toArray] w fun e w' => e = .returned (.bool (maySl s)) ∧ Below w.heap.size w w' := by
  obtain ⟨i, z, m, f, l⟩ := s
  obtain ⟨hi, hz, hm, hf, hl⟩ := hs
  dsimp only at hi hz hm hf hl
  rw [show (Sl.mk i z m f l).cells.toArray = #[.int .u32 (i : Int), .int .u32 (z : Int), .int .u32 (m : Int), .int .u64 (f : Int), .int .u64 (l : Int)] from rfl]
  by_cases h0 : 1 ≤ i
  · have x : ¬ (i : Int) = 0 := by omega
    by_cases h1 : i ≤ 16777215
    · have y : ¬ 16777215 < (i : Int) := by omega
      by_cases h2 : 16 ≤ z
      · have x2 : ¬ (z : Int) < 16 := by omega
        by_cases h3 : z ≤ 16777216
        · have y2 : ¬ 16777216 < (z : Int) := by omega
          by_cases hm0 : m = 0
          · have w0 : (m : Int) = 0 := by omega
            by_cases hf0 : f = 0
            · have w1 : (f : Int) = 0 := by omega
              by_cases hl0 : l = 0
              · have w2 : (l : Int) = 0 := by omega
                have e : maySl ⟨i, z, m, f, l⟩ = true := by unfold maySl; by_cases hq : m = 0 <;> simp [hq] <;> omega
                rw [e]
                clear e
                go_enter Try.func22, Try.ntmps22
                go_wp2
                exact bodyPost_ret (results_tmp rfl _ _ _) rfl ⟨by simp <;> omega, belowAlloc (Below.refl _ _) _⟩
              · have w2 : ¬ (l : Int) = 0 := by omega
                have e : maySl ⟨i, z, m, f, l⟩ = false := by unfold maySl; by_cases hq : m = 0 <;> simp [hq] <;> omega
                rw [e]
                clear e
                go_enter Try.func22, Try.ntmps22
                go_wp2
                exact bodyPost_ret (results_tmp rfl _ _ _) rfl ⟨by simp <;> omega, belowAlloc (Below.refl _ _) _⟩
            · have w1 : ¬ (f : Int) = 0 := by omega
              have e : maySl ⟨i, z, m, f, l⟩ = false := by unfold maySl; by_cases hq : m = 0 <;> simp [hq] <;> omega
              rw [e]
              clear e
              go_enter Try.func22, Try.ntmps22
              go_wp2
              exact bodyPost_ret (results_tmp rfl _ _ _) rfl ⟨by simp <;> omega, belowAlloc (Below.refl _ _) _⟩
          · have w0 : ¬ (m : Int) = 0 := by omega
            by_cases hf1 : 1 ≤ f
            · have w1 : ¬ (f : Int) = 0 := by omega
              by_cases hfl : f ≤ l
              · have w2 : ¬ (l : Int) < (f : Int) := by omega
                by_cases hlM : l ≤ 1099511627776
                · have w3 : ¬ 1099511627776 < (l : Int) := by omega
                  obtain ⟨d, hd⟩ : ∃ d, d = l - f := ⟨_, rfl⟩
                  obtain ⟨d1, hd1⟩ : ∃ e, e = d + 1 := ⟨_, rfl⟩
                  have w4 : (l : Int) - (f : Int) = (d : Int) := by omega
                  have w5 : (d : Int) + 1 = (d1 : Int) := by omega
                  by_cases hmd : m ≤ d1
                  · have w6 : (m : Int) ≤ (d1 : Int) := by omega
                    have e : maySl ⟨i, z, m, f, l⟩ = true := by unfold maySl; by_cases hq : m = 0 <;> simp [hq] <;> omega
                    clear hd hd1
                    rw [e]
                    clear e
                    go_enter Try.func22, Try.ntmps22
                    go_wp2
                    exact bodyPost_ret (results_tmp rfl _ _ _) rfl ⟨by simp <;> omega, belowAlloc (Below.refl _ _) _⟩
                  · have w6 : ¬ (m : Int) ≤ (d1 : Int) := by omega
                    have e : maySl ⟨i, z, m, f, l⟩ = false := by unfold maySl; by_cases hq : m = 0 <;> simp [hq] <;> omega
                    clear hd hd1
                    rw [e]
                    clear e
                    go_enter Try.func22, Try.ntmps22
                    go_wp2
                    exact bodyPost_ret (results_tmp rfl _ _ _) rfl ⟨by simp <;> omega, belowAlloc (Below.refl _ _) _⟩
                · have w3 : 1099511627776 < (l : Int) := by omega
                  have e : maySl ⟨i, z, m, f, l⟩ = false := by unfold maySl; by_cases hq : m = 0 <;> simp [hq] <;> omega
                  rw [e]
                  clear e
                  go_enter Try.func22, Try.ntmps22
                  go_wp2
                  exact bodyPost_ret (results_tmp rfl _ _ _) rfl ⟨by simp <;> omega, belowAlloc (Below.refl _ _) _⟩
              · have w2 : (l : Int) < (f : Int) := by omega
                have e : maySl ⟨i, z, m, f, l⟩ = false := by unfold maySl; by_cases hq : m = 0 <;> simp [hq] <;> omega
                rw [e]
                clear e
                go_enter Try.func22, Try.ntmps22
                go_wp2
                exact bodyPost_ret (results_tmp rfl _ _ _) rfl ⟨by simp <;> omega, belowAlloc (Below.refl _ _) _⟩
            · have w1 : (f : Int) = 0 := by omega
              have e : maySl ⟨i, z, m, f, l⟩ = false := by unfold maySl; by_cases hq : m = 0 <;> simp [hq] <;> omega
              rw [e]
              clear e
              go_enter Try.func22, Try.ntmps22
              go_wp2
              exact bodyPost_ret (results_tmp rfl _ _ _) rfl ⟨by simp <;> omega, belowAlloc (Below.refl _ _) _⟩
        · have y2 : 16777216 < (z : Int) := by omega
          have e : maySl ⟨i, z, m, f, l⟩ = false := by unfold maySl; by_cases hq : m = 0 <;> simp [hq] <;> omega
          rw [e]
          clear e
          go_enter Try.func22, Try.ntmps22
          go_wp2
          exact bodyPost_ret (results_tmp rfl _ _ _) rfl ⟨by simp <;> omega, belowAlloc (Below.refl _ _) _⟩
      · have x2 : (z : Int) < 16 := by omega
        have e : maySl ⟨i, z, m, f, l⟩ = false := by unfold maySl; by_cases hq : m = 0 <;> simp [hq] <;> omega
        rw [e]
        clear e
        go_enter Try.func22, Try.ntmps22
        go_wp2
        exact bodyPost_ret (results_tmp rfl _ _ _) rfl ⟨by simp <;> omega, belowAlloc (Below.refl _ _) _⟩
    · have y : 16777215 < (i : Int) := by omega
      have e : maySl ⟨i, z, m, f, l⟩ = false := by unfold maySl; by_cases hq : m = 0 <;> simp [hq] <;> omega
      rw [e]
      clear e
      go_enter Try.func22, Try.ntmps22
      go_wp2
      exact bodyPost_ret (results_tmp rfl _ _ _) rfl ⟨by simp <;> omega, belowAlloc (Below.refl _ _) _⟩
  · have x : (i : Int) = 0 := by omega
    have e : maySl ⟨i, z, m, f, l⟩ = false := by unfold maySl; by_cases hq : m = 0 <;> simp [hq] <;> omega
    rw [e]
    clear e
    go_enter Try.func22, Try.ntmps22
    go_wp2
    exact bodyPost_ret (results_tmp rfl _ _ _) rfl ⟨by simp <;> omega, belowAlloc (Below.refl _ _) _⟩

theorem results_tmp4 {P : Program} {fn : Func} {tmps : Array Value} {w : World} {a b c d : Tmp} (h : fn.results = #[.tmp a, .tmp b, .tmp c, .tmp d]) :
    (results fn tmps).run P w = .ok (.tuple #[tmps.getD a undef, tmps.getD b undef, tmps.getD c undef, tmps.getD d undef]) w := by
  simp [results, h]
def partsV (k : Int) : Array Value := #[.bool (hasSeq k), .bool (hasName k), .bool (hasId k), .bool (hasSeals k)]
set_option maxRecDepth 100000 in
theorem rparts_any (k : Int) (w : World) : Calls Try.prog 27 #[.int .i64 k] w fun e w' => e = .returned (.tuple (partsV k)) ∧ w = w' := by
  by_cases h1 : k = 1
  · subst h1
    go_enter Try.func27, Try.ntmps27
    go_wp2
    exact bodyPost_ret (results_tmp4 rfl) rfl ⟨rfl, rfl⟩
  by_cases h2 : k = 2
  · subst h2
    go_enter Try.func27, Try.ntmps27
    go_wp2
    exact bodyPost_ret (results_tmp4 rfl) rfl ⟨rfl, rfl⟩
  by_cases h3 : k = 3
  · subst h3
    go_enter Try.func27, Try.ntmps27
    go_wp2
    exact bodyPost_ret (results_tmp4 rfl) rfl ⟨rfl, rfl⟩
  by_cases h4 : k = 4
  · subst h4
    go_enter Try.func27, Try.ntmps27
    go_wp2
    exact bodyPost_ret (results_tmp4 rfl) rfl ⟨rfl, rfl⟩
  by_cases h5 : k = 5
  · subst h5
    go_enter Try.func27, Try.ntmps27
    go_wp2
    exact bodyPost_ret (results_tmp4 rfl) rfl ⟨rfl, rfl⟩
  by_cases h6 : k = 6
  · subst h6
    go_enter Try.func27, Try.ntmps27
    go_wp2
    exact bodyPost_ret (results_tmp4 rfl) rfl ⟨rfl, rfl⟩
  have hv : partsV k = #[.bool false, .bool false, .bool false, .bool false] := by unfold partsV hasSeq hasName hasId hasSeals; simp [h1, h2, h3, h4, h5, h6]
  rw [hv]
  clear hv
  go_enter Try.func27, Try.ntmps27
  go_wp2
  exact bodyPost_ret (results_tmp4 rfl) rfl ⟨rfl, rfl⟩
end Go.Proofs.Ytedjolkkidciiaa
