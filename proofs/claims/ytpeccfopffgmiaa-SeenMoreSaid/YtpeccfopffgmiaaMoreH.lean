/- SeenMore answers true for every input, and leaves it as it was. No condition. -/
import Derived.Test.YtpeccfopffgmiaaMore
import Derived.Test.YtpeccfopffgmiaaOpen
namespace Go.Proofs.Ytpeccfopffgmiaa
open Go.ChangeShapes Go.WideShapes Go.ChangeAt Go.RowKit

theorem Try.own : ownKnob Try.prog.godebug = none := by kernel_rfl
theorem Try.laidOut : laidOutB Try.prog = true := by kernel_rfl

theorem open_steps {H : Type} {enc : TypeId × Value → H} {w : World} {A : Option Addr} {n c : Nat} {d : DataW H} {p : List MemPlace} (h : DataW.Trod enc Try.prog w 0 (fun _ => true) true 41 (.slice A n c) d p) :
    ∃ l : List Stp, l.length = n ∧ Rd w w.heap.size 2 A n (scells l) ∧ n ≤ c ∧ c ≤ maxLen ∧ ∀ v ∈ l, 0 ≤ v.1 ∧ v.1 ≤ 255 :=
  rd_slice_map (fun v : Stp => [Value.int .u8 v.1, Value.bool v.2]) (fun v => 0 ≤ v.1 ∧ v.1 ≤ 255) (Nat.succ_pos 1) Try.underlying41 (by kernel_rfl)
    (fun cs fuel y _ hy => by
      obtain ⟨v0, v1, n, y0, y1, rfl, g0, g1⟩ := fields2 Try.underlying57 (by kernel_rfl) (by kernel_rfl) hy
      obtain ⟨a, ha, _, hw⟩ := DataW.trod_int Try.underlying5 g0
      obtain ⟨b, hb, _⟩ := DataW.trod_bool Try.underlying4 g1
      simp only [List.cons.injEq, and_true] at ha hb
      subst ha; subst hb
      exact ⟨(a, b), rfl, by simpa [Lit.wf, IntKind.min, IntKind.max, IntKind.signed, IntKind.bits] using hw⟩) h

set_option maxRecDepth 100000 in
theorem seenMore_lifted (os : Os) (started : os.Started) (H : Type) (enc : TypeId × Value → H) :
    ReturnsInHanded {} Try.checked os 5 .any (Rows.seenMoreSpec.pre6 enc Try.prog Try.f5 Rows.seenMoreRow.domain false) (Rows.seenMoreSpec.post enc Try.prog Try.f5 false true false false) := by
  refine returnsInHanded_of_change (C := Try.checked) Try.own started (by kernel_rfl) Try.func5
    (ChangeSpec.witness6 (enc := enc) (C := Try.checked) false ⟨#[], #[.slice none 0 0, .slice none 0 0, .int .u64 0, .int .u8 0], []⟩ 8 (by kernel_rfl) (by kernel_rfl) (by kernel_rfl) (by kernel_rfl)) ?_
  intro W base args ds gs before hval0 hW _ _
  have hval : ∀ (j : Nat) t v, Try.f5.params[j]? = some t → args[j]? = some v → Value.okWide Try.prog W .any base t v := hval0
  have hA := hW
  obtain ⟨p, q, hA, _, _, _, _⟩ := hA
  have hA : DataW.TrodAll enc Try.prog W 0 (fun _ => true) true Try.f5.params.toList args.toList ds p := hA
  rw [Try.params5] at hA hval
  obtain ⟨v0, vs0, d0, ds0, p0, q0, hargs, rfl, rfl, h0, r0⟩ := trodAll_cons hA
  obtain ⟨v1, vs1, d1, ds1, p1, q1, rfl, rfl, rfl, h1, r1⟩ := trodAll_cons r0
  obtain ⟨v2, vs2, d2, ds2, p2, q2, rfl, rfl, rfl, h2, r2⟩ := trodAll_cons r1
  obtain ⟨v3, vs3, d3, ds3, p3, q3, rfl, rfl, rfl, h3, r3⟩ := trodAll_cons r2
  obtain ⟨rfl, rfl, rfl⟩ := trodAll_nil r3
  obtain rfl : args = #[v0, v1, v2, v3] := by cases args; simp_all
  obtain ⟨A0, n0, c0, rfl⟩ := okWide_slice Try.underlying41 (hval 0 41 v0 rfl rfl)
  obtain ⟨A1, n1, c1, rfl⟩ := okWide_slice Try.underlying23 (hval 1 23 v1 rfl rfl)
  obtain ⟨x2, rfl, rfl, rfl, w2⟩ := open_int Try.underlying25 (hval 2 25 v2 rfl rfl) h2
  obtain ⟨x3, rfl, rfl, rfl, w3⟩ := open_int Try.underlying5 (hval 3 5 v3 rfl rfl) h3
  obtain ⟨l0, hl0, hr0, hnc0, hcm0, hw0⟩ := open_steps h0
  obtain ⟨l1, hl1, hr1, hnc1, hcm1, hw1⟩ := rd_ints Try.underlying23 Try.underlying25 (by kernel_rfl) h1
  exact law_post (P := Try.prog) (fn := Try.f5) 4 Try.laidOut rfl
    (by rw [Try.params5]; intro t ht; simp at ht; rcases ht with rfl | rfl | rfl | rfl <;> exact ⟨by kernel_rfl, of_decide_eq_true (by kernel_rfl)⟩)
    (by kernel_rfl) Try.underlying4 ⟨rfl, rfl, rfl⟩ hW (more_walk l0 A0 n0 c0 l1 A1 n1 c1 x2 x3 W hl0 hl1 hw0 hnc1 (by have := w3; simp [Lit.wf, IntKind.min, IntKind.max, IntKind.signed, IntKind.bits] at this; omega) (by have := w3; simp [Lit.wf, IntKind.min, IntKind.max, IntKind.signed, IntKind.bits] at this; omega) hr0 hr1)

theorem seenMore_holds : Rows.SeenMoreSaid :=
  OpenClaim.holds_of_wide 5 Try.f5 rfl rfl rfl rfl rfl rfl rfl ⟨rfl, rfl, rfl, rfl, rfl⟩ rfl rfl rfl rfl rfl (by kernel_rfl) Try.func5 (by kernel_rfl)
    (of_decide_eq_true (by kernel_rfl)) (by unfold Func.isWrapper; first | (rw [if_pos (by decide +kernel)]; kernel_rfl) | (rw [if_neg (by decide +kernel)]; exact ⟨rfl, rfl⟩))
    (fun os started H enc _ => seenMore_lifted os started H enc)
end Go.Proofs.Ytpeccfopffgmiaa
