/- EditCalls answers true for every input, and leaves it as it was. No condition. -/
import Derived.Test.YtedjolkkidciiaaEdCalls
import Derived.Test.YtedjolkkidciiaaOpenE
namespace Go.Proofs.Ytedjolkkidciiaa
open Go.ChangeShapes Go.WideShapes Go.ChangeAt Go.RowKit

theorem Try.own : ownKnob Try.prog.godebug = none := by kernel_rfl
theorem Try.laidOut : laidOutB Try.prog = true := by kernel_rfl

set_option maxRecDepth 100000 in
theorem editCalls_lifted (os : Os) (started : os.Started) (H : Type) (enc : TypeId × Value → H) :
    ReturnsInHanded {} Try.checked os 6 .any (Rows.editCallsSpec.pre6 enc Try.prog Try.f6 Rows.editCallsRow.domain false) (Rows.editCallsSpec.post enc Try.prog Try.f6 false true false false) := by
  refine returnsInHanded_of_change (C := Try.checked) Try.own started (by kernel_rfl) Try.func6
    (ChangeSpec.witness6 (enc := enc) (C := Try.checked) false ⟨#[], #[.agg #[.int .i64 0, .string ⟨#[]⟩, .int .u64 0, .int .u32 0, .slice none 0 0], .agg #[.int .i64 0, .string ⟨#[]⟩, .int .u64 0, .int .u32 0, .slice none 0 0], .agg #[.int .u32 0, .int .u32 0, .int .u32 0, .int .u64 0, .int .u64 0]], []⟩ 8 (by kernel_rfl) (by kernel_rfl) (by kernel_rfl) (by kernel_rfl)) ?_
  intro W base args ds gs before hval0 hW _ _
  have hval : ∀ (j : Nat) t v, Try.f6.params[j]? = some t → args[j]? = some v → Value.okWide Try.prog W .any base t v := hval0
  have hA := hW
  obtain ⟨p, q, hA, _, _, _, _⟩ := hA
  have hA : DataW.TrodAll enc Try.prog W 0 (fun _ => true) true Try.f6.params.toList args.toList ds p := hA
  rw [Try.params6] at hA hval
  obtain ⟨v0, vs0, d0, ds0, p0, q0, hargs, rfl, rfl, h0, r0⟩ := trodAll_cons hA
  obtain ⟨v1, vs1, d1, ds1, p1, q1, rfl, rfl, rfl, h1, r1⟩ := trodAll_cons r0
  obtain ⟨v2, vs2, d2, ds2, p2, q2, rfl, rfl, rfl, h2, r2⟩ := trodAll_cons r1
  obtain ⟨rfl, rfl, rfl⟩ := trodAll_nil r2
  obtain rfl : args = #[v0, v1, v2] := by cases args; simp_all
  obtain ⟨x0, A0, n0, c0, rfl, hf0, hl0, hnc0, hr0⟩ := open_edit Try.underlying28 (by kernel_rfl) (by kernel_rfl) Try.underlying3 Try.underlying9 Try.underlying24 Try.underlying25 Try.underlying26 Try.underlying40 (by kernel_rfl) (by kernel_rfl) Try.underlying25 Try.underlying25 Try.underlying25 Try.underlying24 Try.underlying24 (hval 0 28 v0 rfl rfl) h0
  obtain ⟨x1, A1, n1, c1, rfl, hf1, hl1, hnc1, hr1⟩ := open_edit Try.underlying28 (by kernel_rfl) (by kernel_rfl) Try.underlying3 Try.underlying9 Try.underlying24 Try.underlying25 Try.underlying26 Try.underlying40 (by kernel_rfl) (by kernel_rfl) Try.underlying25 Try.underlying25 Try.underlying25 Try.underlying24 Try.underlying24 (hval 1 28 v1 rfl rfl) h1
  obtain ⟨s2, rfl, hf2⟩ := open_seal Try.underlying40 (by kernel_rfl) (by kernel_rfl) Try.underlying25 Try.underlying25 Try.underlying25 Try.underlying24 Try.underlying24 (hval 2 40 v2 rfl rfl) h2
  exact law_post (P := Try.prog) (fn := Try.f6) 4 Try.laidOut rfl
    (by rw [Try.params6]; intro t ht; simp at ht; rcases ht with rfl | rfl | rfl <;> exact ⟨by kernel_rfl, of_decide_eq_true (by kernel_rfl)⟩)
    (by kernel_rfl) Try.underlying4 ⟨rfl, rfl, rfl⟩ hW (calls_walk x0 x1 s2 hf2 hf0 hf1 A0 n0 c0 A1 n1 c1 W hl0 hl1 hnc0 hnc1 hr0 hr1)

theorem editCalls_holds : Rows.EditCallsSaid :=
  OpenClaim.holds_of_wide 6 Try.f6 rfl rfl rfl rfl rfl rfl rfl ⟨rfl, rfl, rfl, rfl, rfl⟩ rfl rfl rfl rfl rfl (by kernel_rfl) Try.func6 (by kernel_rfl)
    (of_decide_eq_true (by kernel_rfl)) (by unfold Func.isWrapper; first | (rw [if_pos (by decide +kernel)]; kernel_rfl) | (rw [if_neg (by decide +kernel)]; exact ⟨rfl, rfl⟩))
    (fun os started H enc _ => editCalls_lifted os started H enc)
end Go.Proofs.Ytedjolkkidciiaa
