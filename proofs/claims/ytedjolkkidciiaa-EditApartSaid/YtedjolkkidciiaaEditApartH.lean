/- EditApart answers true for every input, and leaves it as it was. No condition. -/
import Derived.Test.YtedjolkkidciiaaEdApart
import Derived.Test.YtedjolkkidciiaaOpenE
namespace Go.Proofs.Ytedjolkkidciiaa
open Go.ChangeShapes Go.WideShapes Go.ChangeAt Go.RowKit

theorem Try.own : ownKnob Try.prog.godebug = none := by kernel_rfl
theorem Try.laidOut : laidOutB Try.prog = true := by kernel_rfl

set_option maxRecDepth 100000 in
theorem editApart_lifted (os : Os) (started : os.Started) (H : Type) (enc : TypeId × Value → H) :
    ReturnsInHanded {} Try.checked os 8 .any (Rows.editApartSpec.pre6 enc Try.prog Try.f8 Rows.editApartRow.domain false) (Rows.editApartSpec.post enc Try.prog Try.f8 false true false false) := by
  refine returnsInHanded_of_change (C := Try.checked) Try.own started (by kernel_rfl) Try.func8
    (ChangeSpec.witness6 (enc := enc) (C := Try.checked) false ⟨#[], #[.agg #[.int .i64 0, .string ⟨#[]⟩, .int .u64 0, .int .u32 0, .slice none 0 0], .agg #[.int .i64 0, .string ⟨#[]⟩, .int .u64 0, .int .u32 0, .slice none 0 0]], []⟩ 8 (by kernel_rfl) (by kernel_rfl) (by kernel_rfl) (by kernel_rfl)) ?_
  intro W base args ds gs before hval0 hW _ _
  have hval : ∀ (j : Nat) t v, Try.f8.params[j]? = some t → args[j]? = some v → Value.okWide Try.prog W .any base t v := hval0
  have hA := hW
  obtain ⟨p, q, hA, _, _, _, _⟩ := hA
  have hA : DataW.TrodAll enc Try.prog W 0 (fun _ => true) true Try.f8.params.toList args.toList ds p := hA
  rw [Try.params8] at hA hval
  obtain ⟨v0, vs0, d0, ds0, p0, q0, hargs, rfl, rfl, h0, r0⟩ := trodAll_cons hA
  obtain ⟨v1, vs1, d1, ds1, p1, q1, rfl, rfl, rfl, h1, r1⟩ := trodAll_cons r0
  obtain ⟨rfl, rfl, rfl⟩ := trodAll_nil r1
  obtain rfl : args = #[v0, v1] := by cases args; simp_all
  obtain ⟨x0, A0, n0, c0, rfl, hf0, hl0, hnc0, hr0⟩ := open_edit Try.underlying28 (by kernel_rfl) (by kernel_rfl) Try.underlying3 Try.underlying9 Try.underlying24 Try.underlying25 Try.underlying26 Try.underlying40 (by kernel_rfl) (by kernel_rfl) Try.underlying25 Try.underlying25 Try.underlying25 Try.underlying24 Try.underlying24 (hval 0 28 v0 rfl rfl) h0
  obtain ⟨x1, A1, n1, c1, rfl, hf1, hl1, hnc1, hr1⟩ := open_edit Try.underlying28 (by kernel_rfl) (by kernel_rfl) Try.underlying3 Try.underlying9 Try.underlying24 Try.underlying25 Try.underlying26 Try.underlying40 (by kernel_rfl) (by kernel_rfl) Try.underlying25 Try.underlying25 Try.underlying25 Try.underlying24 Try.underlying24 (hval 1 28 v1 rfl rfl) h1
  exact law_post (P := Try.prog) (fn := Try.f8) 4 Try.laidOut rfl
    (by rw [Try.params8]; intro t ht; simp at ht; rcases ht with rfl | rfl <;> exact ⟨by kernel_rfl, of_decide_eq_true (by kernel_rfl)⟩)
    (by kernel_rfl) Try.underlying4 ⟨rfl, rfl, rfl⟩ hW (apart_walk x0 x1 hf0 hf1 A0 n0 c0 A1 n1 c1 W hl0 hl1 hnc0 hnc1 hr0 hr1)

theorem editApart_holds : Rows.EditApartSaid :=
  OpenClaim.holds_of_wide 8 Try.f8 rfl rfl rfl rfl rfl rfl rfl ⟨rfl, rfl, rfl, rfl, rfl⟩ rfl rfl rfl rfl rfl (by kernel_rfl) Try.func8 (by kernel_rfl)
    (of_decide_eq_true (by kernel_rfl)) (by unfold Func.isWrapper; first | (rw [if_pos (by decide +kernel)]; kernel_rfl) | (rw [if_neg (by decide +kernel)]; exact ⟨rfl, rfl⟩))
    (fun os started H enc _ => editApart_lifted os started H enc)
end Go.Proofs.Ytedjolkkidciiaa
