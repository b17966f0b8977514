/- EditForm answers true for every input, and leaves it as it was. No condition. -/
import Derived.Test.YtedjolkkidciiaaEdForm
import Derived.Test.YtedjolkkidciiaaOpenE
namespace Go.Proofs.Ytedjolkkidciiaa
open Go.ChangeShapes Go.WideShapes Go.ChangeAt Go.RowKit

theorem Try.own : ownKnob Try.prog.godebug = none := by kernel_rfl
theorem Try.laidOut : laidOutB Try.prog = true := by kernel_rfl

set_option maxRecDepth 100000 in
theorem editForm_lifted (os : Os) (started : os.Started) (H : Type) (enc : TypeId × Value → H) :
    ReturnsInHanded {} Try.checked os 7 .any (Rows.editFormSpec.pre6 enc Try.prog Try.f7 Rows.editFormRow.domain false) (Rows.editFormSpec.post enc Try.prog Try.f7 false true false false) := by
  refine returnsInHanded_of_change (C := Try.checked) Try.own started (by kernel_rfl) Try.func7
    (ChangeSpec.witness6 (enc := enc) (C := Try.checked) false ⟨#[], #[.agg #[.int .i64 0, .string ⟨#[]⟩, .int .u64 0, .int .u32 0, .slice none 0 0], .slice none 0 0, .int .u16 0], []⟩ 8 (by kernel_rfl) (by kernel_rfl) (by kernel_rfl) (by kernel_rfl)) ?_
  intro W base args ds gs before hval0 hW _ _
  have hval : ∀ (j : Nat) t v, Try.f7.params[j]? = some t → args[j]? = some v → Value.okWide Try.prog W .any base t v := hval0
  have hA := hW
  obtain ⟨p, q, hA, _, _, _, _⟩ := hA
  have hA : DataW.TrodAll enc Try.prog W 0 (fun _ => true) true Try.f7.params.toList args.toList ds p := hA
  rw [Try.params7] at hA hval
  obtain ⟨v0, vs0, d0, ds0, p0, q0, hargs, rfl, rfl, h0, r0⟩ := trodAll_cons hA
  obtain ⟨v1, vs1, d1, ds1, p1, q1, rfl, rfl, rfl, h1, r1⟩ := trodAll_cons r0
  obtain ⟨v2, vs2, d2, ds2, p2, q2, rfl, rfl, rfl, h2, r2⟩ := trodAll_cons r1
  obtain ⟨rfl, rfl, rfl⟩ := trodAll_nil r2
  obtain rfl : args = #[v0, v1, v2] := by cases args; simp_all
  obtain ⟨A1, n1, c1, rfl⟩ := okWide_slice Try.underlying22 (hval 1 22 v1 rfl rfl)
  obtain ⟨x2, rfl, rfl, rfl, w2⟩ := open_int Try.underlying54 (hval 2 54 v2 rfl rfl) h2
  obtain ⟨x0, A0, n0, c0, rfl, hf0, hl0, hnc0, hr0⟩ := open_edit Try.underlying28 (by kernel_rfl) (by kernel_rfl) Try.underlying3 Try.underlying9 Try.underlying24 Try.underlying25 Try.underlying26 Try.underlying40 (by kernel_rfl) (by kernel_rfl) Try.underlying25 Try.underlying25 Try.underlying25 Try.underlying24 Try.underlying24 (hval 0 28 v0 rfl rfl) h0
  obtain ⟨l1, hl1, hr1, hnc1, hcm1⟩ := rd_bytes Try.underlying22 Try.underlying5 (by kernel_rfl) h1
  have g2 : 0 ≤ x2 ∧ x2 < 65536 := by have := w2; simp [Lit.wf, IntKind.min, IntKind.max, IntKind.signed, IntKind.bits] at this; omega
  obtain ⟨m2, rfl⟩ := Int.eq_ofNat_of_zero_le g2.1
  exact law_post (P := Try.prog) (fn := Try.f7) 4 Try.laidOut rfl
    (by rw [Try.params7]; intro t ht; simp at ht; rcases ht with rfl | rfl | rfl <;> exact ⟨by kernel_rfl, of_decide_eq_true (by kernel_rfl)⟩)
    (by kernel_rfl) Try.underlying4 ⟨rfl, rfl, rfl⟩ hW (form_walk x0 hf0 A0 n0 c0 l1 A1 n1 c1 m2 (by omega) W hl0 hnc0 hnc1 hr0 hr1)

theorem editForm_holds : Rows.EditFormSaid :=
  OpenClaim.holds_of_wide 7 Try.f7 rfl rfl rfl rfl rfl rfl rfl ⟨rfl, rfl, rfl, rfl, rfl⟩ rfl rfl rfl rfl rfl (by kernel_rfl) Try.func7 (by kernel_rfl)
    (of_decide_eq_true (by kernel_rfl)) (by unfold Func.isWrapper; first | (rw [if_pos (by decide +kernel)]; kernel_rfl) | (rw [if_neg (by decide +kernel)]; exact ⟨rfl, rfl⟩))
    (fun os started H enc _ => editForm_lifted os started H enc)
end Go.Proofs.Ytedjolkkidciiaa
