/- KeyHashes answers true for every input, and leaves it as it was. No condition. -/
import Derived.Test.YticjecfbjmibaaaKeyHash
import Derived.Test.YticjecfbjmibaaaOpenA
namespace Go.Proofs.Yticjecfbjmibaaa
open Go.ChangeShapes Go.WideShapes Go.ChangeAt Go.RowKit

theorem Try.own : ownKnob Try.prog.godebug = none := by kernel_rfl
theorem Try.laidOut : laidOutB Try.prog = true := by kernel_rfl

set_option maxRecDepth 100000 in
theorem keyHashes_lifted (os : Os) (started : os.Started) (H : Type) (enc : TypeId × Value → H) :
    ReturnsInHanded {} Try.checked os 5 .any (Rows.keyHashesSpec.pre6 enc Try.prog Try.f5 Rows.keyHashesRow.domain false) (Rows.keyHashesSpec.post enc Try.prog Try.f5 false true false false) := by
  refine returnsInHanded_of_change (C := Try.checked) Try.own started (by kernel_rfl) Try.func5
    (ChangeSpec.witness6 (enc := enc) (C := Try.checked) false ⟨#[], #[.agg (bcells (List.replicate 8 0)).toArray, .agg (bcells (List.replicate 8 0)).toArray, .int .u8 0, .agg #[.int .u64 0, .int .u64 0], .agg (bcells (List.replicate 8 0)).toArray], []⟩ 8 (by kernel_rfl) (by kernel_rfl) (by kernel_rfl) (by kernel_rfl)) ?_
  intro W base args ds gs before hval0 hW _ _
  have hval : ∀ (j : Nat) t v, Try.f5.params[j]? = some t → args[j]? = some v → Value.okWide Try.prog W .any base t v := hval0
  have hA := hW
  obtain ⟨p, q, hA, _, _, _, _⟩ := hA
  have hA : DataW.TrodAll enc Try.prog W 0 (fun _ => true) true Try.f5.params.toList args.toList ds p := hA
  rw [Try.params5] at hA hval
  obtain ⟨v0, vs0, d0, ds0, p0, q0, hargs, rfl, rfl, h0, r0⟩ := trodAll_cons hA
  obtain ⟨v1, vs1, d1, ds1, p1, q1, rfl, rfl, rfl, h1, r1⟩ := trodAll_cons r0
  obtain ⟨v2, vs2, d2, ds2, p2, q2, rfl, rfl, rfl, h2, r2⟩ := trodAll_cons r1
  obtain ⟨v3, vs3, d3, ds3, p3, q3, rfl, rfl, rfl, h3, r3⟩ := trodAll_cons r2
  obtain ⟨v4, vs4, d4, ds4, p4, q4, rfl, rfl, rfl, h4, r4⟩ := trodAll_cons r3
  obtain ⟨rfl, rfl, rfl⟩ := trodAll_nil r4
  obtain rfl : args = #[v0, v1, v2, v3, v4] := by cases args; simp_all
  obtain ⟨x2, rfl, rfl, rfl, w2⟩ := open_int Try.underlying5 (hval 2 5 v2 rfl rfl) h2
  obtain ⟨l0, hl0, rfl⟩ := open_bytesArr Try.underlying31 Try.underlying5 (by kernel_rfl) (by kernel_rfl) (hval 0 31 v0 rfl rfl) h0
  obtain ⟨l1, hl1, rfl⟩ := open_bytesArr Try.underlying31 Try.underlying5 (by kernel_rfl) (by kernel_rfl) (hval 1 31 v1 rfl rfl) h1
  have g2 : 0 ≤ x2 ∧ x2 < 256 := by have := w2; simp [Lit.wf, IntKind.min, IntKind.max, IntKind.signed, IntKind.bits] at this; omega
  obtain ⟨m2, rfl⟩ := Int.eq_ofNat_of_zero_le g2.1
  obtain ⟨a3, b3, ha3, hb3, rfl⟩ := open_u64x2 Try.underlying33 Try.underlying32 (by kernel_rfl) (by kernel_rfl) (hval 3 33 v3 rfl rfl) h3
  obtain ⟨l4, hl4, rfl⟩ := open_bytesArr Try.underlying31 Try.underlying5 (by kernel_rfl) (by kernel_rfl) (hval 4 31 v4 rfl rfl) h4
  exact law_post (P := Try.prog) (fn := Try.f5) 4 Try.laidOut rfl
    (by rw [Try.params5]; intro t ht; simp at ht; rcases ht with rfl | rfl | rfl | rfl | rfl <;> exact ⟨by kernel_rfl, of_decide_eq_true (by kernel_rfl)⟩)
    (by kernel_rfl) Try.underlying4 ⟨rfl, rfl, rfl⟩ hW (hashes_walk l0 l1 l4 m2 a3 b3 W hl0 hl1 hl4 (by omega) ha3 hb3)

theorem keyHashes_holds : Rows.KeyHashesSaid :=
  OpenClaim.holds_of_wide 5 Try.f5 rfl rfl rfl rfl rfl rfl rfl ⟨rfl, rfl, rfl, rfl, rfl⟩ rfl rfl rfl rfl rfl (by kernel_rfl) Try.func5 (by kernel_rfl)
    (of_decide_eq_true (by kernel_rfl)) (by unfold Func.isWrapper; first | (rw [if_pos (by decide +kernel)]; kernel_rfl) | (rw [if_neg (by decide +kernel)]; exact ⟨rfl, rfl⟩))
    (fun os started H enc _ => keyHashes_lifted os started H enc)
end Go.Proofs.Yticjecfbjmibaaa
