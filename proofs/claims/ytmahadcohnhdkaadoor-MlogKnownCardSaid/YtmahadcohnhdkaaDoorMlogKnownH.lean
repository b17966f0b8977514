/- MlogKnown answers true, for every world in which it may be called. No condition. -/
import Derived.Test.YtmahadcohnhdkaaDoorMl6
import Derived.Test.YtmahadcohnhdkaaDoorTabH
import Derived.Test.YtmahadcohnhdkaaDoorOpen
namespace Go.Proofs.YtmahadcohnhdkaaDoor
open Go.ChangeShapes Go.WideShapes Go.ChangeAt Go.RowKit


set_option maxRecDepth 100000 in
theorem mlogKnown_lifted (os : Os) (started : os.Started) (H : Type) (enc : TypeId × Value → H) :
    ReturnsInHanded {} Tryd.checked os 4 .any (fun w args => (Rows.mlogKnownSpec.pre enc Tryd.prog Tryd.f4 [] false w args ∧ laidMetH Tryd.prog laidL w) ∧ sizedMet enc Tryd.prog Tryd.f4 (OpenSpec.ofChange Rows.mlogKnownSpec) false w args) (Rows.mlogKnownSpec.post enc Tryd.prog Tryd.f4 false true false false) := by
  refine returnsInHanded_of_change_and (C := Tryd.checked) (X := fun w _ => laidMetH Tryd.prog laidL w) (fun _ _ _ hh h => h.of_heap hh) Tryd.own started (by kernel_rfl) Tryd.func4
    (ChangeSpec.witness_shaped (enc := enc) (C := Tryd.checked) (os := os) (X := fun w _ => laidMetH Tryd.prog laidL w) false (World.doorLaid Tryd.prog 400 os) #[] 8 rfl (World.shaped_of_RefB (by kernel_rfl) (by kernel_rfl)) (by kernel_rfl) (by kernel_rfl) (by kernel_rfl) (door_met os _)) ?_
  intro W base args ds gs before _ hW _ _ hL _
  have hT := tab_of_laid hL
  have hA := hW
  obtain ⟨p, q, hA, _, _, _, _⟩ := hA
  have hA : DataW.TrodAll enc Tryd.prog W 0 (fun _ => true) true Tryd.f4.params.toList args.toList ds p := hA
  rw [Tryd.params4] at hA
  obtain ⟨ha, rfl, _⟩ := trodAll_nil hA
  obtain rfl : args = #[] := by cases args; simp_all
  exact law_post (P := Tryd.prog) (fn := Tryd.f4) 4 Tryd.laidOut rfl (by rw [Tryd.params4]; intro t ht; simp at ht) (by kernel_rfl) Tryd.underlying4 ⟨rfl, rfl, rfl⟩ hW (knownM_walk W hT)

theorem mlogKnown_row : Rows.MlogKnownSaid :=
  OpenClaim.holds_of_wide 4 Tryd.f4 rfl rfl rfl rfl rfl rfl rfl ⟨rfl, rfl, rfl, rfl, rfl⟩ rfl rfl rfl rfl rfl (by kernel_rfl) Tryd.func4 (by kernel_rfl)
    (of_decide_eq_true (by kernel_rfl)) (by unfold Func.isWrapper; first | (rw [if_pos (by decide +kernel)]; kernel_rfl) | (rw [if_neg (by decide +kernel)]; exact ⟨rfl, rfl⟩))
    (fun os started H enc _ => mlogKnown_lifted os started H enc)

theorem mlogKnown_holds : Rows.MlogKnownCardSaid :=
  Claim7.holds_tied_plain_at .later [] [.data] true _ true
    mlogKnown_row (fun _ h => by cases h) (by kernel_rfl) (fun _ h => by cases h) mlogKnown_row_tie rfl ⟨rfl, rfl⟩ (by kernel_rfl) rfl
    (fun f fn hf hfn => by
      obtain rfl : f = 4 := Option.some.inj ((show Tryd.prog.funcNamed "hourbook/hourbooklaw22.MlogKnown" = some 4 by kernel_rfl).symm.trans hf) |>.symm
      obtain rfl : fn = Tryd.f4 := (Option.some.inj (Tryd.func4.symm.trans hfn)).symm
      exact ⟨by kernel_rfl, fun j t ht => by
        rw [Tryd.params4] at ht
        simp at ht⟩)
    (by kernel_rfl)
end Go.Proofs.YtmahadcohnhdkaaDoor
