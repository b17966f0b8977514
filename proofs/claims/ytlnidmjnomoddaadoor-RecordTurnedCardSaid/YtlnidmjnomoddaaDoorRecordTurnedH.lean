/- RecordTurned answers true for every input, and leaves it as it was. No condition. -/
import Derived.Test.YtlnidmjnomoddaaDoorRecU
import Derived.Test.YtlnidmjnomoddaaDoorTabR
import Derived.Test.YtlnidmjnomoddaaDoorOpenB
import Derived.Test.YtlnidmjnomoddaaDoorOpenR
namespace Go.Proofs.YtlnidmjnomoddaaDoor
open Go.ChangeShapes Go.WideShapes Go.ChangeAt Go.RowKit


set_option maxRecDepth 100000 in
theorem recordTurned_lifted (os : Os) (started : os.Started) (H : Type) (enc : TypeId × Value → H) :
    ReturnsInHanded {} Tryd.checked os 6 .any (fun w args => (Rows.recordTurnedSpec.pre enc Tryd.prog Tryd.f6 [] false w args ∧ laidMetH Tryd.prog laidL w) ∧ sizedMet enc Tryd.prog Tryd.f6 (OpenSpec.ofChange Rows.recordTurnedSpec) false w args) (Rows.recordTurnedSpec.post enc Tryd.prog Tryd.f6 false true false false) := by
  refine returnsInHanded_of_change_and (C := Tryd.checked) (X := fun w _ => laidMetH Tryd.prog laidL w) (fun _ _ _ hh h => h.of_heap hh) Tryd.own started (by kernel_rfl) Tryd.func6
    (ChangeSpec.witness_shaped (enc := enc) (C := Tryd.checked) (os := os) (X := fun w _ => laidMetH Tryd.prog laidL w) false (World.doorLaid Tryd.prog 400 os) #[.agg #[.int .u64 0, .int .i64 0, .slice none 0 0, .slice none 0 0, .int .u32 0, .int .u32 0], .int .u32 0, .int .u32 0, .slice none 0 0] 8 rfl (World.shaped_of_RefB (by kernel_rfl) (by kernel_rfl)) (by kernel_rfl) (by kernel_rfl) (by kernel_rfl) (door_met os _)) ?_
  intro W base args ds gs before hval0 hW _ _ hL _
  have hT := tab_of_laid hL
  have hval : ∀ (j : Nat) t v, Tryd.f6.params[j]? = some t → args[j]? = some v → Value.okWide Tryd.prog W .any base t v := hval0
  have hA := hW
  obtain ⟨p, q, hA, _, _, _, _⟩ := hA
  have hA : DataW.TrodAll enc Tryd.prog W 0 (fun _ => true) true Tryd.f6.params.toList args.toList ds p := hA
  rw [Tryd.params6] at hA hval
  obtain ⟨v0, vs0, d0, ds0, p0, q0, hargs, rfl, rfl, h0, r0⟩ := trodAll_cons hA
  obtain ⟨v1, vs1, d1, ds1, p1, q1, rfl, rfl, rfl, h1, r1⟩ := trodAll_cons r0
  obtain ⟨v2, vs2, d2, ds2, p2, q2, rfl, rfl, rfl, h2, r2⟩ := trodAll_cons r1
  obtain ⟨v3, vs3, d3, ds3, p3, q3, rfl, rfl, rfl, h3, r3⟩ := trodAll_cons r2
  obtain ⟨rfl, rfl, rfl⟩ := trodAll_nil r3
  obtain rfl : args = #[v0, v1, v2, v3] := by cases args; simp_all
  obtain ⟨x1, rfl, rfl, rfl, w1⟩ := open_int Tryd.underlying24 (hval 1 24 v1 rfl rfl) h1
  obtain ⟨x2, rfl, rfl, rfl, w2⟩ := open_int Tryd.underlying24 (hval 2 24 v2 rfl rfl) h2
  obtain ⟨A3, n3, c3, rfl⟩ := okWide_slice Tryd.underlying22 (hval 3 22 v3 rfl rfl)
  obtain ⟨xq0, xk0, xA0, xn0, xc0, xB0, xm0, xd0, xs0, xo0, xa0, xb0, rfl, hq0, hk0, hkk0, hs0, ho0, ra0, rb0, hnc0, hmd0⟩ := open_rec Tryd.underlying28 (by kernel_rfl) rfl rfl rfl rfl rfl (by kernel_rfl) (by kernel_rfl) (by kernel_rfl) (by kernel_rfl) (by kernel_rfl) Tryd.underlying23 Tryd.underlying3 Tryd.underlying22 Tryd.underlying22 Tryd.underlying26 (by kernel_rfl) Tryd.underlying24 Tryd.underlying24 Tryd.underlying5 (by kernel_rfl) (hval 0 28 v0 rfl rfl) h0
  have g1 : 0 ≤ x1 ∧ x1 < 4294967296 := by have := w1; simp [Lit.wf, IntKind.min, IntKind.max, IntKind.signed, IntKind.bits] at this; omega
  obtain ⟨m1, rfl⟩ := Int.eq_ofNat_of_zero_le g1.1
  have g2 : 0 ≤ x2 ∧ x2 < 4294967296 := by have := w2; simp [Lit.wf, IntKind.min, IntKind.max, IntKind.signed, IntKind.bits] at this; omega
  obtain ⟨m2, rfl⟩ := Int.eq_ofNat_of_zero_le g2.1
  obtain ⟨l3, hl3, hr3, hnc3, hcm3⟩ := rd_bytes Tryd.underlying22 Tryd.underlying5 (by kernel_rfl) h3
  exact law_post (P := Tryd.prog) (fn := Tryd.f6) 4 Tryd.laidOut rfl
    (by rw [Tryd.params6]; intro t ht; simp at ht; rcases ht with rfl | rfl | rfl | rfl <;> exact ⟨by kernel_rfl, of_decide_eq_true (by kernel_rfl)⟩)
    (by kernel_rfl) Tryd.underlying4 ⟨rfl, rfl, rfl⟩ hW (turned_walk xq0 xk0 xa0 xb0 xA0 xn0 xc0 xB0 xm0 xd0 xs0 xo0 m1 m2 l3 A3 n3 c3 W hT hnc0 hmd0 ra0 rb0 hq0 hs0 ho0 (by omega) (by omega) hnc3 hr3)

theorem recordTurned_row : Rows.RecordTurnedSaid :=
  OpenClaim.holds_of_wide 6 Tryd.f6 rfl rfl rfl rfl rfl rfl rfl ⟨rfl, rfl, rfl, rfl, rfl⟩ rfl rfl rfl rfl rfl (by kernel_rfl) Tryd.func6 (by kernel_rfl)
    (of_decide_eq_true (by kernel_rfl)) (by unfold Func.isWrapper; first | (rw [if_pos (by decide +kernel)]; kernel_rfl) | (rw [if_neg (by decide +kernel)]; exact ⟨rfl, rfl⟩))
    (fun os started H enc _ => recordTurned_lifted os started H enc)

theorem recordTurned_holds : Rows.RecordTurnedCardSaid :=
  Claim7.holds_tied_plain_at .later [] [.data, .data] true _ false
    recordTurned_row (fun _ h => by cases h) (by kernel_rfl) (fun _ h => by cases h) recordTurned_row_tie rfl ⟨rfl, rfl⟩ (by kernel_rfl) rfl
    (fun f fn hf hfn => by
      obtain rfl : f = 6 := Option.some.inj ((show Tryd.prog.funcNamed "hourbook/hourbooklaw08.RecordTurned" = some 6 by kernel_rfl).symm.trans hf) |>.symm
      obtain rfl : fn = Tryd.f6 := (Option.some.inj (Tryd.func6.symm.trans hfn)).symm
      exact ⟨by kernel_rfl, fun j t ht => by
        rw [Tryd.params6] at ht
        have hm : t ∈ [28, 24, 24, 22] := by simpa using Array.mem_of_getElem? ht
        have hall : ([28, 24, 24, 22].all fun u => !Tryd.prog.wantsStandIn u) = true := by kernel_rfl
        exact (show Tryd.prog.wantsStandIn t = false by simpa using List.all_eq_true.1 hall t hm)⟩)
    (by kernel_rfl)
end Go.Proofs.YtlnidmjnomoddaaDoor
