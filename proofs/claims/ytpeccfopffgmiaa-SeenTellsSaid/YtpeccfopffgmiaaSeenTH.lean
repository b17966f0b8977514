/- SeenTells answers true for every input, and leaves it as it was. No condition. -/
import Derived.Test.YtpeccfopffgmiaaSeenT
import Derived.Test.YtpeccfopffgmiaaOpen
namespace Go.Proofs.Ytpeccfopffgmiaa
open Go.ChangeShapes Go.WideShapes Go.ChangeAt Go.RowKit

theorem Try.own : ownKnob Try.prog.godebug = none := by kernel_rfl
theorem Try.laidOut : laidOutB Try.prog = true := by kernel_rfl

theorem open_vers {H : Type} {enc : TypeId × Value → H} {w : World} {A : Option Addr} {n c : Nat} {d : DataW H} {p : List MemPlace} (h : DataW.Trod enc Try.prog w 0 (fun _ => true) true 22 (.slice A n c) d p) :
    ∃ l : List Ver, l.length = n ∧ Rd w w.heap.size 2 A n (vcells l) ∧ n ≤ c ∧ c ≤ maxLen := by
  obtain ⟨l, h1, h2, h3, h4, _⟩ := rd_slice_map (fun v : Ver => [Value.int .u64 v.1, Value.int .i64 v.2]) (fun _ => True) (Nat.succ_pos 1) Try.underlying22 (by kernel_rfl)
    (fun cs fuel y _ hy => by
      obtain ⟨v0, v1, n, y0, y1, rfl, g0, g1⟩ := fields2 Try.underlying28 (by kernel_rfl) (by kernel_rfl) hy
      obtain ⟨a, ha, _, _⟩ := DataW.trod_int Try.underlying25 g0
      obtain ⟨b, hb, _, _⟩ := DataW.trod_int Try.underlying3 g1
      simp only [List.cons.injEq, and_true] at ha hb
      subst ha; subst hb
      exact ⟨(a, b), rfl, trivial⟩) h
  exact ⟨l, h1, h2, h3, h4⟩

set_option maxRecDepth 100000 in
theorem seenTells_lifted (os : Os) (started : os.Started) (H : Type) (enc : TypeId × Value → H) :
    ReturnsInHanded {} Try.checked os 3 .any (Rows.seenTellsSpec.pre6 enc Try.prog Try.f3 Rows.seenTellsRow.domain false) (Rows.seenTellsSpec.post enc Try.prog Try.f3 false true false false) := by
  refine returnsInHanded_of_change (C := Try.checked) Try.own started (by kernel_rfl) Try.func3
    (ChangeSpec.witness6 (enc := enc) (C := Try.checked) false ⟨#[], #[.slice none 0 0, .slice none 0 0], []⟩ 8 (by kernel_rfl) (by kernel_rfl) (by kernel_rfl) (by kernel_rfl)) ?_
  intro W base args ds gs before hval0 hW _ _
  have hval : ∀ (j : Nat) t v, Try.f3.params[j]? = some t → args[j]? = some v → Value.okWide Try.prog W .any base t v := hval0
  have hA := hW
  obtain ⟨p, q, hA, _, _, _, _⟩ := hA
  have hA : DataW.TrodAll enc Try.prog W 0 (fun _ => true) true Try.f3.params.toList args.toList ds p := hA
  rw [Try.params3] at hA hval
  obtain ⟨v0, vs0, d0, ds0, p0, q0, hargs, rfl, rfl, h0, r0⟩ := trodAll_cons hA
  obtain ⟨v1, vs1, d1, ds1, p1, q1, rfl, rfl, rfl, h1, r1⟩ := trodAll_cons r0
  obtain ⟨rfl, rfl, rfl⟩ := trodAll_nil r1
  obtain rfl : args = #[v0, v1] := by cases args; simp_all
  obtain ⟨A0, n0, c0, rfl⟩ := okWide_slice Try.underlying22 (hval 0 22 v0 rfl rfl)
  obtain ⟨A1, n1, c1, rfl⟩ := okWide_slice Try.underlying23 (hval 1 23 v1 rfl rfl)
  obtain ⟨l, hl, hr, hnc, hcm⟩ := open_vers h0
  obtain ⟨at_, hl', hr', hnc', hcm', _⟩ := rd_ints Try.underlying23 Try.underlying25 (by kernel_rfl) h1
  exact law_post (P := Try.prog) (fn := Try.f3) 4 Try.laidOut rfl
    (by rw [Try.params3]; intro t ht; simp at ht; rcases ht with rfl | rfl <;> exact ⟨by kernel_rfl, of_decide_eq_true (by kernel_rfl)⟩)
    (by kernel_rfl) Try.underlying4 ⟨rfl, rfl, rfl⟩ hW (tells_walk l A0 n0 c0 at_ A1 n1 c1 W hl hl' hnc hnc' hcm hcm' hr hr')

theorem seenTells_holds : Rows.SeenTellsSaid :=
  OpenClaim.holds_of_wide 3 Try.f3 rfl rfl rfl rfl rfl rfl rfl ⟨rfl, rfl, rfl, rfl, rfl⟩ rfl rfl rfl rfl rfl (by kernel_rfl) Try.func3 (by kernel_rfl)
    (of_decide_eq_true (by kernel_rfl)) (by unfold Func.isWrapper; first | (rw [if_pos (by decide +kernel)]; kernel_rfl) | (rw [if_neg (by decide +kernel)]; exact ⟨rfl, rfl⟩))
    (fun os started H enc _ => seenTells_lifted os started H enc)
end Go.Proofs.Ytpeccfopffgmiaa
