/- An argument that is a row of edits, opened. -/
import Derived.Test.YtmahadcohnhdkaaDoorOpenB
import Derived.Test.YtmahadcohnhdkaaDoorMlFew
import Derived.OpenShut
namespace Go.Proofs.YtmahadcohnhdkaaDoor
open Go.ChangeShapes Go.WideShapes Go.ChangeAt Go.RowKit
variable {H : Type} {enc : TypeId × Value → H} {P : Program} {w : World} {base : Nat} {spare : Nat → Bool} {held : Bool}

theorem sl_of_trod {m : Nat} {t : TypeId} {f0 f1 f2 f3 f4 : Field} {cs : List Value} {y : DataW H × List MemPlace}
    (ht : P.underlying t = some (.struct #[f0, f1, f2, f3, f4])) (hC : P.cellsOf t = 5) (hone : Go.Deep.oneCellFields P #[f0, f1, f2, f3, f4] = true)
    (h0 : P.underlying f0.type = some (.int .u32)) (h1 : P.underlying f1.type = some (.int .u32)) (h2 : P.underlying f2.type = some (.int .u32)) (h3 : P.underlying f3.type = some (.int .u64)) (h4 : P.underlying f4.type = some (.int .u64))
    (hf : DataW.trod enc P w base spare held m t cs = some y) : ∃ s : Sl, cs = s.cells ∧ s.fits := by
  obtain ⟨xs, m1, _, hx, hlen, hxl, hfld⟩ := DataW.trod_struct ht hf
  rw [hC] at hlen
  obtain ⟨v0, v1, v2, v3, v4, rfl⟩ : ∃ v0 v1 v2 v3 v4, cs = [v0, v1, v2, v3, v4] := by
    match cs, hlen with
    | [a, b, c, d, e], _ => exact ⟨a, b, c, d, e, rfl⟩
  obtain ⟨y0, y1, y2, y3, y4, rfl⟩ : ∃ y0 y1 y2 y3 y4, xs = [y0, y1, y2, y3, y4] := by
    match xs, hxl with
    | [a, b, c, d, e], _ => exact ⟨a, b, c, d, e, rfl⟩
  obtain ⟨o0, k0⟩ := Go.Deep.hone_of hone 0 f0 rfl
  obtain ⟨o1, k1⟩ := Go.Deep.hone_of hone 1 f1 rfl
  obtain ⟨o2, k2⟩ := Go.Deep.hone_of hone 2 f2 rfl
  obtain ⟨o3, k3⟩ := Go.Deep.hone_of hone 3 f3 rfl
  obtain ⟨o4, k4⟩ := Go.Deep.hone_of hone 4 f4 rfl
  have r0 := hfld 0 f0 rfl
  have r1 := hfld 1 f1 rfl
  have r2 := hfld 2 f2 rfl
  have r3 := hfld 3 f3 rfl
  have r4 := hfld 4 f4 rfl
  rw [o0, k0] at r0
  rw [o1, k1] at r1
  rw [o2, k2] at r2
  rw [o3, k3] at r3
  rw [o4, k4] at r4
  have r0 : DataW.trod enc P w base spare held m1 f0.type [v0] = some y0 := r0
  have r1 : DataW.trod enc P w base spare held m1 f1.type [v1] = some y1 := r1
  have r2 : DataW.trod enc P w base spare held m1 f2.type [v2] = some y2 := r2
  have r3 : DataW.trod enc P w base spare held m1 f3.type [v3] = some y3 := r3
  have r4 : DataW.trod enc P w base spare held m1 f4.type [v4] = some y4 := r4
  obtain ⟨a0, e0, _, w0⟩ := DataW.trod_int h0 r0
  obtain ⟨a1, e1, _, w1⟩ := DataW.trod_int h1 r1
  obtain ⟨a2, e2, _, w2⟩ := DataW.trod_int h2 r2
  obtain ⟨a3, e3, _, w3⟩ := DataW.trod_int h3 r3
  obtain ⟨a4, e4, _, w4⟩ := DataW.trod_int h4 r4
  simp only [List.cons.injEq, and_true] at e0 e1 e2 e3 e4
  subst e0; subst e1; subst e2; subst e3; subst e4
  have b0 : 0 ≤ a0 ∧ a0 < 4294967296 := by simp [Lit.wf, IntKind.min, IntKind.max, IntKind.signed, IntKind.bits] at w0; omega
  have b1 : 0 ≤ a1 ∧ a1 < 4294967296 := by simp [Lit.wf, IntKind.min, IntKind.max, IntKind.signed, IntKind.bits] at w1; omega
  have b2 : 0 ≤ a2 ∧ a2 < 4294967296 := by simp [Lit.wf, IntKind.min, IntKind.max, IntKind.signed, IntKind.bits] at w2; omega
  have b3 : 0 ≤ a3 ∧ a3 < 18446744073709551616 := by simp [Lit.wf, IntKind.min, IntKind.max, IntKind.signed, IntKind.bits] at w3; omega
  have b4 : 0 ≤ a4 ∧ a4 < 18446744073709551616 := by simp [Lit.wf, IntKind.min, IntKind.max, IntKind.signed, IntKind.bits] at w4; omega
  refine ⟨⟨a0.toNat, a1.toNat, a2.toNat, a3.toNat, a4.toNat⟩, ?_, by unfold Sl.fits; dsimp only; omega⟩
  unfold Sl.cells
  dsimp only
  rw [Int.toNat_of_nonneg b0.1, Int.toNat_of_nonneg b1.1, Int.toNat_of_nonneg b2.1, Int.toNat_of_nonneg b3.1, Int.toNat_of_nonneg b4.1]
theorem ed_of_trod {m : Nat} {t te : TypeId} {f0 f1 f2 f3 f4 g0 g1 g2 g3 g4 : Field} {cs : List Value} {y : DataW H × List MemPlace}
    (ht : P.underlying t = some (.struct #[f0, f1, f2, f3, f4])) (hC : P.cellsOf t = 5) (hone : Go.Deep.oneCellFields P #[f0, f1, f2, f3, f4] = true)
    (h0 : P.underlying f0.type = some (.int .i64)) (h1 : P.underlying f1.type = some .string) (h2 : P.underlying f2.type = some (.int .u64)) (h3 : P.underlying f3.type = some (.int .u32)) (h4 : P.underlying f4.type = some (.slice te))
    (htt : P.underlying te = some (.struct #[g0, g1, g2, g3, g4])) (hCt : P.cellsOf te = 5) (honet : Go.Deep.oneCellFields P #[g0, g1, g2, g3, g4] = true)
    (k0 : P.underlying g0.type = some (.int .u32)) (k1 : P.underlying g1.type = some (.int .u32)) (k2 : P.underlying g2.type = some (.int .u32)) (k3 : P.underlying g3.type = some (.int .u64)) (k4 : P.underlying g4.type = some (.int .u64))
    (hf : DataW.trod enc P w base spare held m t cs = some y) : ∃ x : EdX, cs = x.cells ∧ x.fit0 ∧ Rd w w.heap.size 5 x.A x.n (slCells x.d.seals) := by
  obtain ⟨xs, m1, _, hx, hlen, hxl, hfld⟩ := DataW.trod_struct ht hf
  rw [hC] at hlen
  obtain ⟨v0, v1, v2, v3, v4, rfl⟩ : ∃ v0 v1 v2 v3 v4, cs = [v0, v1, v2, v3, v4] := by
    match cs, hlen with
    | [a, b, c, d, e], _ => exact ⟨a, b, c, d, e, rfl⟩
  obtain ⟨y0, y1, y2, y3, y4, rfl⟩ : ∃ y0 y1 y2 y3 y4, xs = [y0, y1, y2, y3, y4] := by
    match xs, hxl with
    | [a, b, c, d, e], _ => exact ⟨a, b, c, d, e, rfl⟩
  obtain ⟨o0, c0⟩ := Go.Deep.hone_of hone 0 f0 rfl
  obtain ⟨o1, c1⟩ := Go.Deep.hone_of hone 1 f1 rfl
  obtain ⟨o2, c2⟩ := Go.Deep.hone_of hone 2 f2 rfl
  obtain ⟨o3, c3⟩ := Go.Deep.hone_of hone 3 f3 rfl
  obtain ⟨o4, c4⟩ := Go.Deep.hone_of hone 4 f4 rfl
  have r0 := hfld 0 f0 rfl
  have r1 := hfld 1 f1 rfl
  have r2 := hfld 2 f2 rfl
  have r3 := hfld 3 f3 rfl
  have r4 := hfld 4 f4 rfl
  rw [o0, c0] at r0
  rw [o1, c1] at r1
  rw [o2, c2] at r2
  rw [o3, c3] at r3
  rw [o4, c4] at r4
  have r0 : DataW.trod enc P w base spare held m1 f0.type [v0] = some y0 := r0
  have r1 : DataW.trod enc P w base spare held m1 f1.type [v1] = some y1 := r1
  have r2 : DataW.trod enc P w base spare held m1 f2.type [v2] = some y2 := r2
  have r3 : DataW.trod enc P w base spare held m1 f3.type [v3] = some y3 := r3
  have r4 : DataW.trod enc P w base spare held m1 f4.type [v4] = some y4 := r4
  obtain ⟨a0, e0, _, w0⟩ := DataW.trod_int h0 r0
  obtain ⟨S, e1, _, hS⟩ := DataW.trod_string h1 r1
  obtain ⟨a2, e2, _, w2⟩ := DataW.trod_int h2 r2
  obtain ⟨a3, e3, _, w3⟩ := DataW.trod_int h3 r3
  simp only [List.cons.injEq, and_true] at e0 e1 e2 e3
  subst e0; subst e1; subst e2; subst e3
  obtain ⟨A, n, c, rfl⟩ : ∃ A n c, v4 = .slice A n c := by
    rcases Go.Deep.open_slice h4 r4 with ⟨hc, _⟩ | ⟨a, len, cap, _, _, _, _, hc, _⟩
    · injection hc with hc
      exact ⟨_, _, _, hc⟩
    · injection hc with hc
      exact ⟨_, _, _, hc⟩
  have hT : DataW.Trod enc P w base spare held f4.type (.slice A n c) y4.1 y4.2 := ⟨m1, r4⟩
  obtain ⟨l, hl, hr, hnc, _, hq⟩ := rd_slice_map Sl.cells Sl.fits (by omega : 0 < 5) h4 hCt (fun cs fuel y _ hy => sl_of_trod htt hCt honet k0 k1 k2 k3 k4 hy) hT
  have b2 : 0 ≤ a2 ∧ a2 < 18446744073709551616 := by simp [Lit.wf, IntKind.min, IntKind.max, IntKind.signed, IntKind.bits] at w2; omega
  have b3 : 0 ≤ a3 ∧ a3 < 4294967296 := by simp [Lit.wf, IntKind.min, IntKind.max, IntKind.signed, IntKind.bits] at w3; omega
  have hmx := hr.2.1
  unfold maxLen at hmx
  refine ⟨⟨⟨a0, S.data.toList, a2.toNat, a3.toNat, l⟩, A, n, c⟩, ?_, ⟨⟨by show a2.toNat < _; omega, by show a3.toNat < _; omega, ?_, hq⟩, hl, hnc, by omega⟩, hr⟩
  · unfold EdX.cells edC
    dsimp only
    rw [Int.toNat_of_nonneg b2.1, Int.toNat_of_nonneg b3.1]
  · unfold maxLen at hS
    show S.data.toList.length ≤ _
    rw [Array.length_toList]
    exact hS
theorem rd_edits {t tr te : TypeId} {f0 f1 f2 f3 f4 g0 g1 g2 g3 g4 : Field} {A : Option Addr} {n c : Nat} {D : DataW H} {ps : List MemPlace} (hs : P.underlying t = some (.slice tr))
    (ht : P.underlying tr = some (.struct #[f0, f1, f2, f3, f4])) (hC : P.cellsOf tr = 5) (hone : Go.Deep.oneCellFields P #[f0, f1, f2, f3, f4] = true)
    (h0 : P.underlying f0.type = some (.int .i64)) (h1 : P.underlying f1.type = some .string) (h2 : P.underlying f2.type = some (.int .u64)) (h3 : P.underlying f3.type = some (.int .u32)) (h4 : P.underlying f4.type = some (.slice te))
    (htt : P.underlying te = some (.struct #[g0, g1, g2, g3, g4])) (hCt : P.cellsOf te = 5) (honet : Go.Deep.oneCellFields P #[g0, g1, g2, g3, g4] = true)
    (k0 : P.underlying g0.type = some (.int .u32)) (k1 : P.underlying g1.type = some (.int .u32)) (k2 : P.underlying g2.type = some (.int .u32)) (k3 : P.underlying g3.type = some (.int .u64)) (k4 : P.underlying g4.type = some (.int .u64))
    (hT : DataW.Trod enc P w base spare held t (.slice A n c) D ps) :
    ∃ l : List EdX, l.length = n ∧ Rd w w.heap.size 5 A n (exCells l) ∧ n ≤ c ∧ ∀ x ∈ l, x.fit0 ∧ Rd w w.heap.size 5 x.A x.n (slCells x.d.seals) := by
  obtain ⟨l, hl, hr, hnc, _, hq⟩ := rd_slice_map EdX.cells (fun x => x.fit0 ∧ Rd w w.heap.size 5 x.A x.n (slCells x.d.seals)) (by omega : 0 < 5) hs hC (fun cs fuel y _ hy => ed_of_trod ht hC hone h0 h1 h2 h3 h4 htt hCt honet k0 k1 k2 k3 k4 hy) hT
  exact ⟨l, hl, hr, hnc, hq⟩
end Go.Proofs.YtmahadcohnhdkaaDoor
