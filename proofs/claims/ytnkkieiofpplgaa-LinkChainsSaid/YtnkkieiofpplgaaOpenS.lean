/- An argument that is a struct of two integers, opened. -/
import Derived.Test.YtnkkieiofpplgaaOpenB
import Derived.OpenShut
namespace Go.Proofs.Ytnkkieiofpplgaa
open Go.ChangeShapes Go.WideShapes Go.ChangeAt Go.RowKit
variable {H : Type} {enc : TypeId × Value → H} {P : Program} {w : World} {base : Nat} {spare : Nat → Bool} {held : Bool}

theorem open_int2 {r : Reach} {b0 : Nat} {t : TypeId} {f0 f1 : Field} {k0 k1 : IntKind} {v : Value} {d : DataW H} {ps : List MemPlace} (ht : P.underlying t = some (.struct #[f0, f1])) (hone : Go.Deep.oneCellFields P #[f0, f1] = true) (hC : P.cellsOf t = 2)
    (h0 : P.underlying f0.type = some (.int k0)) (h1 : P.underlying f1.type = some (.int k1))
    (hval : Value.okWide P w r b0 t v) (hd : DataW.Trod enc P w base spare held t v d ps) :
    ∃ x y : Int, v = .agg #[.int k0 x, .int k1 y] ∧ (Lit.int k0 x).wf = true ∧ (Lit.int k1 y).wf = true := by
  unfold Value.okWide at hval
  rw [ht] at hval
  obtain ⟨cs, rfl, hsz, _⟩ := hval
  obtain ⟨fuel, hf⟩ := hd
  have hcs : (Value.agg cs).cells.toList = cs.toList := rfl
  rw [hcs] at hf
  obtain ⟨v0, v1, n, y0, y1, e, g0, g1⟩ := fields2 ht hone hC hf
  obtain ⟨x, e0, _, w0⟩ := DataW.trod_int h0 g0
  obtain ⟨y, e1, _, w1⟩ := DataW.trod_int h1 g1
  simp only [List.cons.injEq, and_true] at e0 e1
  subst e0; subst e1
  exact ⟨x, y, by congr 1; apply Array.toList_inj.1; rw [e], w0, w1⟩
theorem open_u32x2 {r : Reach} {b0 : Nat} {t : TypeId} {f0 f1 : Field} {v : Value} {d : DataW H} {ps : List MemPlace} (ht : P.underlying t = some (.struct #[f0, f1])) (hone : Go.Deep.oneCellFields P #[f0, f1] = true) (hC : P.cellsOf t = 2)
    (h0 : P.underlying f0.type = some (.int .u32)) (h1 : P.underlying f1.type = some (.int .u32))
    (hval : Value.okWide P w r b0 t v) (hd : DataW.Trod enc P w base spare held t v d ps) :
    ∃ s o : Nat, s < 4294967296 ∧ o < 4294967296 ∧ v = .agg #[.int .u32 (s : Int), .int .u32 (o : Int)] := by
  obtain ⟨x, y, rfl, w0, w1⟩ := open_int2 ht hone hC h0 h1 hval hd
  have e1 : 0 ≤ x ∧ x < 4294967296 := by simp [Lit.wf, IntKind.min, IntKind.max, IntKind.signed, IntKind.bits] at w0; omega
  have e2 : 0 ≤ y ∧ y < 4294967296 := by simp [Lit.wf, IntKind.min, IntKind.max, IntKind.signed, IntKind.bits] at w1; omega
  exact ⟨x.toNat, y.toNat, by omega, by omega, by rw [Int.toNat_of_nonneg e1.1, Int.toNat_of_nonneg e2.1]⟩

/-- an argument that is a struct of a number of 64 bits and a slice of bytes -/
theorem open_numBytes {ts : List TypeId} {ds : List (DataW H)} (hsz : (DataW.weightsEach P ts ds).all (· ≤ reachBytes) = true) {j : Nat} {r : Reach} {b0 : Nat} {t e : TypeId} {f0 f1 : Field} {v : Value} {d : DataW H} {ps : List MemPlace}
    (htj : ts[j]? = some t) (hdj : ds[j]? = some d) (ht : P.underlying t = some (.struct #[f0, f1])) (hone : Go.Deep.oneCellFields P #[f0, f1] = true) (hC : P.cellsOf t = 2)
    (h0 : P.underlying f0.type = some (.int .u64)) (h1 : P.underlying f1.type = some (.slice e)) (he : P.underlying e = some (.int .u8)) (hCe : P.cellsOf e = 1) (hbe : P.bytesOf e = 1)
    (hval : Value.okWide P w r b0 t v) (hd : DataW.Trod enc P w base spare held t v d ps) :
    ∃ (N : Nat) (A : Option Addr) (n c : Nat) (l : List UInt8), N < 18446744073709551616 ∧ v = .agg #[.int .u64 (N : Int), .slice A n c] ∧ l.length = n ∧ Rd w w.heap.size 1 A n (bcells l) ∧ n ≤ c ∧ n ≤ 140737488351232 := by
  unfold Value.okWide at hval
  rw [ht] at hval
  obtain ⟨cs, rfl, hsz1, _⟩ := hval
  obtain ⟨fuel, hf⟩ := hd
  have hcs : (Value.agg cs).cells.toList = cs.toList := rfl
  rw [hcs] at hf
  obtain ⟨xs, m, _, hx, hlen, hxl, hfld⟩ := DataW.trod_struct ht hf
  rw [hC] at hlen
  obtain ⟨v0, v1, hv⟩ : ∃ v0 v1, cs.toList = [v0, v1] := by
    match h : cs.toList, hlen with
    | [a, b], _ => exact ⟨a, b, rfl⟩
  obtain ⟨y0, y1, rfl⟩ : ∃ y0 y1, xs = [y0, y1] := by
    match xs, hxl with
    | [a, b], _ => exact ⟨a, b, rfl⟩
  obtain ⟨o0, k0⟩ := Go.Deep.hone_of hone 0 f0 rfl
  obtain ⟨o1, k1⟩ := Go.Deep.hone_of hone 1 f1 rfl
  have g0 := hfld 0 f0 rfl
  have g1 := hfld 1 f1 rfl
  rw [o0, k0, hv] at g0
  rw [o1, k1, hv] at g1
  have g0 : DataW.trod enc P w base spare held m f0.type [v0] = some y0 := g0
  have g1 : DataW.trod enc P w base spare held m f1.type [v1] = some y1 := g1
  obtain ⟨x, e0, _, w0⟩ := DataW.trod_int h0 g0
  simp only [List.cons.injEq, and_true] at e0
  subst e0
  have e1 : 0 ≤ x ∧ x < 18446744073709551616 := by simp [Lit.wf, IntKind.min, IntKind.max, IntKind.signed, IntKind.bits] at w0; omega
  obtain ⟨A, n, c, rfl⟩ : ∃ A n c, v1 = .slice A n c := by
    rcases Go.Deep.open_slice h1 g1 with ⟨hc, _⟩ | ⟨a, len, cap, _, _, _, _, hc, _⟩
    · injection hc with hc
      exact ⟨_, _, _, hc⟩
    · injection hc with hc
      exact ⟨_, _, _, hc⟩
  have hT : DataW.Trod enc P w base spare held f1.type (.slice A n c) y1.1 y1.2 := ⟨m, g1⟩
  obtain ⟨l, hl, hr, hnc, _⟩ := rd_bytes h1 he hCe hT
  have hdd : d = .agg ([y0, y1].map (·.1)) := congrArg Prod.fst hx
  have hsz2 : (DataW.weightsEach P [f0.type, f1.type] [y0.1, y1.1]).all (· ≤ reachBytes) = true := by
    refine List.all_eq_true.2 fun z hz => ?_
    refine List.all_eq_true.1 hsz z (DataW.weights_mem_each htj hdj z ?_)
    rw [hdd]
    simp only [DataW.weights, ht]
    exact hz
  have hn := slice_reach hsz2 (j := 1) rfl rfl h1 hT hbe
  refine ⟨x.toNat, A, n, c, l, by omega, ?_, hl, hr, hnc, by omega⟩
  congr 1
  apply Array.toList_inj.1
  rw [hv, Int.toNat_of_nonneg e1.1]
end Go.Proofs.Ytnkkieiofpplgaa
