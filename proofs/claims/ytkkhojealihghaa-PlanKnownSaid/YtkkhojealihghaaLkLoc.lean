/- Locs as a map's keys. No condition. -/
import Derived.Test.YtkkhojealihghaaLocEqM
import Derived.Test.YtkkhojealihghaaMap
namespace Go.Proofs.Ytkkhojealihghaa
open Go.RowKit

theorem keyOf_int2 {P : Program} {t : TypeId} {f0 f1 : Field} {k0 k1 : IntKind} (hu : P.underlying t = some (.struct #[f0, f1])) (n0 : f0.name ≠ "_") (n1 : f1.name ≠ "_") (o0 : f0.offset = 0) (o1 : f1.offset = 1)
    (h0 : P.underlying f0.type = some (.int k0)) (h1 : P.underlying f1.type = some (.int k1)) (ct : P.cellsOf t = 2) (c0 : P.cellsOf f0.type = 1) (c1 : P.cellsOf f1.type = 1)
    (hk : P.keyType t = true) (hs : 2 ≤ P.types.size) (a b : Int) (ha : (Lit.int k0 a).wf = true) (hb : (Lit.int k1 b).wf = true) :
    ∃ kl, keyOf P t (.agg #[.int k0 a, .int k1 b]) = some kl := by
  obtain ⟨d, hd⟩ : ∃ d, P.types.size + 1 = d + 2 := ⟨P.types.size - 1, by omega⟩
  have hf : (Value.agg #[.int k0 a, .int k1 b]).formed P t = true := by
    simp [Value.formed, hu, ct]
  have e0 : P.keyLits (d + 1) f0.type [Value.int k0 a] = some [Lit.int k0 a] := by simp [Program.keyLits, h0, ha]
  have e1 : P.keyLits (d + 1) f1.type [Value.int k1 b] = some [Lit.int k1 b] := by simp [Program.keyLits, h1, hb]
  have hl : P.keyLits (d + 2) t [Value.int k0 a, .int k1 b] = some [Lit.int k0 a, Lit.int k1 b] := by
    unfold Program.keyLits
    simp only [hu]
    have hall : (#[f0, f1] : Array Field).all (fun f => f.name != "_") = true := by simp [n0, n1]
    rw [if_pos ⟨by rw [ct]; rfl, hall⟩]
    rw [List.mapM_cons, List.mapM_cons, List.mapM_nil]
    rw [o0, o1, c0, c1, List.drop_zero, List.drop_succ_cons, List.drop_zero, show List.take 1 [Value.int k0 a, .int k1 b] = [Value.int k0 a] from rfl, show List.take 1 [Value.int k1 b] = [Value.int k1 b] from rfl, e0, e1]
    rfl
  refine ⟨.string (keyBytes [Lit.int k0 a, Lit.int k1 b]), ?_⟩
  unfold keyOf
  simp only [hu]
  rw [if_pos (by rw [hk, hf]; rfl), hd, show (Value.agg #[.int k0 a, .int k1 b]).cells.toList = [Value.int k0 a, .int k1 b] from by simp [Value.cells], hl]
  rfl
/-- a loc, as numbers -/
def LOk (l : Nat × Nat) : Prop := l.1 < 4294967296 ∧ l.2 < 4294967296
def locP (l : Nat × Nat) : Value := locV l.1 l.2
theorem locP_inj (x y : Nat × Nat) (_ : LOk x) (_ : LOk y) (h : locP x = locP y) : x = y := by
  unfold locP locV at h
  injection h with h
  simp only [Array.mk.injEq, List.cons.injEq, Value.int.injEq, true_and, and_true] at h
  exact Prod.ext (by exact_mod_cast h.1) (by exact_mod_cast h.2)
theorem loc_keyed : Maps.Keyed Try.prog 41 := Maps.Keyed.of_law (deep_law_laid (P := Try.prog) (by decide +kernel) (m := 20) (by omega) (by decide +kernel) (by decide +kernel) (by decide +kernel))
theorem loc_key {l : Nat × Nat} (h : LOk l) : ∃ kl, keyOf Try.prog 41 (locP l) = some kl := by
  obtain ⟨h1, h2⟩ := h
  refine keyOf_int2 (P := Try.prog) (t := 41) (f0 := (Try.prog.fieldsOf 41)[0]!) (f1 := (Try.prog.fieldsOf 41)[1]!) (k0 := .u32) (k1 := .u32)
    (by kernel_rfl) (by decide +kernel) (by decide +kernel) (by kernel_rfl) (by kernel_rfl) (by kernel_rfl) (by kernel_rfl) (by kernel_rfl) (by kernel_rfl) (by kernel_rfl) (by decide +kernel) (by decide +kernel) _ _ ?_ ?_
  · simp [Lit.wf, IntKind.min, IntKind.max, IntKind.bits, IntKind.signed]; omega
  · simp [Lit.wf, IntKind.min, IntKind.max, IntKind.bits, IntKind.signed]; omega
end Go.Proofs.Ytkkhojealihghaa
