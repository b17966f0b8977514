/- Seals compared. -/
import Derived.Test.YtmahadcohnhdkaaDoorEdLaw
import Derived.Test.YtmahadcohnhdkaaDoorGB
namespace Go.Proofs.YtmahadcohnhdkaaDoor
open Go.RowKit
attribute [local go_sem] Oper.semAt_some

noncomputable def slF (i : Nat) : Field := (Tryd.prog.fieldsOf 67)[i]!
theorem slF_u : Tryd.prog.underlying 67 = some (.struct #[slF 0, slF 1, slF 2, slF 3, slF 4]) := by kernel_rfl
theorem slF_key : Tryd.prog.keyType 67 = true := by decide +kernel
theorem int_lits {P : Program} {t : TypeId} {q : IntKind} (h : P.underlying t = some (.int q)) (d : Nat) (x : Int) (hw : (Lit.int q x).wf = true) : P.keyLits (d + 1) t [.int q x] = some [.int q x] := by
  simp [Program.keyLits, h, hw]
theorem wf_u32 {n : Nat} (h : n < 4294967296) : (Lit.int .u32 (n : Int)).wf = true := by simp [Lit.wf, IntKind.min, IntKind.max, IntKind.bits, IntKind.signed]; omega
theorem wf_u64 {n : Nat} (h : n < 18446744073709551616) : (Lit.int .u64 (n : Int)).wf = true := by simp [Lit.wf, IntKind.min, IntKind.max, IntKind.bits, IntKind.signed]; omega
theorem seal_key (s : Sl) (hs : s.fits) : ∃ kl, keyOf Tryd.prog 67 (.agg s.cells.toArray) = some kl := by
  obtain ⟨i, z, m, f, l⟩ := s
  obtain ⟨h0, h1, h2, h3, h4⟩ := hs
  dsimp only at *
  have h1s : 1 ≤ Tryd.prog.types.size := by decide +kernel
  obtain ⟨d, hd⟩ : ∃ d, Tryd.prog.types.size + 1 = d + 2 := ⟨Tryd.prog.types.size - 1, by omega⟩
  have e0 := int_lits (P := Tryd.prog) (t := (slF 0).type) (by kernel_rfl) d (i : Int) (wf_u32 h0)
  have e1 := int_lits (P := Tryd.prog) (t := (slF 1).type) (by kernel_rfl) d (z : Int) (wf_u32 h1)
  have e2 := int_lits (P := Tryd.prog) (t := (slF 2).type) (by kernel_rfl) d (m : Int) (wf_u32 h2)
  have e3 := int_lits (P := Tryd.prog) (t := (slF 3).type) (by kernel_rfl) d (f : Int) (wf_u64 h3)
  have e4 := int_lits (P := Tryd.prog) (t := (slF 4).type) (by kernel_rfl) d (l : Int) (wf_u64 h4)
  have o : (slF 0).offset = 0 ∧ (slF 1).offset = 1 ∧ (slF 2).offset = 2 ∧ (slF 3).offset = 3 ∧ (slF 4).offset = 4 := by decide +kernel
  have c : Tryd.prog.cellsOf (slF 0).type = 1 ∧ Tryd.prog.cellsOf (slF 1).type = 1 ∧ Tryd.prog.cellsOf (slF 2).type = 1 ∧ Tryd.prog.cellsOf (slF 3).type = 1 ∧ Tryd.prog.cellsOf (slF 4).type = 1 := by decide +kernel
  have ct : Tryd.prog.cellsOf 67 = 5 := by decide +kernel
  have hall : (#[slF 0, slF 1, slF 2, slF 3, slF 4] : Array Field).all (fun f => f.name != "_") = true := by decide +kernel
  obtain ⟨o0, o1, o2, o3, o4⟩ := o
  obtain ⟨c0, c1, c2, c3, c4⟩ := c
  have hl : Tryd.prog.keyLits (d + 2) 67 [.int .u32 (i : Int), .int .u32 (z : Int), .int .u32 (m : Int), .int .u64 (f : Int), .int .u64 (l : Int)] = some [.int .u32 (i : Int), .int .u32 (z : Int), .int .u32 (m : Int), .int .u64 (f : Int), .int .u64 (l : Int)] := by
    unfold Program.keyLits
    simp only [slF_u]
    rw [if_pos ⟨by rw [ct]; rfl, hall⟩, List.mapM_cons, List.mapM_cons, List.mapM_cons, List.mapM_cons, List.mapM_cons, List.mapM_nil]
    rw [o0, o1, o2, o3, o4, c0, c1, c2, c3, c4]
    simp only [List.drop_zero, List.drop_succ_cons, List.take_succ_cons, List.take_zero]
    rw [e0, e1, e2, e3, e4]
    rfl
  have hf : (Value.agg (Sl.mk i z m f l).cells.toArray).formed Tryd.prog 67 = true := by
    simp [Value.formed, ct, Sl.cells]
  refine ⟨.string (keyBytes [.int .u32 (i : Int), .int .u32 (z : Int), .int .u32 (m : Int), .int .u64 (f : Int), .int .u64 (l : Int)]), ?_⟩
  unfold keyOf
  simp only [slF_u]
  rw [if_pos (by rw [slF_key, hf]; rfl), hd, show (Value.agg (Sl.mk i z m f l).cells.toArray).cells.toList = [.int .u32 (i : Int), .int .u32 (z : Int), .int .u32 (m : Int), .int .u64 (f : Int), .int .u64 (l : Int)] from rfl, hl]
  rfl
theorem seal_keyed : Maps.Keyed Tryd.prog 67 := Maps.Keyed.of_law (deep_law_laid (P := Tryd.prog) (by decide +kernel) (m := 20) (by omega) (by decide +kernel) (by decide +kernel) (by decide +kernel))
theorem cells_inj {s t : Sl} (h : s.cells = t.cells) : s = t := by
  obtain ⟨i, z, m, f, l⟩ := s
  obtain ⟨i', z', m', f', l'⟩ := t
  simp only [Sl.cells, List.cons.injEq, Value.int.injEq, true_and, and_true, Int.natCast_inj] at h
  obtain ⟨rfl, rfl, rfl, rfl, rfl⟩ := h
  rfl
set_option maxRecDepth 100000 in
theorem run_equal_seal (s t : Sl) (hs : s.fits) (ht : t.fits) (w : World) : (Op.equal 67 (.agg s.cells.toArray) (.agg t.cells.toArray)).run Tryd.prog w = .ok (decide (s = t)) w := by
  obtain ⟨ks, hks⟩ := seal_key s hs
  obtain ⟨kt, hkt⟩ := seal_key t ht
  obtain ⟨r, hr, hi⟩ := run_equal_deep (P := Tryd.prog) w (m := 20) (by omega) (k := 67) (by decide +kernel) (by decide +kernel) hks hkt
  rw [hr]
  congr 1
  rw [Bool.eq_iff_iff, hi, decide_eq_true_eq]
  constructor
  · intro h
    subst h
    have := seal_keyed.inj hks hkt
    injection this with this
    exact cells_inj (by simpa using this)
  · intro h
    subst h
    rw [hks] at hkt
    injection hkt
end Go.Proofs.YtmahadcohnhdkaaDoor
