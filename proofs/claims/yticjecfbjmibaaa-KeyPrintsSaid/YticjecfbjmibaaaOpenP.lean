/- An argument that is a print, opened. -/
import Derived.Test.YticjecfbjmibaaaOpenA
import Derived.Test.YticjecfbjmibaaaPeq
namespace Go.Proofs.Yticjecfbjmibaaa
open Go.ChangeShapes Go.WideShapes Go.ChangeAt Go.RowKit
variable {H : Type} {enc : TypeId × Value → H} {P : Program} {w : World} {base : Nat} {spare : Nat → Bool} {held : Bool}

theorem open_row {t e : TypeId} {k : IntKind} {n m : Nat} {cs : List Value} {y : DataW H × List MemPlace} (ht : P.underlying t = some (.array n e)) (he : P.underlying e = some (.int k)) (hC : P.cellsOf e = 1) (hT : P.cellsOf t = n)
    (hf : DataW.trod enc P w base spare held m t cs = some y) : ∃ xs : List Int, xs.length = n ∧ cs = xs.map (Value.int k) ∧ ∀ x ∈ xs, (Lit.int k x).wf = true := by
  obtain ⟨xs, m', _, hx, hl, hn, hi⟩ := DataW.trod_array ht hf
  rw [hT] at hl
  rw [hC] at hi
  have key : ∀ i (h : i < cs.length), ∃ x, cs[i] = .int k x ∧ (Lit.int k x).wf = true := fun i h => by
    have h1 := hi i (by omega)
    rw [List.getElem?_eq_getElem (by omega)] at h1
    obtain ⟨x, h2, _, hw⟩ := DataW.trod_int he h1
    refine ⟨x, ?_, hw⟩
    rw [Nat.mul_one, List.drop_eq_getElem_cons h, List.take_succ_cons, List.take_zero] at h2
    injection h2
  refine ⟨cs.map intV, by rw [List.length_map, hl], ?_, ?_⟩
  · rw [List.map_map]
    refine (List.ext_getElem (by simp) fun i h1 h2 => ?_)
    obtain ⟨x, e1, _⟩ := key i h1
    simp only [List.getElem_map, Function.comp, e1, intV]
  · intro x hx
    obtain ⟨u, hu, rfl⟩ := List.mem_map.1 hx
    obtain ⟨i, hi', rfl⟩ := List.getElem_of_mem hu
    obtain ⟨x, e1, hw⟩ := key i hi'
    rw [e1]
    exact hw
theorem open_print {r : Reach} {b0 : Nat} {t e : TypeId} {f0 f1 : Field} {v : Value} {d : DataW H} {ps : List MemPlace} (ht : P.underlying t = some (.struct #[f0, f1])) (hC : P.cellsOf t = 9) (o0 : f0.offset = 0) (o1 : f1.offset = 1) (c0 : P.cellsOf f0.type = 1) (c1 : P.cellsOf f1.type = 8)
    (h0 : P.underlying f0.type = some (.int .u8)) (h1 : P.underlying f1.type = some (.array 8 e)) (he : P.underlying e = some (.int .u64)) (ce : P.cellsOf e = 1)
    (hval : Value.okWide P w r b0 t v) (hd : DataW.Trod enc P w base spare held t v d ps) :
    ∃ (L : Nat) (ws : List Nat), L < 256 ∧ ws.length = 8 ∧ (∀ x ∈ ws, x < 18446744073709551616) ∧ v = .agg (pcA L ws) := by
  unfold Value.okWide at hval
  rw [ht] at hval
  obtain ⟨cs, rfl, hsz1, _⟩ := hval
  obtain ⟨fuel, hf⟩ := hd
  have hcs : (Value.agg cs).cells.toList = cs.toList := rfl
  rw [hcs] at hf
  obtain ⟨xs, m, _, hx, hlen, hxl, hfld⟩ := DataW.trod_struct ht hf
  rw [hC] at hlen
  obtain ⟨y0, y1, rfl⟩ : ∃ y0 y1, xs = [y0, y1] := by
    match xs, hxl with
    | [a, b], _ => exact ⟨a, b, rfl⟩
  have g0 := hfld 0 f0 rfl
  have g1 := hfld 1 f1 rfl
  rw [o0, c0] at g0
  rw [o1, c1] at g1
  obtain ⟨x, e0, _, w0⟩ := DataW.trod_int h0 g0
  obtain ⟨zs, hzl, e1, hw⟩ := open_row h1 he ce c1 g1
  have e2 : 0 ≤ x ∧ x < 256 := by simp [Lit.wf, IntKind.min, IntKind.max, IntKind.signed, IntKind.bits] at w0; omega
  have hb : ∀ z ∈ zs, 0 ≤ z ∧ z < 18446744073709551616 := fun z hz => by
    have := hw z hz
    simp [Lit.wf, IntKind.min, IntKind.max, IntKind.signed, IntKind.bits] at this
    omega
  refine ⟨x.toNat, zs.map Int.toNat, by omega, by simpa using hzl, ?_, ?_⟩
  · intro z hz
    obtain ⟨q, hq, rfl⟩ := List.mem_map.1 hz
    have := hb q hq
    omega
  · congr 1
    apply Array.toList_inj.1
    unfold pcA
    simp only [List.map_map]
    have h9 : cs.toList = cs.toList.take 1 ++ (cs.toList.drop 1).take 8 := by
      rw [List.take_of_length_le (l := cs.toList.drop 1) (by rw [List.length_drop]; omega), List.take_append_drop]
    rw [List.drop_zero] at e0
    rw [h9, e0, e1]
    simp only [List.singleton_append, List.cons.injEq, Value.int.injEq, true_and]
    refine ⟨by rw [Int.toNat_of_nonneg e2.1], List.map_congr_left fun z hz => ?_⟩
    simp only [Function.comp]
    rw [Int.toNat_of_nonneg (hb z hz).1]
end Go.Proofs.Yticjecfbjmibaaa
