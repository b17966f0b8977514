/- An argument that is an array of integers, opened. -/
import Derived.Test.YticjecfbjmibaaaOpenB
import Derived.Test.YticjecfbjmibaaaByt
import Derived.OpenShut
namespace Go.Proofs.Yticjecfbjmibaaa
open Go.ChangeShapes Go.WideShapes Go.ChangeAt Go.RowKit
variable {H : Type} {enc : TypeId × Value → H} {P : Program} {w : World} {base : Nat} {spare : Nat → Bool} {held : Bool}

def intV : Value → Int
  | .int _ n => n
  | _ => 0

theorem open_arr {r : Reach} {b0 : Nat} {t e : TypeId} {k : IntKind} {n : Nat} {v : Value} {d : DataW H} {ps : List MemPlace} (ht : P.underlying t = some (.array n e)) (he : P.underlying e = some (.int k)) (hC : P.cellsOf e = 1) (hT : P.cellsOf t = n)
    (hval : Value.okWide P w r b0 t v) (hd : DataW.Trod enc P w base spare held t v d ps) :
    ∃ xs : List Int, xs.length = n ∧ v = .agg (xs.map (Value.int k)).toArray ∧ ∀ x ∈ xs, (Lit.int k x).wf = true := by
  unfold Value.okWide at hval
  rw [ht] at hval
  obtain ⟨cs, rfl, hsz, _⟩ := hval
  obtain ⟨fuel, hf⟩ := hd
  obtain ⟨xs, m, _, hx, hl, hn, hi⟩ := DataW.trod_array ht hf
  have hcs : (Value.agg cs).cells.toList = cs.toList := rfl
  rw [hcs, hT] at hl
  rw [hcs, hC] at hi
  have key : ∀ i (h : i < cs.toList.length), ∃ x, cs.toList[i] = .int k x ∧ (Lit.int k x).wf = true := fun i h => by
    have h1 := hi i (by omega)
    rw [List.getElem?_eq_getElem (by omega)] at h1
    obtain ⟨x, h2, _, hw⟩ := DataW.trod_int he h1
    refine ⟨x, ?_, hw⟩
    rw [Nat.mul_one, List.drop_eq_getElem_cons h] at h2
    simpa using h2
  refine ⟨cs.toList.map intV, by rw [List.length_map, hl], ?_, ?_⟩
  · congr 1
    apply Array.toList_inj.1
    simp only [List.map_map]
    refine (List.ext_getElem (by simp) fun i h1 h2 => ?_)
    obtain ⟨x, e1, _⟩ := key i h1
    simp only [List.getElem_map, Function.comp, e1, intV]
  · intro x hx
    obtain ⟨u, hu, rfl⟩ := List.mem_map.1 hx
    obtain ⟨i, hi', rfl⟩ := List.getElem_of_mem hu
    obtain ⟨x, e1, hw⟩ := key i hi'
    rw [e1]
    exact hw

/-- an array of bytes -/
theorem open_bytesArr {r : Reach} {b0 : Nat} {t e : TypeId} {n : Nat} {v : Value} {d : DataW H} {ps : List MemPlace} (ht : P.underlying t = some (.array n e)) (he : P.underlying e = some (.int .u8)) (hC : P.cellsOf e = 1) (hT : P.cellsOf t = n)
    (hval : Value.okWide P w r b0 t v) (hd : DataW.Trod enc P w base spare held t v d ps) : ∃ l : List UInt8, l.length = n ∧ v = .agg (bcells l).toArray := by
  obtain ⟨xs, hl, rfl, hw⟩ := open_arr ht he hC hT hval hd
  refine ⟨xs.map fun x => UInt8.ofNat x.toNat, by simpa using hl, ?_⟩
  unfold bcells
  rw [List.map_map]
  congr 2
  refine List.map_congr_left fun x hx => ?_
  have := hw x hx
  have : 0 ≤ x ∧ x < 256 := by simp [Lit.wf, IntKind.min, IntKind.max, IntKind.signed, IntKind.bits] at this; omega
  simp only [Function.comp]
  congr 1
  rw [UInt8.toNat_ofNat']
  omega
/-- an array of two numbers of 64 bits -/
theorem open_u64x2 {r : Reach} {b0 : Nat} {t e : TypeId} {v : Value} {d : DataW H} {ps : List MemPlace} (ht : P.underlying t = some (.array 2 e)) (he : P.underlying e = some (.int .u64)) (hC : P.cellsOf e = 1) (hT : P.cellsOf t = 2)
    (hval : Value.okWide P w r b0 t v) (hd : DataW.Trod enc P w base spare held t v d ps) : ∃ a b : Nat, a < 18446744073709551616 ∧ b < 18446744073709551616 ∧ v = .agg #[.int .u64 (a : Int), .int .u64 (b : Int)] := by
  obtain ⟨xs, hl, rfl, hw⟩ := open_arr ht he hC hT hval hd
  match xs, hl with
  | [x, y], _ =>
    have e1 := hw x (by simp)
    have e2 := hw y (by simp)
    have e1 : 0 ≤ x ∧ x < 18446744073709551616 := by simp [Lit.wf, IntKind.min, IntKind.max, IntKind.signed, IntKind.bits] at e1; omega
    have e2 : 0 ≤ y ∧ y < 18446744073709551616 := by simp [Lit.wf, IntKind.min, IntKind.max, IntKind.signed, IntKind.bits] at e2; omega
    exact ⟨x.toNat, y.toNat, by omega, by omega, by rw [Int.toNat_of_nonneg e1.1, Int.toNat_of_nonneg e2.1]; rfl⟩
/-- an array of two numbers of 32 bits -/
theorem open_u32a2 {r : Reach} {b0 : Nat} {t e : TypeId} {v : Value} {d : DataW H} {ps : List MemPlace} (ht : P.underlying t = some (.array 2 e)) (he : P.underlying e = some (.int .u32)) (hC : P.cellsOf e = 1) (hT : P.cellsOf t = 2)
    (hval : Value.okWide P w r b0 t v) (hd : DataW.Trod enc P w base spare held t v d ps) : ∃ a b : Nat, a < 4294967296 ∧ b < 4294967296 ∧ v = .agg #[.int .u32 (a : Int), .int .u32 (b : Int)] := by
  obtain ⟨xs, hl, rfl, hw⟩ := open_arr ht he hC hT hval hd
  match xs, hl with
  | [x, y], _ =>
    have e1 := hw x (by simp)
    have e2 := hw y (by simp)
    have e1 : 0 ≤ x ∧ x < 4294967296 := by simp [Lit.wf, IntKind.min, IntKind.max, IntKind.signed, IntKind.bits] at e1; omega
    have e2 : 0 ≤ y ∧ y < 4294967296 := by simp [Lit.wf, IntKind.min, IntKind.max, IntKind.signed, IntKind.bits] at e2; omega
    exact ⟨x.toNat, y.toNat, by omega, by omega, by rw [Int.toNat_of_nonneg e1.1, Int.toNat_of_nonneg e2.1]; rfl⟩
end Go.Proofs.Yticjecfbjmibaaa
