/- Arrays of integers compared: plain laws, no condition of their own. -/
import Derived.Test.YtkkhojealihghaaByt
import Derived.ChangeKeysEq
import Derived.Laws.StructEq
namespace Go.Proofs.Ytkkhojealihghaa
open Go.RowKit

section
variable {P : Program} {w : World}
/-- the cells of a row of integers -/
def intRow (k : IntKind) (l : List Int) : Array Value := (l.map (fun x => Value.int k x)).toArray
theorem intRow_get (k : IntKind) (l : List Int) (j : Nat) : (intRow k l)[j]? = (l[j]?).map (fun x => Value.int k x) := by simp [intRow]
theorem intRow_size (k : IntKind) (l : List Int) : (intRow k l).size = l.length := by simp [intRow]
theorem run_eqItems_ints {e : TypeId} {k : IntKind} (d : Nat) (hue : P.underlying e = some (.int k)) (l m : List Int) :
    ∀ (n i : Nat), i + n = l.length → m.length = l.length → (Op.eqItems (d + 1) e 1 (intRow k l) (intRow k m) (List.range' i n)).run P w = .ok (l.drop i == m.drop i) w
  | 0, i, h, hm => by
    simp only [List.range'_zero, Op.eqItems, Sem.run_pure]
    rw [List.drop_of_length_le (by omega), List.drop_of_length_le (by omega)]
    rfl
  | n + 1, i, h, hm => by
    have hp : P.plainKey e = true := by simp [Program.plainKey, hue]
    obtain ⟨x, hx⟩ : ∃ x, l[i]? = some x := ⟨l[i], List.getElem?_eq_getElem (by omega)⟩
    obtain ⟨y, hy⟩ : ∃ y, m[i]? = some y := ⟨m[i], List.getElem?_eq_getElem (by omega)⟩
    have e1 : (part e (intRow k l) (i * 1)).run P w = .ok (.int k x) w := run_part_plain w hp (by rw [Nat.mul_one, intRow_get, hx]; rfl)
    have e2 : (part e (intRow k m) (i * 1)).run P w = .ok (.int k y) w := run_part_plain w hp (by rw [Nat.mul_one, intRow_get, hy]; rfl)
    have e3 : (Op.equalIn (d + 1) e (.int k x) (.int k y)).run P w = .ok (x == y) w := by
      simp [Op.equalIn, run_underlying hue]
    rw [List.range'_succ]
    simp only [Op.eqItems, Sem.run_bind, e1, e2, e3, Result.andThen_ok]
    have dl : l.drop i = x :: l.drop (i + 1) := by
      rw [List.getElem?_eq_some_iff] at hx
      obtain ⟨hi, rfl⟩ := hx
      exact List.drop_eq_getElem_cons hi
    have dm : m.drop i = y :: m.drop (i + 1) := by
      rw [List.getElem?_eq_some_iff] at hy
      obtain ⟨hi, rfl⟩ := hy
      exact List.drop_eq_getElem_cons hi
    rw [dl, dm]
    by_cases hxy : x = y
    · subst hxy
      simp only [beq_self_eq_true, Bool.not_true, Bool.false_eq_true, if_false]
      rw [run_eqItems_ints d hue l m n (i + 1) (by omega) hm]
      simp
    · have hb : (x == y) = false := by simpa using hxy
      rw [hb]
      simp only [Bool.not_false, if_true, Sem.run_pure]
      simp [hxy]
theorem run_equal_ints {t e : TypeId} {k : IntKind} {n : Nat} {i : TypeInfo} (hu : P.underlying t = some (.array n e)) (hue : P.underlying e = some (.int k)) (hi : P.info? e = some i) (hc : P.cellsOf e = 1)
    (l m : List Int) (hl : l.length = n) (hm : m.length = n) : (Op.equal t (.agg (intRow k l)) (.agg (intRow k m))).run P w = .ok (l == m) w := by
  show (Op.equalIn (9998 + 1 + 1) t _ _).run P w = _
  rw [run_equalIn_array w (9998 + 1) _ _ hu hi, hc, List.range_eq_range', run_eqItems_ints 9998 hue l m n 0 (by omega) (by omega)]
  simp
/-- a struct of two integers -/
theorem run_equal_int2 {t : TypeId} {f0 f1 : Field} {k0 k1 : IntKind} (hu : P.underlying t = some (.struct #[f0, f1])) (hst : P.stoodInHeld t = false) (n0 : f0.name ≠ "_") (n1 : f1.name ≠ "_") (o0 : f0.offset = 0) (o1 : f1.offset = 1)
    (h0 : P.underlying f0.type = some (.int k0)) (h1 : P.underlying f1.type = some (.int k1)) (a b a' b' : Int) :
    (Op.equal t (.agg #[.int k0 a, .int k1 b]) (.agg #[.int k0 a', .int k1 b'])).run P w = .ok ((a == a') && (b == b')) w := by
  show (Op.equalIn (9999 + 1) t _ _).run P w = _
  have hf : P.fieldsOf t = #[f0, f1] := by simp [Program.fieldsOf, hu]
  rw [run_equalIn_struct w 9999 t _ _ (by rw [hf]; exact hu) hst, hf]
  have p0 : P.plainKey f0.type = true := by simp [Program.plainKey, h0]
  have p1 : P.plainKey f1.type = true := by simp [Program.plainKey, h1]
  have e0 : ∀ x y : Int, (Op.equalIn (9998 + 1) f0.type (.int k0 x) (.int k0 y)).run P w = .ok (x == y) w := fun x y => run_equalIn_int w 9998 f0.type k0 k0 x y h0
  have e1 : ∀ x y : Int, (Op.equalIn (9998 + 1) f1.type (.int k1 x) (.int k1 y)).run P w = .ok (x == y) w := fun x y => run_equalIn_int w 9998 f1.type k1 k1 x y h1
  have q0 : (part f0.type #[.int k0 a, .int k1 b] 0).run P w = .ok (.int k0 a) w := run_part_plain w p0 rfl
  have q0' : (part f0.type #[.int k0 a', .int k1 b'] 0).run P w = .ok (.int k0 a') w := run_part_plain w p0 rfl
  have q1 : (part f1.type #[.int k0 a, .int k1 b] 1).run P w = .ok (.int k1 b) w := run_part_plain w p1 rfl
  have q1' : (part f1.type #[.int k0 a', .int k1 b'] 1).run P w = .ok (.int k1 b') w := run_part_plain w p1 rfl
  simp only [Op.eqFields, n0, n1, ne_eq, not_false_eq_true, if_true, Sem.run_bind, o0, o1, q0, q0', Result.andThen_ok]
  rw [show (9999 : Nat) = 9998 + 1 from rfl, e0]
  by_cases h : a = a'
  · subst h
    simp only [beq_self_eq_true, Result.andThen_ok, Bool.not_true, Bool.false_eq_true, if_false, Bool.true_and, Sem.run_bind]
    rw [q1, Result.andThen_ok, q1', Result.andThen_ok, e1]
    by_cases h' : b = b'
    · subst h'; simp
    · simp [h']
  · have hb : (a == a') = false := by simpa using h
    rw [hb]
    simp
/-- the operation, at two aggregates -/
theorem run_eql_agg {t : TypeId} {xs ys : Array Value} {p q : Operand} {r : Bool} (hg : P.eqGuardType P.depth t = false) (he : (Op.equal t (.agg xs) (.agg ys)).run P w = .ok r w) :
    (do eqGuard .eql t p q (.agg xs) (.agg ys); binOp .eql t (.agg xs) (.agg ys) : Sem Value).run P w = .ok (.bool r) w := by
  simp [eqGuard, binOp, hg, he]
theorem run_neq_agg {t : TypeId} {xs ys : Array Value} {p q : Operand} {r : Bool} (hg : P.eqGuardType P.depth t = false) (he : (Op.equal t (.agg xs) (.agg ys)).run P w = .ok r w) :
    (do eqGuard .neq t p q (.agg xs) (.agg ys); binOp .neq t (.agg xs) (.agg ys) : Sem Value).run P w = .ok (.bool !r) w := by
  simp [eqGuard, binOp, hg, he]
theorem bcells_row (a : List UInt8) : (bcells a).toArray = intRow .u8 (a.map fun c => (c.toNat : Int)) := by
  unfold intRow bcells
  rw [List.map_map]
  rfl
theorem bytes_beq (a b : List UInt8) : ((a.map fun c => (c.toNat : Int)) == (b.map fun c => (c.toNat : Int))) = (a == b) := by
  rw [Bool.eq_iff_iff, beq_iff_eq, beq_iff_eq]
  refine ⟨fun h => ?_, fun h => by rw [h]⟩
  have hl : a.length = b.length := by simpa using congrArg List.length h
  refine List.ext_getElem hl fun i h1 h2 => ?_
  have := congrArg (fun l : List Int => l[i]?) h
  simp [h1, h2] at this
  exact UInt8.toNat_inj.1 (by omega)
end
end Go.Proofs.Ytkkhojealihghaa
