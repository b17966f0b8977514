/- Prints: their cells; when two are the same; as a map's keys. -/
import Derived.Test.YtkkhojealihghaaKof
import Derived.Test.YtkkhojealihghaaEq
import Derived.Test.YtkkhojealihghaaMap
namespace Go.Proofs.Ytkkhojealihghaa
open Go.RowKit

/-- a print's cells: the byte's number, the words -/
def pcA (L : Nat) (ws : List Nat) : Array Value := ((Value.int .u8 (L : Int)) :: ws.map fun x : Nat => Value.int .u64 (x : Int)).toArray
/-- the words of a row -/
def pws (l : List UInt8) : List Nat := (List.range 8).map (prW l)
theorem pws_len (l : List UInt8) : (pws l).length = 8 := by simp [pws]
theorem prC_pc (l : List UInt8) (h : mayB l.length = true) : prC l = pcA l.length (pws l) := by
  unfold prC
  rw [if_pos h]
  unfold pcA pws prK
  rw [List.map_map]
  rfl
theorem prC_none (l : List UInt8) (h : mayB l.length = false) : prC l = pcA 0 [0, 0, 0, 0, 0, 0, 0, 0] := by
  unfold prC
  rw [h, if_neg (by simp)]
  rfl
theorem wle_lt8 (l : List UInt8) (i : Nat) : prW l i < 18446744073709551616 := by
  have := wle_lt ((l.drop (8 * i)).take 8)
  unfold prW
  refine Nat.lt_of_lt_of_le this ?_
  have h8 : ((l.drop (8 * i)).take 8).length ≤ 8 := by rw [List.length_take]; omega
  calc 256 ^ _ ≤ 256 ^ 8 := Nat.pow_le_pow_right (by omega) h8
    _ = _ := by decide
theorem pws_lt (l : List UInt8) : ∀ x ∈ pws l, x < 18446744073709551616 := by
  intro x hx
  obtain ⟨i, _, rfl⟩ := List.mem_map.1 hx
  exact wle_lt8 l i

section
variable {P : Program} {w : World}
theorem run_isAgg_array {e : TypeId} {n : Nat} {t : TypeId} (h : P.underlying t = some (.array n e)) : (isAgg t).run P w = .ok true w := by
  unfold isAgg
  rw [Sem.run_bind, run_underlying h]
  rfl
/-- a struct of an integer and a row of integers -/
theorem run_equal_introw {t e : TypeId} {f0 f1 : Field} {k0 k1 : IntKind} {n : Nat} {i : TypeInfo} (hu : P.underlying t = some (.struct #[f0, f1])) (hst : P.stoodInHeld t = false) (n0 : f0.name ≠ "_") (n1 : f1.name ≠ "_") (o0 : f0.offset = 0) (o1 : f1.offset = 1)
    (h0 : P.underlying f0.type = some (.int k0)) (h1 : P.underlying f1.type = some (.array n e)) (hue : P.underlying e = some (.int k1)) (hi : P.info? e = some i) (hc : P.cellsOf e = 1) {i1 : TypeInfo} (hi1 : P.info? f1.type = some i1) (hc1 : P.cellsOf f1.type = n)
    (a a' : Int) (l m : List Int) (hl : l.length = n) (hm : m.length = n) :
    (Op.equal t (.agg (Value.int k0 a :: l.map fun x => Value.int k1 x).toArray) (.agg (Value.int k0 a' :: m.map fun x => Value.int k1 x).toArray)).run P w = .ok ((a == a') && (l == m)) w := by
  show (Op.equalIn (9999 + 1) t _ _).run P w = _
  have hf : P.fieldsOf t = #[f0, f1] := by simp [Program.fieldsOf, hu]
  rw [run_equalIn_struct w 9999 t _ _ (by rw [hf]; exact hu) hst, hf]
  have p0 : P.plainKey f0.type = true := by simp [Program.plainKey, h0]
  have e0 : ∀ x y : Int, (Op.equalIn (9998 + 1) f0.type (.int k0 x) (.int k0 y)).run P w = .ok (x == y) w := fun x y => run_equalIn_int w 9998 f0.type k0 k0 x y h0
  have q0 : ∀ (b : Int) (r : List Int), (part f0.type (Value.int k0 b :: r.map fun x => Value.int k1 x).toArray 0).run P w = .ok (.int k0 b) w := fun b r => run_part_plain w p0 (by simp)
  have q1 : ∀ (b : Int) (r : List Int), r.length = n → (part f1.type (Value.int k0 b :: r.map fun x => Value.int k1 x).toArray 1).run P w = .ok (.agg (intRow k1 r)) w := fun b r hr => by
    unfold part
    rw [Sem.run_bind, run_isAgg_array h1, Result.andThen_ok]
    simp only [if_true, Sem.run_bind, run_sizeOf w hi1, Result.andThen_ok, Sem.run_pure, hc1]
    have : (Value.int k0 b :: r.map fun x => Value.int k1 x).toArray.extract 1 (1 + n) = intRow k1 r := by
      unfold intRow
      apply Array.toList_inj.1
      simp only [Array.toList_extract, List.extract_eq_take_drop, List.drop_succ_cons, List.drop_zero]
      rw [List.take_of_length_le (by simp; omega)]
    rw [this]
  simp only [Op.eqFields, n0, n1, ne_eq, not_false_eq_true, if_true, Sem.run_bind, o0, o1, q0, Result.andThen_ok]
  rw [show (9999 : Nat) = 9998 + 1 from rfl, e0]
  by_cases h : a = a'
  · subst h
    simp only [beq_self_eq_true, Result.andThen_ok, Bool.not_true, Bool.false_eq_true, if_false, Bool.true_and, Sem.run_bind]
    rw [q1 _ _ hl, Result.andThen_ok, q1 _ _ hm, Result.andThen_ok]
    have := run_eqItems_ints (P := P) (w := w) 9997 hue l m n 0 (by omega) (by omega)
    rw [run_equalIn_array w 9998 _ _ h1 hi, hc, List.range_eq_range', this]
    by_cases h' : l = m
    · subst h'; simp
    · simp [h']
  · have hb : (a == a') = false := by simpa using h
    rw [hb]
    simp
end
theorem pcA_eq (L : Nat) (ws : List Nat) : pcA L ws = (Value.int .u8 (L : Int) :: (ws.map fun x : Nat => (x : Int)).map fun x => Value.int .u64 x).toArray := by
  unfold pcA
  rw [List.map_map]
  rfl
theorem nat_beq (a b : List Nat) : ((a.map fun c : Nat => (c : Int)) == (b.map fun c : Nat => (c : Int))) = (a == b) := by
  rw [Bool.eq_iff_iff, beq_iff_eq, beq_iff_eq]
  refine ⟨fun h => ?_, fun h => by rw [h]⟩
  have hl : a.length = b.length := by simpa using congrArg List.length h
  refine List.ext_getElem hl fun i h1 h2 => ?_
  have := congrArg (fun l : List Int => l[i]?) h
  simp [h1, h2] at this
  exact_mod_cast this
set_option maxRecDepth 100000 in
theorem run_print_eq (L L' : Nat) (ws ws' : List Nat) (h : ws.length = 8) (h' : ws'.length = 8) (w : World) :
    (Op.equal 88 (.agg (pcA L ws)) (.agg (pcA L' ws'))).run Try.prog w = .ok ((L == L') && (ws == ws')) w := by
  rw [pcA_eq, pcA_eq]
  have := run_equal_introw (P := Try.prog) (w := w) (t := 88) (e := 26) (f0 := (Try.prog.fieldsOf 88)[0]!) (f1 := (Try.prog.fieldsOf 88)[1]!) (k0 := .u8) (k1 := .u64) (n := 8)
    (by kernel_rfl) (by kernel_rfl) (by decide +kernel) (by decide +kernel) (by kernel_rfl) (by kernel_rfl) (by kernel_rfl) (by kernel_rfl) Try.underlying26 (i := (Try.prog.info? 26).get!) (by kernel_rfl) (by kernel_rfl) (i1 := (Try.prog.info? (Try.prog.fieldsOf 88)[1]!.type).get!) (by kernel_rfl) (by kernel_rfl)
    (L : Int) (L' : Int) (ws.map fun x : Nat => (x : Int)) (ws'.map fun x : Nat => (x : Int)) (by simpa using h) (by simpa using h')
  rw [this, nat_beq]
  congr 2
  rw [Bool.eq_iff_iff, beq_iff_eq, beq_iff_eq]
  exact Int.natCast_inj
/-- of two rows that may be keys the prints are the same just if they are -/
theorem pws_inj {a b : List UInt8} (ha : a.length ≤ 64) (hl : a.length = b.length) (h : pws a = pws b) : a = b := by
  have hk : ∀ k, k ≤ 8 → a.take (8 * k) = b.take (8 * k) := by
    intro k
    induction k with
    | zero => intro _; rfl
    | succ k ih =>
      intro hk
      have h1 := ih (by omega)
      have h2 : prW a k = prW b k := by
        have := congrArg (fun l : List Nat => l[k]?) h
        simp only [pws, List.getElem?_map, List.getElem?_range (show k < 8 by omega), Option.map_some, Option.some.injEq] at this
        exact this
      unfold prW at h2
      have h3 := wle_inj _ _ (by rw [List.length_take, List.length_take, List.length_drop, List.length_drop, hl]) h2
      rw [show 8 * (k + 1) = 8 * k + 8 by omega, List.take_add, List.take_add, h1, h3]
  have := hk 8 (by omega)
  rwa [List.take_of_length_le (by omega), List.take_of_length_le (by omega)] at this
theorem print_iff {a b : List UInt8} (ha : a.length ≤ 64) : ((a.length == b.length) && (pws a == pws b)) = (a == b) := by
  rw [Bool.eq_iff_iff, Bool.and_eq_true, beq_iff_eq, beq_iff_eq, beq_iff_eq]
  exact ⟨fun h => pws_inj ha h.1 h.2, fun h => by subst h; exact ⟨rfl, rfl⟩⟩
/-- prints as a map's keys -/
theorem print_keyed : Maps.Keyed Try.prog 88 := Maps.Keyed.of_law (deep_law_laid (P := Try.prog) (by decide +kernel) (m := 20) (by omega) (by decide +kernel) (by decide +kernel) (by decide +kernel))
theorem mapM_all {α β : Type} {f : α → Option β} {g : α → β} : ∀ l : List α, (∀ x ∈ l, f x = some (g x)) → l.mapM f = some (l.map g)
  | [], _ => by simp
  | x :: r, h => by
    rw [List.mapM_cons, h x (by simp), mapM_all r (fun y hy => h y (by simp [hy]))]
    rfl
theorem keyLits_introw {P : Program} {t e : TypeId} {f0 f1 : Field} {k0 k1 : IntKind} {n : Nat} (hu : P.underlying t = some (.struct #[f0, f1])) (n0 : f0.name ≠ "_") (n1 : f1.name ≠ "_") (o0 : f0.offset = 0) (o1 : f1.offset = 1)
    (h0 : P.underlying f0.type = some (.int k0)) (h1 : P.underlying f1.type = some (.array n e)) (hue : P.underlying e = some (.int k1)) (ct : P.cellsOf t = n + 1) (c0 : P.cellsOf f0.type = 1) (c1 : P.cellsOf f1.type = n) (ce : P.cellsOf e = 1)
    (d : Nat) (a : Int) (l : List Int) (hl : l.length = n) (ha : (Lit.int k0 a).wf = true) (hw : ∀ x ∈ l, (Lit.int k1 x).wf = true) :
    P.keyLits (d + 3) t (Value.int k0 a :: l.map fun x => Value.int k1 x) = some (Lit.int k0 a :: l.map fun x => Lit.int k1 x) := by
  have e0 : P.keyLits (d + 2) f0.type [Value.int k0 a] = some [Lit.int k0 a] := by simp [Program.keyLits, h0, ha]
  have e1 : P.keyLits (d + 2) f1.type (l.map fun x => Value.int k1 x) = some (l.map fun x => Lit.int k1 x) := by
    have hm : (List.range n).mapM (fun i => P.keyLits (d + 1) e (((l.map fun x => Value.int k1 x).drop (i * P.cellsOf e)).take (P.cellsOf e))) = some ((List.range n).map fun i => [Lit.int k1 (l.getD i 0)]) := by
      refine mapM_all _ fun i hi => ?_
      rw [List.mem_range] at hi
      have hil : i < l.length := by omega
      rw [ce, Nat.mul_one, List.drop_eq_getElem_cons (by simpa using hil)]
      have : (Lit.int k1 l[i]).wf = true := hw _ (List.getElem_mem _)
      simp [Program.keyLits, hue, this, List.getD, hil]
    unfold Program.keyLits
    simp only [h1]
    rw [if_pos (by rw [c1, List.length_map, hl]), hm, Option.map_some]
    congr 1
    rw [← List.flatMap_def]
    apply List.ext_getElem?
    intro j
    have : ((List.range n).flatMap fun i => [Lit.int k1 (l.getD i 0)]) = (List.range n).map fun i => Lit.int k1 (l.getD i 0) := by
      generalize List.range n = r
      induction r with
      | nil => rfl
      | cons x r ih => rw [List.flatMap_cons, ih]; rfl
    rw [this, List.getElem?_map, List.getElem?_map]
    by_cases hj : j < n
    · rw [List.getElem?_range hj, List.getElem?_eq_getElem (by omega)]
      simp [List.getD, show j < l.length by omega]
    · rw [List.getElem?_eq_none (by simpa using hj), List.getElem?_eq_none (by omega)]
      rfl
  unfold Program.keyLits
  simp only [hu]
  have hall : (#[f0, f1] : Array Field).all (fun f => f.name != "_") = true := by simp [n0, n1]
  rw [if_pos ⟨by rw [ct, List.length_cons, List.length_map, hl], hall⟩]
  rw [List.mapM_cons, List.mapM_cons, List.mapM_nil]
  rw [o0, o1, c0, c1, List.drop_zero, List.drop_succ_cons, List.drop_zero, show List.take 1 (Value.int k0 a :: l.map fun x => Value.int k1 x) = [Value.int k0 a] from rfl, List.take_of_length_le (by simp; omega), e0, e1]
  show some ([[Lit.int k0 a], l.map fun x => Lit.int k1 x].flatten) = _
  simp
theorem keyOf_introw {P : Program} {t e : TypeId} {f0 f1 : Field} {k0 k1 : IntKind} {n : Nat} (hu : P.underlying t = some (.struct #[f0, f1])) (n0 : f0.name ≠ "_") (n1 : f1.name ≠ "_") (o0 : f0.offset = 0) (o1 : f1.offset = 1)
    (h0 : P.underlying f0.type = some (.int k0)) (h1 : P.underlying f1.type = some (.array n e)) (hue : P.underlying e = some (.int k1)) (ct : P.cellsOf t = n + 1) (c0 : P.cellsOf f0.type = 1) (c1 : P.cellsOf f1.type = n) (ce : P.cellsOf e = 1)
    (hk : P.keyType t = true) (hs : 2 ≤ P.types.size) (a : Int) (l : List Int) (hl : l.length = n) (ha : (Lit.int k0 a).wf = true) (hw : ∀ x ∈ l, (Lit.int k1 x).wf = true) :
    ∃ kl, keyOf P t (.agg (Value.int k0 a :: l.map fun x => Value.int k1 x).toArray) = some kl := by
  obtain ⟨d, hd⟩ : ∃ d, P.types.size + 1 = d + 3 := ⟨P.types.size - 2, by omega⟩
  have hf : (Value.agg (Value.int k0 a :: l.map fun x => Value.int k1 x).toArray).formed P t = true := by
    simp [Value.formed, hu, ct, hl]
  refine ⟨.string (keyBytes (Lit.int k0 a :: l.map fun x => Lit.int k1 x)), ?_⟩
  unfold keyOf
  simp only [hu]
  rw [if_pos (by rw [hk, hf]; rfl), hd, show (Value.agg (Value.int k0 a :: l.map fun x => Value.int k1 x).toArray).cells.toList = (Value.int k0 a :: l.map fun x => Value.int k1 x) from by simp [Value.cells], keyLits_introw hu n0 n1 o0 o1 h0 h1 hue ct c0 c1 ce d a l hl ha hw]
  rfl
set_option maxRecDepth 100000 in
theorem print_key (L : Nat) (ws : List Nat) (hL : L < 256) (h : ws.length = 8) (hw : ∀ x ∈ ws, x < 18446744073709551616) : ∃ kl, keyOf Try.prog 88 (.agg (pcA L ws)) = some kl := by
  rw [pcA_eq]
  refine keyOf_introw (t := 88) (e := 26) (f0 := (Try.prog.fieldsOf 88)[0]!) (f1 := (Try.prog.fieldsOf 88)[1]!) (k0 := .u8) (k1 := .u64) (n := 8)
    (by kernel_rfl) (by decide +kernel) (by decide +kernel) (by kernel_rfl) (by kernel_rfl) (by kernel_rfl) (by kernel_rfl) Try.underlying26 (by kernel_rfl) (by kernel_rfl) (by kernel_rfl) (by kernel_rfl) (by decide +kernel) (by decide +kernel) _ _ (by simpa using h) ?_ ?_
  · simp [Lit.wf, IntKind.min, IntKind.max, IntKind.bits, IntKind.signed]; omega
  · intro x hx
    obtain ⟨y, hy, rfl⟩ := List.mem_map.1 hx
    have := hw y hy
    simp [Lit.wf, IntKind.min, IntKind.max, IntKind.bits, IntKind.signed]; omega
end Go.Proofs.Ytkkhojealihghaa
