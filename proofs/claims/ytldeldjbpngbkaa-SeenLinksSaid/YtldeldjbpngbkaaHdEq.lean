/- A head compared with a head. -/
import Derived.Test.YtldeldjbpngbkaaLkLoc
import Derived.Test.YtldeldjbpngbkaaLkSt
import Derived.Test.YtldeldjbpngbkaaLk1
import Derived.Test.YtldeldjbpngbkaaEq
namespace Go.Proofs.Ytldeldjbpngbkaa
open Go.RowKit

theorem run_isAgg_struct {P : Program} {w : World} {fs : Array Field} {t : TypeId} (h : P.underlying t = some (.struct fs)) : (isAgg t).run P w = .ok true w := by
  unfold isAgg
  rw [Sem.run_bind, run_underlying h]
  rfl
section
variable {P : Program} {w : World}
theorem run_equalIn_int2 (d : Nat) {t : TypeId} {f0 f1 : Field} {k0 k1 : IntKind} (hu : P.underlying t = some (.struct #[f0, f1])) (hst : P.stoodInHeld t = false) (n0 : f0.name ≠ "_") (n1 : f1.name ≠ "_") (o0 : f0.offset = 0) (o1 : f1.offset = 1)
    (h0 : P.underlying f0.type = some (.int k0)) (h1 : P.underlying f1.type = some (.int k1)) (a b a' b' : Int) :
    (Op.equalIn (d + 1 + 1) t (.agg #[.int k0 a, .int k1 b]) (.agg #[.int k0 a', .int k1 b'])).run P w = .ok ((a == a') && (b == b')) w := by
  have hf : P.fieldsOf t = #[f0, f1] := by simp [Program.fieldsOf, hu]
  rw [run_equalIn_struct w (d + 1) t _ _ (by rw [hf]; exact hu) hst, hf]
  have p0 : P.plainKey f0.type = true := by simp [Program.plainKey, h0]
  have p1 : P.plainKey f1.type = true := by simp [Program.plainKey, h1]
  have e0 : ∀ x y : Int, (Op.equalIn (d + 1) f0.type (.int k0 x) (.int k0 y)).run P w = .ok (x == y) w := fun x y => run_equalIn_int w d f0.type k0 k0 x y h0
  have e1 : ∀ x y : Int, (Op.equalIn (d + 1) f1.type (.int k1 x) (.int k1 y)).run P w = .ok (x == y) w := fun x y => run_equalIn_int w d f1.type k1 k1 x y h1
  have q0 : (part f0.type #[.int k0 a, .int k1 b] 0).run P w = .ok (.int k0 a) w := run_part_plain w p0 rfl
  have q0' : (part f0.type #[.int k0 a', .int k1 b'] 0).run P w = .ok (.int k0 a') w := run_part_plain w p0 rfl
  have q1 : (part f1.type #[.int k0 a, .int k1 b] 1).run P w = .ok (.int k1 b) w := run_part_plain w p1 rfl
  have q1' : (part f1.type #[.int k0 a', .int k1 b'] 1).run P w = .ok (.int k1 b') w := run_part_plain w p1 rfl
  simp only [Op.eqFields, n0, n1, ne_eq, not_false_eq_true, if_true, Sem.run_bind, o0, o1, q0, q0', Result.andThen_ok]
  rw [e0]
  by_cases h : a = a'
  · subst h
    simp only [beq_self_eq_true, Result.andThen_ok, Bool.not_true, Bool.false_eq_true, if_false, Bool.true_and, Sem.run_bind]
    rw [q1, Result.andThen_ok, q1', Result.andThen_ok, e1]
    by_cases h' : b = b'
    · subst h'; simp
    · simp [h']
  · have hb : (a == a') = false := by simpa using h
    rw [hb]
    simp
end
noncomputable def hF (i : Nat) : Field := (Try.prog.fieldsOf 41)[i]!
theorem hF_u : Try.prog.underlying 41 = some (.struct #[hF 0, hF 1, hF 2]) := by kernel_rfl
set_option maxRecDepth 100000 in
theorem equal_head (h h' : Nat × Nat × Nat × Int) (w : World) : (Op.equal 41 (hdV h) (hdV h')).run Try.prog w = .ok (decide (h = h')) w := by
  obtain ⟨a, b, q, k⟩ := h
  obtain ⟨a', b', q', k'⟩ := h'
  show (Op.equalIn (9999 + 1) 41 (.agg #[.int .u32 (a : Int), .int .u32 (b : Int), .int .u64 (q : Int), .int .i64 k]) (.agg #[.int .u32 (a' : Int), .int .u32 (b' : Int), .int .u64 (q' : Int), .int .i64 k'])).run Try.prog w = _
  have hf : Try.prog.fieldsOf 41 = #[hF 0, hF 1, hF 2] := by unfold Program.fieldsOf; rw [hF_u]
  rw [run_equalIn_struct w 9999 41 _ _ (by rw [hf]; exact hF_u) (by kernel_rfl), hf]
  have t0 : (hF 0).type = 29 := by kernel_rfl
  have t1 : (hF 1).type = 30 := by kernel_rfl
  have t2 : (hF 2).type = 3 := by kernel_rfl
  have n0 : (hF 0).name ≠ "_" := by decide +kernel
  have n1 : (hF 1).name ≠ "_" := by decide +kernel
  have n2 : (hF 2).name ≠ "_" := by decide +kernel
  have o : (hF 0).offset = 0 ∧ (hF 1).offset = 2 ∧ (hF 2).offset = 3 := by decide +kernel
  obtain ⟨o0, o1, o2⟩ := o
  have p1 : Try.prog.plainKey 30 = true := by simp [Program.plainKey, Try.underlying30]
  have p2 : Try.prog.plainKey 3 = true := by simp [Program.plainKey, Try.underlying3]
  have e0 : (Op.equalIn 9999 29 (locV a b) (locV a' b')).run Try.prog w = .ok (decide (a = a' ∧ b = b')) w := by
    unfold locV
    rw [show (9999 : Nat) = 9997 + 1 + 1 from rfl, run_equalIn_int2 9997 Try.underlying29 (by kernel_rfl) (by decide) (by decide) rfl rfl Try.underlying27 Try.underlying27]
    congr 1
    rw [Bool.eq_iff_iff]
    simp
    omega
  have e1 : ∀ x y : Int, (Op.equalIn (9998 + 1) 30 (.int .u64 x) (.int .u64 y)).run Try.prog w = .ok (x == y) w := fun x y => run_equalIn_int w 9998 _ _ _ x y Try.underlying30
  have e2 : ∀ x y : Int, (Op.equalIn (9998 + 1) 3 (.int .i64 x) (.int .i64 y)).run Try.prog w = .ok (x == y) w := fun x y => run_equalIn_int w 9998 _ _ _ x y Try.underlying3
  have q0 : ∀ a b q k, (part 29 #[.int .u32 a, .int .u32 b, .int .u64 q, .int .i64 k] 0).run Try.prog w = .ok (.agg #[.int .u32 a, .int .u32 b]) w := fun a b q k => by
    kernel_rfl
  have q1 : ∀ a b q k, (part 30 #[.int .u32 a, .int .u32 b, .int .u64 q, .int .i64 k] 2).run Try.prog w = .ok (.int .u64 q) w := fun a b q k => run_part_plain w p1 rfl
  have q2 : ∀ a b q k, (part 3 #[.int .u32 a, .int .u32 b, .int .u64 q, .int .i64 k] 3).run Try.prog w = .ok (.int .i64 k) w := fun a b q k => run_part_plain w p2 rfl
  simp only [Op.eqFields, n0, n1, n2, ne_eq, not_false_eq_true, if_true, Sem.run_bind, o0, o1, o2, t0, t1, t2, q0, Result.andThen_ok]
  rw [show (.agg #[.int .u32 (a : Int), .int .u32 (b : Int)] : Value) = locV a b from rfl, show (.agg #[.int .u32 (a' : Int), .int .u32 (b' : Int)] : Value) = locV a' b' from rfl, e0]
  by_cases h0 : a = a' ∧ b = b'
  · obtain ⟨rfl, rfl⟩ := h0
    simp only [and_self, decide_true, Result.andThen_ok, Bool.not_true, Bool.false_eq_true, if_false, Sem.run_bind, q1]
    rw [show (9999 : Nat) = 9998 + 1 from rfl, e1]
    by_cases h1 : q = q'
    · subst h1
      simp only [beq_self_eq_true, Result.andThen_ok, Bool.not_true, Bool.false_eq_true, if_false, Sem.run_bind, q2]
      rw [e2]
      by_cases h2 : k = k'
      · subst h2
        simp
      · simp [h2]
    · have : ((q : Int) == (q' : Int)) = false := by simp; omega
      rw [this]
      simp [h1]
  · rw [decide_eq_false h0]
    have : ¬ ((a, b, q, k) = (a', b', q', k')) := fun e => h0 (by injection e with e1 e; injection e with e2 e; exact ⟨e1, e2⟩)
    rw [decide_eq_false this]
    simp
end Go.Proofs.Ytldeldjbpngbkaa
