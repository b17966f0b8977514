/- An argument that is a record, opened. -/
import Derived.Test.YtfapipamohlniaaDoorOpenB
import Derived.OpenShut
namespace Go.Proofs.YtfapipamohlniaaDoor
open Go.ChangeShapes Go.WideShapes Go.ChangeAt Go.RowKit
variable {H : Type} {enc : TypeId × Value → H} {P : Program} {w : World} {base : Nat} {spare : Nat → Bool} {held : Bool}

theorem open_bytes1 {m : Nat} {t e : TypeId} {v : Value} {y : DataW H × List MemPlace} (h1 : P.underlying t = some (.slice e)) (he : P.underlying e = some (.int .u8)) (hCe : P.cellsOf e = 1) (g1 : DataW.trod enc P w base spare held m t [v] = some y) :
    ∃ A n c l, v = .slice A n c ∧ l.length = n ∧ Rd w w.heap.size 1 A n (bcells l) ∧ n ≤ c := by
  obtain ⟨A, n, c, rfl⟩ : ∃ A n c, v = .slice A n c := by
    rcases Go.Deep.open_slice h1 g1 with ⟨hc, _⟩ | ⟨a, len, cap, _, _, _, _, hc, _⟩
    · injection hc with hc
      exact ⟨_, _, _, hc⟩
    · injection hc with hc
      exact ⟨_, _, _, hc⟩
  have hT : DataW.Trod enc P w base spare held t (.slice A n c) y.1 y.2 := ⟨m, g1⟩
  obtain ⟨l, hl, hr, hnc, _⟩ := rd_bytes h1 he hCe hT
  exact ⟨A, n, c, l, rfl, hl, hr, hnc⟩
theorem rec_of_trod {m : Nat} {t e : TypeId} {f0 f1 f2 f3 f4 g0 g1 : Field} {cs : List Value} {y : DataW H × List MemPlace}
    (ht : P.underlying t = some (.struct #[f0, f1, f2, f3, f4])) (hC : P.cellsOf t = 6) (o0 : f0.offset = 0) (o1 : f1.offset = 1) (o2 : f2.offset = 2) (o3 : f3.offset = 3) (o4 : f4.offset = 4)
    (k0 : P.cellsOf f0.type = 1) (k1 : P.cellsOf f1.type = 1) (k2 : P.cellsOf f2.type = 1) (k3 : P.cellsOf f3.type = 1) (k4 : P.cellsOf f4.type = 2)
    (h0 : P.underlying f0.type = some (.int .u64)) (h1 : P.underlying f1.type = some (.int .i64)) (h2 : P.underlying f2.type = some (.slice e)) (h3 : P.underlying f3.type = some (.slice e)) (h4 : P.underlying f4.type = some (.struct #[g0, g1]))
    (hone : Go.Deep.oneCellFields P #[g0, g1] = true) (hg0 : P.underlying g0.type = some (.int .u32)) (hg1 : P.underlying g1.type = some (.int .u32)) (he : P.underlying e = some (.int .u8)) (hCe : P.cellsOf e = 1)
    (hf : DataW.trod enc P w base spare held m t cs = some y) :
    ∃ (q : Nat) (k : Int) (A : Option Addr) (n c : Nat) (B : Option Addr) (m' d : Nat) (s o : Nat) (a b : List UInt8), cs = [.int .u64 (q : Int), .int .i64 k, .slice A n c, .slice B m' d, .int .u32 (s : Int), .int .u32 (o : Int)] ∧
      q < 18446744073709551616 ∧ -9223372036854775808 ≤ k ∧ k < 9223372036854775808 ∧ s < 4294967296 ∧ o < 4294967296 ∧ Rd w w.heap.size 1 A n (bcells a) ∧ Rd w w.heap.size 1 B m' (bcells b) ∧ n ≤ c ∧ m' ≤ d := by
  obtain ⟨xs, m1, _, hx, hlen, hxl, hfld⟩ := DataW.trod_struct ht hf
  rw [hC] at hlen
  obtain ⟨v0, v1, v2, v3, v4, v5, rfl⟩ : ∃ v0 v1 v2 v3 v4 v5, cs = [v0, v1, v2, v3, v4, v5] := by
    match cs, hlen with
    | [a, b, c, d, e, f], _ => exact ⟨a, b, c, d, e, f, rfl⟩
  obtain ⟨y0, y1, y2, y3, y4, rfl⟩ : ∃ y0 y1 y2 y3 y4, xs = [y0, y1, y2, y3, y4] := by
    match xs, hxl with
    | [a, b, c, d, e], _ => exact ⟨a, b, c, d, e, rfl⟩
  have r0 := hfld 0 f0 rfl
  have r1 := hfld 1 f1 rfl
  have r2 := hfld 2 f2 rfl
  have r3 := hfld 3 f3 rfl
  have r4 := hfld 4 f4 rfl
  rw [o0, k0] at r0
  rw [o1, k1] at r1
  rw [o2, k2] at r2
  rw [o3, k3] at r3
  rw [o4, k4] at r4
  have r0 : DataW.trod enc P w base spare held m1 f0.type [v0] = some y0 := r0
  have r1 : DataW.trod enc P w base spare held m1 f1.type [v1] = some y1 := r1
  have r2 : DataW.trod enc P w base spare held m1 f2.type [v2] = some y2 := r2
  have r3 : DataW.trod enc P w base spare held m1 f3.type [v3] = some y3 := r3
  have r4 : DataW.trod enc P w base spare held m1 f4.type [v4, v5] = some y4 := r4
  obtain ⟨q, e0, _, w0⟩ := DataW.trod_int h0 r0
  obtain ⟨k, e1, _, w1⟩ := DataW.trod_int h1 r1
  obtain ⟨A, n, c, a, rfl, _, ra, hnc⟩ := open_bytes1 h2 he hCe r2
  obtain ⟨B, m', d, b, rfl, _, rb, hmd⟩ := open_bytes1 h3 he hCe r3
  obtain ⟨u0, u1, n4, z0, z1, e4, p0, p1⟩ := fields2 h4 hone k4 r4
  obtain ⟨s, e5, _, w5⟩ := DataW.trod_int hg0 p0
  obtain ⟨o, e6, _, w6⟩ := DataW.trod_int hg1 p1
  simp only [List.cons.injEq, and_true] at e0 e1 e4 e5 e6
  obtain ⟨rfl, rfl⟩ := e4
  subst e0; subst e1; subst e5; subst e6
  have b0 : 0 ≤ q ∧ q < 18446744073709551616 := by simp [Lit.wf, IntKind.min, IntKind.max, IntKind.signed, IntKind.bits] at w0; omega
  have b1 : -9223372036854775808 ≤ k ∧ k < 9223372036854775808 := by simp [Lit.wf, IntKind.min, IntKind.max, IntKind.signed, IntKind.bits] at w1; omega
  have b5 : 0 ≤ s ∧ s < 4294967296 := by simp [Lit.wf, IntKind.min, IntKind.max, IntKind.signed, IntKind.bits] at w5; omega
  have b6 : 0 ≤ o ∧ o < 4294967296 := by simp [Lit.wf, IntKind.min, IntKind.max, IntKind.signed, IntKind.bits] at w6; omega
  exact ⟨q.toNat, k, A, n, c, B, m', d, s.toNat, o.toNat, a, b, by rw [Int.toNat_of_nonneg b0.1, Int.toNat_of_nonneg b5.1, Int.toNat_of_nonneg b6.1], by omega, b1.1, b1.2, by omega, by omega, ra, rb, hnc, hmd⟩
theorem open_rec {r : Reach} {b0 : Nat} {t e : TypeId} {f0 f1 f2 f3 f4 g0 g1 : Field} {v : Value} {D : DataW H} {ps : List MemPlace}
    (ht : P.underlying t = some (.struct #[f0, f1, f2, f3, f4])) (hC : P.cellsOf t = 6) (o0 : f0.offset = 0) (o1 : f1.offset = 1) (o2 : f2.offset = 2) (o3 : f3.offset = 3) (o4 : f4.offset = 4)
    (k0 : P.cellsOf f0.type = 1) (k1 : P.cellsOf f1.type = 1) (k2 : P.cellsOf f2.type = 1) (k3 : P.cellsOf f3.type = 1) (k4 : P.cellsOf f4.type = 2)
    (h0 : P.underlying f0.type = some (.int .u64)) (h1 : P.underlying f1.type = some (.int .i64)) (h2 : P.underlying f2.type = some (.slice e)) (h3 : P.underlying f3.type = some (.slice e)) (h4 : P.underlying f4.type = some (.struct #[g0, g1]))
    (hone : Go.Deep.oneCellFields P #[g0, g1] = true) (hg0 : P.underlying g0.type = some (.int .u32)) (hg1 : P.underlying g1.type = some (.int .u32)) (he : P.underlying e = some (.int .u8)) (hCe : P.cellsOf e = 1)
    (hval : Value.okWide P w r b0 t v) (hd : DataW.Trod enc P w base spare held t v D ps) :
    ∃ (q : Nat) (k : Int) (A : Option Addr) (n c : Nat) (B : Option Addr) (m' d : Nat) (s o : Nat) (a b : List UInt8), v = .agg #[.int .u64 (q : Int), .int .i64 k, .slice A n c, .slice B m' d, .int .u32 (s : Int), .int .u32 (o : Int)] ∧
      q < 18446744073709551616 ∧ -9223372036854775808 ≤ k ∧ k < 9223372036854775808 ∧ s < 4294967296 ∧ o < 4294967296 ∧ Rd w w.heap.size 1 A n (bcells a) ∧ Rd w w.heap.size 1 B m' (bcells b) ∧ n ≤ c ∧ m' ≤ d := by
  unfold Value.okWide at hval
  rw [ht] at hval
  obtain ⟨cs, rfl, _, _⟩ := hval
  obtain ⟨fuel, hf⟩ := hd
  have hcs : (Value.agg cs).cells.toList = cs.toList := rfl
  rw [hcs] at hf
  obtain ⟨q, k, A, n, c, B, m', d, s, o, a, b, e1, h⟩ := rec_of_trod ht hC o0 o1 o2 o3 o4 k0 k1 k2 k3 k4 h0 h1 h2 h3 h4 hone hg0 hg1 he hCe hf
  exact ⟨q, k, A, n, c, B, m', d, s, o, a, b, by congr 1; apply Array.toList_inj.1; rw [e1], h⟩
end Go.Proofs.YtfapipamohlniaaDoor
