/- Package edit: the reader's seal. For every bytes. -/
import Derived.Test.YtedjolkkidciiaaEd1
import Derived.Test.YtedjolkkidciiaaGB
import Derived.Deep.CutRange
namespace Go.Proofs.Ytedjolkkidciiaa
open Go.RowKit
attribute [local go_sem] Oper.semAt_some

theorem Stands.kept {w w' : World} {B r g : Nat} {l : List UInt8} (h : Stands w B r l) (hg : w.grownBy w' (some g)) (hr : g ≠ r) (hB : B ≤ r) (hgB : B ≤ g) : Stands w' B r l := by
  obtain ⟨A, n, c, q, hr', hnc⟩ := h
  exact ⟨A, n, c, q.grown hg (by simpa using fun e => hr e.symm), hr'.grown hg (by have := q.lt; omega) (fun k hk => by injection hk with hk; omega), hnc⟩
theorem Stands.alloc {w : World} {B r : Nat} {l : List UInt8} (h : Stands w B r l) (hB : B ≤ r) (o : Obj) : Stands (w.alloc o) B r l := by
  have hlt : r < w.heap.size := by obtain ⟨A, n, c, q, _⟩ := h; exact q.lt
  exact h.kept (g := w.heap.size) ⟨rfl, rfl, rfl, by simp, fun k hk _ => Below.heap_alloc _ _ _ hk⟩ (by omega) hB (by omega)
theorem Stands.set {w : World} {B r : Nat} {l : List UInt8} (h : Stands w B r l) (hB : B ≤ r) {p : Addr} (hp : r < p.block) (v : Value) : Stands (w.setCell p v) B r l :=
  h.kept (grown_set w p v) (by omega) hB (by omega)
theorem Stands.row {w : World} {B r : Nat} {l : List UInt8} (h : Stands w B r l) (hB : B ≤ r) {g : Nat} (hp : r < g) (cs : Array Value) : Stands (w.setRow g cs) B r l :=
  h.kept (g := g) ⟨rfl, rfl, rfl, by simp [World.setRow], fun k _ hk => row_other (by simpa using hk) cs⟩ (by omega) hB (by omega)
theorem Stands.lt {w : World} {B r : Nat} {l : List UInt8} (h : Stands w B r l) : r < w.heap.size := by obtain ⟨A, n, c, q, _⟩ := h; exact q.lt
theorem Stands.drew {w : World} {B r : Nat} {l : List UInt8} (h : Stands w B r l) : Stands w.drew B r l := h
/-- what w knew, but for the reader's block, w' knows -/
def Kept (r : Nat) (w w' : World) : Prop := w'.os = w.os ∧ w'.tape = w.tape ∧ w'.output = w.output ∧ w.heap.size ≤ w'.heap.size ∧ ∀ k, k < w.heap.size → k ≠ r → w'.heap[k]? = w.heap[k]?
theorem kept_grown {r : Nat} {w w' : World} : Kept r w w' ↔ w.grownBy w' (some r) :=
  ⟨fun h => ⟨h.1, h.2.1, h.2.2.1, h.2.2.2.1, fun k hk hr => h.2.2.2.2 k hk (by simpa using hr)⟩, fun h => ⟨h.os, h.tape, h.output, h.size, fun k hk hr => h.block k hk (by simpa using hr)⟩⟩
theorem Kept.go {r : Nat} {w a b : World} (h : Kept r w a) (hg : a.grownBy b (some r)) : Kept r w b :=
  ⟨hg.os.trans h.1, hg.tape.trans h.2.1, hg.output.trans h.2.2.1, Nat.le_trans h.2.2.2.1 hg.size, fun k hk hr => (hg.block k (by have := h.2.2.2.1; omega) (by simpa using hr)).trans (h.2.2.2.2 k hk hr)⟩
theorem Kept.alloc {r : Nat} {w a : World} (h : Kept r w a) (o : Obj) : Kept r w (a.alloc o) :=
  ⟨h.1, h.2.1, h.2.2.1, by have := h.2.2.2.1; simp; omega, fun k hk hr => (Below.heap_alloc _ _ _ (by have := h.2.2.2.1; omega)).trans (h.2.2.2.2 k hk hr)⟩
theorem Kept.set {r : Nat} {w a : World} (h : Kept r w a) {p : Addr} (hp : w.heap.size ≤ p.block) (v : Value) : Kept r w (a.setCell p v) :=
  ⟨h.1, h.2.1, h.2.2.1, by simpa [World.setCell] using h.2.2.2.1, fun k hk hr => (Below.heap_setCell _ _ _ _ (by omega)).trans (h.2.2.2.2 k hk hr)⟩
theorem Kept.row {r : Nat} {w a : World} (h : Kept r w a) {g : Nat} (hp : w.heap.size ≤ g) (cs : Array Value) : Kept r w (a.setRow g cs) :=
  ⟨h.1, h.2.1, h.2.2.1, by rw [row_size]; exact h.2.2.2.1, fun k hk hr => (row_other (by omega) cs).trans (h.2.2.2.2 k hk hr)⟩
theorem Kept.drew {r : Nat} {w a : World} (h : Kept r w a) : Kept r w a.drew := h
theorem Kept.refl (r : Nat) (w : World) : Kept r w w := ⟨rfl, rfl, rfl, Nat.le_refl _, fun _ _ _ => rfl⟩

set_option maxRecDepth 100000 in
set_option maxHeartbeats 4000000 in
theorem seal_any (id : Nat) (l : List UInt8) (B r : Nat) (w : World) (h : Stands w B r l) (hB : B ≤ r) :
    Calls Try.prog 37 #[.pointer (some ⟨r, 0, none⟩), .int .u64 (id : Int)] w (RetRd w B r (rdSl id l) fun s => .agg s.cells.toArray) := by
  have hrl := h.lt
  have k1 := (Kept.refl r w).alloc (.cells #[.int .u32 0, .int .u32 0, .int .u32 0, .int .u64 0, .int .u64 0] 40)
  have s1 := h.alloc hB (.cells #[.int .u32 0, .int .u32 0, .int .u32 0, .int .u64 0, .int .u64 0] 40)
  have q4 := Blk.new w 40 #[.int .u32 0, .int .u32 0, .int .u32 0, .int .u64 0, .int .u64 0]
  go_enter Try.func37, Try.ntmps37
  go_upto_region 1 with (fail)
  generalize w.alloc (.cells #[.int .u32 0, .int .u32 0, .int .u32 0, .int .u64 0, .int .u64 0] 40) = w1 at *
  have N1 := Lib.hid (number_any id 16777215 l B r w1 s1 hB)
  go_wp2_with fail
  refine N1.out.mono ?_
  intro e w2 h2
  clear N1
  cases e1 : rdNum id 16777215 l with
  | error c =>
    rw [e1] at h2
    obtain ⟨rfl, g2⟩ := h2
    have hx : rdSl id l = .error c := by unfold rdSl; simp only [e1, bindR]
    exact ⟨rfl, by rw [hx]; exact ⟨rfl, kept_grown.1 (k1.go g2)⟩⟩
  | ok p =>
    obtain ⟨i, l1⟩ := p
    rw [e1] at h2
    obtain ⟨rfl, s2, g2⟩ := h2
    have k2 := k1.go g2
    obtain ⟨-, -, a1, c1, -, -, -, -⟩ := rdNum_ok e1
    have E1 := Lib.hid e1
    clear e1
    have q4 := q4.grown g2 (by simp; omega)
    have N2 := Lib.hid (number_any 16 16777216 l1 B r w2 s2 hB)
    go_wp2_with fail
    refine N2.out.mono ?_
    intro e w3 h3
    clear N2
    cases e2 : rdNum 16 16777216 l1 with
    | error c =>
      rw [e2] at h3
      obtain ⟨rfl, g3⟩ := h3
      have hx : rdSl id l = .error c := by unfold rdSl; simp only [E1.out, e2, bindR]
      exact ⟨rfl, by rw [hx]; exact ⟨rfl, kept_grown.1 (k2.go g3)⟩⟩
    | ok p =>
      obtain ⟨z, l2⟩ := p
      rw [e2] at h3
      obtain ⟨rfl, s3, g3⟩ := h3
      have k3 := k2.go g3
      obtain ⟨-, -, a2, c2, -, -, -, -⟩ := rdNum_ok e2
      have E2 := Lib.hid e2
      clear e2
      have q4 := q4.grown g3 (by simp; omega)
      have N3 := Lib.hid (number_any 0 4294967295 l2 B r w3 s3 hB)
      go_wp2_with fail
      refine N3.out.mono ?_
      intro e w4 h4
      clear N3
      cases e3 : rdNum 0 4294967295 l2 with
      | error c =>
        rw [e3] at h4
        obtain ⟨rfl, g4⟩ := h4
        have hx : rdSl id l = .error c := by unfold rdSl; simp only [E1.out, E2.out, e3, bindR]
        exact ⟨rfl, by rw [hx]; exact ⟨rfl, kept_grown.1 (k3.go g4)⟩⟩
      | ok p =>
        obtain ⟨m, l3⟩ := p
        rw [e3] at h4
        obtain ⟨rfl, s4, g4⟩ := h4
        have k4 := k3.go g4
        obtain ⟨-, -, a3, c3, -, -, -, -⟩ := rdNum_ok e3
        have E3 := Lib.hid e3
        clear e3
        have q4 := q4.grown g4 (by simp; omega)
        have i1 : (i : Int) ≤ 4294967295 := by omega
        have i2 : (z : Int) ≤ 4294967295 := by omega
        have i3 : (m : Int) ≤ 4294967295 := by omega
        have C1 := Lib.hid c1
        have A1 := Lib.hid a1
        have C2 := Lib.hid c2
        have A2 := Lib.hid a2
        have C3 := Lib.hid c3
        clear c1 a1 c2 a2 c3 a3
        have hs4 : w.heap.size < w4.heap.size := q4.lt
        by_cases hm0 : m = 0
        · subst hm0
          have q5 := Blk.new w4 40 #[.int .u32 (i : Int), .int .u32 (z : Int), .int .u32 0, .int .u64 0, .int .u64 0]
          have q4a := q4.alloc (.cells #[.int .u32 (i : Int), .int .u32 (z : Int), .int .u32 0, .int .u64 0, .int .u64 0] 40)
          have k5 := (k4.alloc (.cells #[.int .u32 (i : Int), .int .u32 (z : Int), .int .u32 0, .int .u64 0, .int .u64 0] 40)).row (Nat.le_refl _) #[.int .u32 (i : Int), .int .u32 (z : Int), .int .u32 0, .int .u64 0, .int .u64 0]
          have s5 := (s4.alloc hB (.cells #[.int .u32 (i : Int), .int .u32 (z : Int), .int .u32 0, .int .u64 0, .int .u64 0] 40)).row hB hrl #[.int .u32 (i : Int), .int .u32 (z : Int), .int .u32 0, .int .u64 0, .int .u64 0]
          have qr := q4a.row #[.int .u32 (i : Int), .int .u32 (z : Int), .int .u32 0, .int .u64 0, .int .u64 0]
          have Q5 := Lib.hid q5
          have Q4 := Lib.hid q4a
          have QR := Lib.hid qr
          have K5 := Lib.hid k5
          have S5 := Lib.hid s5
          have hx : rdSl id l = .ok (⟨i, z, 0, 0, 0⟩, l3) := by unfold rdSl; simp only [E1.out, E2.out, E3.out, bindR, if_true]
          have HX := Lib.hid hx
          clear q5 q4a qr k5 s5 hx q4 k1 k2 k3 k4 s1 s2 s3 s4 g2 g3 g4
          go_wp2_with (first
            | (refine wpList_value rfl (exec_load_blk rfl rfl Q5.out Try.underlying40 rfl (by kernel_rfl)) ?_)
            | (refine wpList_storeB rfl 40 (.tmp 4) (.tmp 36) rfl rfl rfl Q4.out (by kernel_rfl) (by rfl) (by simp [Value.oneCell']) ?_)
            | fail)
          refine bodyPost_ret (results_cell1 rfl rfl (res_load QR.out Try.underlying40 rfl (by kernel_rfl))) rfl ?_
          rw [HX.out]
          exact ⟨rfl, S5.out, kept_grown.1 K5.out⟩
        · have hmp : 0 < (m : Int) := by omega
          have q5 := Blk.new w4 40 #[.int .u32 (i : Int), .int .u32 (z : Int), .int .u32 (m : Int), .int .u64 0, .int .u64 0]
          have q4 := q4.alloc (.cells #[.int .u32 (i : Int), .int .u32 (z : Int), .int .u32 (m : Int), .int .u64 0, .int .u64 0] 40)
          have k4 := k4.alloc (.cells #[.int .u32 (i : Int), .int .u32 (z : Int), .int .u32 (m : Int), .int .u64 0, .int .u64 0] 40)
          have s4 := s4.alloc hB (.cells #[.int .u32 (i : Int), .int .u32 (z : Int), .int .u32 (m : Int), .int .u64 0, .int .u64 0] 40)
          have hz5 : (w4.alloc (.cells #[.int .u32 (i : Int), .int .u32 (z : Int), .int .u32 (m : Int), .int .u64 0, .int .u64 0] 40)).heap.size = w4.heap.size + 1 := by simp
          have N4 := Lib.hid (number_any 1 1099511627776 l3 B r _ s4 hB)
          go_wp2_with fail
          generalize w4.alloc (.cells #[.int .u32 (i : Int), .int .u32 (z : Int), .int .u32 (m : Int), .int .u64 0, .int .u64 0] 40) = w5 at *
          obtain ⟨g5, hg5⟩ : ∃ g, g = w4.heap.size := ⟨_, rfl⟩
          obtain ⟨g4', hg4⟩ : ∃ g, g = w.heap.size := ⟨_, rfl⟩
          rw [← hg5, ← hg4]
          rw [← hg5] at q5
          rw [← hg4] at q4
          have G5 := Lib.hid hg5
          have G4 := Lib.hid hg4
          have hr5 : r < g5 := by have := s3.lt; have := g4.size; omega
          have hr4 : r < g4' := by omega
          have h45 : g4' ≠ g5 := by omega
          have hw5 : w.heap.size ≤ g5 := by omega
          have hw4 : w.heap.size ≤ g4' := by omega
          clear hg5 hg4 hz5 k1 k2 k3 s1 s2 s3 g2 g3 g4 hs4
          refine N4.out.mono ?_
          intro e w6 h6
          clear N4
          cases e4 : rdNum 1 1099511627776 l3 with
          | error c =>
            rw [e4] at h6
            obtain ⟨rfl, g6⟩ := h6
            have hx : rdSl id l = .error c := by unfold rdSl; simp only [E1.out, E2.out, E3.out, bindR, hm0, if_false, e4]
            exact ⟨rfl, by rw [hx]; exact ⟨rfl, kept_grown.1 (k4.go g6)⟩⟩
          | ok p =>
            obtain ⟨f, l4⟩ := p
            rw [e4] at h6
            obtain ⟨rfl, s6, g6⟩ := h6
            obtain ⟨-, -, a4, c4, -, -, -, -⟩ := rdNum_ok e4
            have E4 := Lib.hid e4
            clear e4
            have k6 := (k4.go g6).set (p := ⟨g5, 3, none⟩) hw5 (.int .u64 (f : Int))
            have s6 := s6.set (p := ⟨g5, 3, none⟩) hB hr5 (.int .u64 (f : Int))
            have q4 := (q4.grown g6 (by simp; omega)).far (p := ⟨g5, 3, none⟩) h45 (.int .u64 (f : Int))
            have q5 := q5.grown g6 (by simp; omega)
            have f53 := q5.frozen 3
            have c53 : w6.cell? ⟨g5, 3, none⟩ = some (.int .u64 0) := q5.cell 3
            have q5 : Blk (w6.setCell ⟨g5, 3, none⟩ (.int .u64 (f : Int))) g5 40 #[.int .u32 (i : Int), .int .u32 (z : Int), .int .u32 (m : Int), .int .u64 (f : Int), .int .u64 0] := q5.set_ 3 (.int .u64 (f : Int))
            clear k4 s4 g6
            have K6 := Lib.hid k6
            have S6 := Lib.hid s6
            have Q4 := Lib.hid q4
            have Q5 := Lib.hid q5
            clear k6 s6 q4 q5
            have F0 := Lib.hid a4
            have F1 := Lib.hid c4
            clear a4 c4
            go_wp2_with fail
            have K6 := Lib.hid K6.out.drew
            have S6 := Lib.hid S6.out.drew
            have Q4 : Hid (Blk (w6.setCell ⟨g5, 3, none⟩ (.int .u64 (f : Int))).drew g4' 40 #[.int .u32 0, .int .u32 0, .int .u32 0, .int .u64 0, .int .u64 0]) := Lib.hid Q4.out
            have Q5 : Hid (Blk (w6.setCell ⟨g5, 3, none⟩ (.int .u64 (f : Int))).drew g5 40 #[.int .u32 (i : Int), .int .u32 (z : Int), .int .u32 (m : Int), .int .u64 (f : Int), .int .u64 0]) := Lib.hid Q5.out
            have hcur := grown_refl (w6.setCell ⟨g5, 3, none⟩ (.int .u64 (f : Int))).drew (some r)
            have hm1 : (m : Int) - 1 = ((m - 1 : Nat) : Int) := by omega
            have hf1 : (1099511627776 : Int) - (f : Int) = ((1099511627776 - f : Nat) : Int) := by have := F1.out; omega
            obtain ⟨m1, em1⟩ : ∃ x, x = m - 1 := ⟨_, rfl⟩
            obtain ⟨f1, ef1⟩ : ∃ x, x = 1099511627776 - f := ⟨_, rfl⟩
            rw [← em1] at hm1
            rw [← ef1] at hf1
            have EM := Lib.hid em1
            have EF := Lib.hid ef1
            have i5 : (f : Int) ≤ 1099511627776 := by have := F1.out; omega
            clear em1 ef1
            clear f53 c53
            refine wp_region_planP (X := fun c W => ∃ e, rdSl id l = .error e ∧ c = [{ v := .iface 29 (.int .i64 (e : Int)), recovered := false }] ∧ Kept r w W) (fun W => (w6.setCell ⟨g5, 3, none⟩ (.int .u64 (f : Int))).drew.grownBy W (some r)) [.calms [0, 2, 3, 7], .read 1, .read 4, .calms [5, 6], .read 8, .calms [9], .act 10, .calms [11, 12], .act 13] (by kernel_rfl) (by rfl) (by kernel_rfl) (by kernel_rfl) ?hX hcur ?_
            case hX =>
              rintro c a W hd ⟨e, hx, rfl, hk⟩
              exact ⟨hd, by rw [hx]; exact ⟨rfl, kept_grown.1 hk⟩⟩
            refine plan_calmsP (by simp [calmRow, need]; rfl) ?_
            generalize (w6.setCell ⟨g5, 3, none⟩ (.int .u64 (f : Int))).drew = w7 at *
            have HQ := fun W (h : w7.grownBy W (some r)) => Lib.hid (Q5.out.grown h (by simp; omega))
            go_wp2_with fail
            refine plan_readP (by rfl) (.int .u64 (f : Int)) (by rfl) (fun W hW => exec_load rfl rfl (by kernel_rfl) ((HQ W hW).out.cell 3)) ?_
            refine plan_readP (by rfl) (.int .u32 (m : Int)) (by rfl) (fun W hW => exec_load rfl rfl (by kernel_rfl) ((HQ W hW).out.cell 2)) ?_
            refine plan_calmsP (by simp [calmRow, need, chk]; rfl) ?_
            go_wp2_with fail
            refine plan_readP (by rfl) (.int .u64 (f : Int)) (by rfl) (fun W hW => exec_load rfl rfl (by kernel_rfl) ((HQ W hW).out.cell 3)) ?_
            refine plan_calmsP (by simp [calmRow, need, chk]; rfl) ?_
            go_wp2_with fail
            refine plan_actP (by rfl) ?_
            have N5 := Lib.hid (number_any m1 f1 l4 B r w7 S6.out hB)
            go_wp2_with fail
            refine N5.out.mono ?_
            intro e w8 h8
            clear N5
            cases e5 : rdNum m1 f1 l4 with
            | error c =>
              rw [e5] at h8
              obtain ⟨rfl, g8⟩ := h8
              have hx : rdSl id l = .error c := by unfold rdSl; simp only [E1.out, E2.out, E3.out, E4.out, bindR, hm0, if_false, ← EM.out, ← EF.out, e5]
              exact ⟨rfl, c, hx, rfl, K6.out.go g8⟩
            | ok p =>
              obtain ⟨d, l5⟩ := p
              rw [e5] at h8
              obtain ⟨rfl, s8, g8⟩ := h8
              obtain ⟨-, -, a5, c5, -, -, -, -⟩ := rdNum_ok e5
              have E5 := Lib.hid e5
              have i6 : (f : Int) + (d : Int) = ((f + d : Nat) : Int) := by omega
              have i7 : f + d ≤ 1099511627776 := by have := EF.out; have := F1.out; omega
              obtain ⟨fd, efd⟩ : ∃ x, x = f + d := ⟨_, rfl⟩
              rw [← efd] at i6 i7
              have EFD := Lib.hid efd
              have hx : rdSl id l = .ok (⟨i, z, m, f, fd⟩, l5) := by unfold rdSl; simp only [E1.out, E2.out, E3.out, E4.out, bindR, hm0, if_false, ← EM.out, ← EF.out, e5, ← efd]
              have HX := Lib.hid hx
              have i8 : (fd : Int) ≤ 1099511627776 := by omega
              have K8 := Lib.hid (K6.out.go g8)
              have S8 := Lib.hid s8
              have q4 := Q4.out.grown g8 (by simp; omega)
              have q5 := Q5.out.grown g8 (by simp; omega)
              have Q4 := Lib.hid q4
              have Q5 := Lib.hid q5
              have f54 := q5.frozen 4
              have c54 : w8.cell? ⟨g5, 4, none⟩ = some (.int .u64 0) := q5.cell 4
              clear e5 efd hx a5 c5 q4 s8
              have q5 : Blk (w8.setCell ⟨g5, 4, none⟩ (.int .u64 (fd : Int))) g5 40 #[.int .u32 (i : Int), .int .u32 (z : Int), .int .u32 (m : Int), .int .u64 (f : Int), .int .u64 (fd : Int)] := q5.set_ 4 (.int .u64 (fd : Int))
              have q4 := Q4.out.far (p := ⟨g5, 4, none⟩) h45 (.int .u64 (fd : Int))
              have qr := q4.row #[.int .u32 (i : Int), .int .u32 (z : Int), .int .u32 (m : Int), .int .u64 (f : Int), .int .u64 (fd : Int)]
              have k9 := (K8.out.set (p := ⟨g5, 4, none⟩) hw5 (.int .u64 (fd : Int))).row hw4 #[.int .u32 (i : Int), .int .u32 (z : Int), .int .u32 (m : Int), .int .u64 (f : Int), .int .u64 (fd : Int)]
              have s9 := (S8.out.set (p := ⟨g5, 4, none⟩) hB hr5 (.int .u64 (fd : Int))).row hB hr4 #[.int .u32 (i : Int), .int .u32 (z : Int), .int .u32 (m : Int), .int .u64 (f : Int), .int .u64 (fd : Int)]
              have Q5 := Lib.hid q5
              have Q4 := Lib.hid q4
              have QR := Lib.hid qr
              have K9 := Lib.hid k9
              have S9 := Lib.hid s9
              clear q5 q4 qr k9 s9
              go_wp2_with fail
              refine ⟨g8, ?_⟩
              refine plan_calmsP (by simp [calmRow, need, chk]; rfl) ?_
              go_wp2_with fail
              refine plan_lastP (by rfl) (by kernel_rfl) ?_
              go_wp2_with fail
              refine plan_endP ?_
              go_wp2_with (first
                | (refine wpList_value rfl (exec_load_blk rfl rfl Q5.out Try.underlying40 rfl (by kernel_rfl)) ?_)
                | (refine wpList_storeB rfl 40 (.tmp 4) (.tmp 36) rfl rfl rfl Q4.out (by kernel_rfl) (by rfl) (by simp [Value.oneCell']) ?_)
                | fail)
              refine bodyPost_ret (results_cell1 rfl rfl (res_load QR.out Try.underlying40 rfl (by kernel_rfl))) rfl ?_
              rw [HX.out]
              exact ⟨rfl, S9.out, kept_grown.1 K9.out⟩

end Go.Proofs.Ytedjolkkidciiaa
