/- Package link: Len, Last, Wrong. For all links. -/
import Derived.Test.YtnkkieiofpplgaaLk2
import Derived.Test.YtnkkieiofpplgaaGA
namespace Go.Proofs.Ytnkkieiofpplgaa
open Go.RowKit
attribute [local go_sem] Oper.semAt_some

set_option maxRecDepth 100000 in
theorem lenlk_any {B g bh ba : Nat} {v : Value} {S : LS} (w : World) (h : Lk w B g bh ba v S) : Calls Try.prog 11 #[.pointer (some ⟨g, 0, none⟩)] w fun e w' => e = .returned (.int .i64 (S.ahead.length : Int)) ∧ w = w' := by
  have H := Lib.hid h
  have hln := fun ty => h.2.2.2.2.2.2.1.len Try.underlying69 ty
  have c1 : w.cell? ⟨g, 1, none⟩ = some (.map (some ba)) := h.2.2.2.2.1.cell 1
  clear h
  go_enter Try.func11, Try.ntmps11
  go_wp2_with fail
  refine (nonelk_any w H.out).mono ?_
  rintro e w2 ⟨rfl, rfl⟩
  go_wp2_with fail
  exact bodyPost_ret (results_tmp rfl _ _ _) rfl ⟨rfl, rfl⟩
set_option maxRecDepth 100000 in
theorem lastlk_any {B g bh ba : Nat} {v : Value} {S : LS} (w : World) (h : Lk w B g bh ba v S) : Calls Try.prog 20 #[.pointer (some ⟨g, 0, none⟩)] w fun e w' => e = .returned (.int .u64 (S.last : Int)) ∧ w = w' := by
  have H := Lib.hid h
  have c1 : w.cell? ⟨g, 3, none⟩ = some (.int .u64 (S.last : Int)) := h.2.2.2.2.1.cell 3
  clear h
  go_enter Try.func20, Try.ntmps20
  go_wp2_with fail
  refine (nonelk_any w H.out).mono ?_
  rintro e w2 ⟨rfl, rfl⟩
  go_wp2_with fail
  exact bodyPost_ret (results_tmp rfl _ _ _) rfl ⟨rfl, rfl⟩
theorem Try.infoLoc : (Try.prog.info? 34).map (fun i => (i.zero, i.size, i.bytes)) = some (some (.agg #[.int .u32 0, .int .u32 0]), 2, 8) := by kernel_rfl
theorem eltLoc : Elt Try.prog 47 34 (.agg #[.int .u32 0, .int .u32 0]) 2 8 := ⟨Try.underlying47, Try.infoLoc, rfl, by omega⟩
theorem lcs_one (L : List (Nat × Nat)) : ∀ u ∈ lcs L, u.oneCell' = true := by
  intro u hu
  obtain ⟨l, _, h⟩ := List.mem_flatMap.1 hu
  simp only [List.mem_cons, List.not_mem_nil, or_false] at h
  rcases h with rfl | rfl <;> rfl
set_option maxRecDepth 100000 in
theorem cloneL_any (L : List (Nat × Nat)) (A : Option Addr) (n c : Nat) (w : World) (hn : n ≤ 1000000) (h : Rd w w.heap.size 2 A n (lcs L)) :
    Calls Try.prog 32 #[.slice A n c] w fun e w' => ∃ v, e = .returned v ∧ Ow w' w.heap.size 34 2 v n (lcs L) ∧ Below w.heap.size w w' := by
  have hq := Lib.run_eql_slice_nil (P := Try.prog) w 47 34 A n c 0 0 Try.underlying47
  cases A with
  | none =>
    have hn0 : n = 0 := by
      rcases Nat.eq_zero_or_pos n with h0 | h0
      · exact h0
      · obtain ⟨_, _, e, _⟩ := h.2.2 h0
        cases e
    subst hn0
    have hL : lcs L = [] := List.eq_nil_of_length_eq_zero (by have := h.1; omega)
    have HL := Lib.hid hL
    clear h hL
    go_enter Try.func32, Try.ntmps32
    go_wp2_with fail
    refine bodyPost_ret (results_tmp rfl _ _ _) rfl ⟨_, rfl, ?_, Below.refl _ _⟩
    rw [HL.out]
    exact World.ownsRow_nil _ _ _ _
  | some p =>
    have R := Lib.hid (h.alloc (Nat.le_refl _) (.cells #[] 34))
    have o1 : Ow (w.alloc (.cells #[] 34)) w.heap.size 34 2 (.slice (some ⟨w.heap.size, 0, none⟩) 0 0) 0 [] := ⟨rfl, .inr ⟨w.heap.size, 0, #[], rfl, Nat.le_refl _, heap_alloc_new w _, Nat.le_refl _, Nat.zero_le _, rfl, rfl⟩⟩
    have hb := belowAlloc (Below.refl w.heap.size w) (.cells #[] 34)
    have O1 := Lib.hid o1
    have HB := Lib.hid hb
    clear o1 hb h
    go_enter Try.func32, Try.ntmps32
    go_wp2_with (first
      | (at_builtin; refine wpList_app eltLoc rfl (.tmp 5) (.tmp 6) rfl rfl O1.out rfl R.out (lcs_one L) (by omega) (by unfold maxLen; omega) HB.out (by simp) ?_; intro v5 w5 o5 b5 g5 x5; have O5 : Hid (Ow _ _ _ _ _ _ _) := Lib.hid o5; have HB := Lib.hid b5; clear o5 b5 g5 x5)
      | fail)
    refine bodyPost_ret (results_tmp rfl _ _ _) rfl ⟨_, rfl, ?_, HB.out⟩
    have := O5.out
    rw [Nat.zero_add, List.nil_append] at this
    exact this
set_option maxRecDepth 100000 in
theorem wronglk_any {B g bh ba : Nat} {v : Value} {S : LS} (w : World) (h : Lk w B g bh ba v S) (hn : S.wrong.length ≤ 1000000) : Calls Try.prog 12 #[.pointer (some ⟨g, 0, none⟩)] w fun e w' => ∃ v, e = .returned v ∧ Ow w' w.heap.size 34 2 v S.wrong.length (lcs S.wrong) ∧ Below w.heap.size w w' := by
  have H := Lib.hid h
  obtain ⟨A, c, rfl, -⟩ := own_cap h.2.2.2.2.2.2.2
  have c1 : w.cell? ⟨g, 2, none⟩ = some (.slice A S.wrong.length c) := h.2.2.2.2.1.cell 2
  have HC := Lib.hid (cloneL_any S.wrong A S.wrong.length c w hn (Rd.of_own h.2.2.2.2.2.2.2))
  clear h
  go_enter Try.func12, Try.ntmps12
  go_wp2_with fail
  refine (nonelk_any w H.out).mono ?_
  rintro e w2 ⟨rfl, rfl⟩
  go_wp2_with fail
  refine HC.out.mono ?_
  rintro e w2 ⟨v2, rfl, o2, b2⟩
  have O2 : Hid (Ow _ _ _ _ _ _ _) := Lib.hid o2
  have HB := Lib.hid b2
  clear o2 b2
  go_wp2_with fail
  exact bodyPost_ret (results_tmp rfl _ _ _) rfl ⟨v2, rfl, O2.out, HB.out⟩
end Go.Proofs.Ytnkkieiofpplgaa
