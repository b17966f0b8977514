/- Package edit: Get. For every bytes: a deferred closure recovers what the reader throws. -/
import Derived.Test.YtedjolkkidciiaaEd5
import Derived.Defers
import Derived.Recover
namespace Go.Proofs.Ytedjolkkidciiaa
open Go.RowKit
attribute [local go_sem] Oper.semAt_some

def noEd : Array Value := #[.int .i64 0, .string ⟨#[]⟩, .int .u64 0, .int .u32 0, .slice none 0 0]
set_option maxRecDepth 100000 in
set_option maxHeartbeats 2000000 in
theorem catch_panicking (p q : Nat) (hpq : p ≠ q) (z : Nat) (older : List PanicEntry) (w : World) (hp : Blk w p 28 noEd) (hq : Blk w q 29 #[.int .i64 0]) :
    CallsD Try.prog 25 #[.pointer (some ⟨p, 0, none⟩), .pointer (some ⟨q, 0, none⟩)] (.panicking ({ v := .iface 29 (.int .i64 (z : Int)), recovered := false } :: older)) w fun e u' w' =>
      e = .returned (.tuple #[]) ∧ u' = .panicking ({ v := .iface 29 (.int .i64 (z : Int)), recovered := true } :: older) ∧ Blk w' p 28 noEd ∧ Blk w' q 29 #[.int .i64 (z : Int)] ∧ (∀ B, B ≤ p → B ≤ q → Below B w w') := by
  refine callsD_of_wpS Try.func25 rfl fun c₀ cs hu => ?_
  apply wpS_seq
  apply wpS_region
  simp only [Try.ntmps25, List.size_toArray, List.length_cons, List.length_nil, Nat.reduceAdd, Nat.reduceSub, Array.replicate_succ, Array.replicate_zero, List.push_toArray, List.append_toArray, List.nil_append, List.cons_append]
  simp [wpOpsS, go_sem, recoverD, hu, Exit.thenS]
  refine wpS_of_wp ?_
  have hta : ∀ (x : TypeId) W, (Instr.typeAssert (.iface 29 (.int .i64 (z : Int))) x 29 true).run Try.prog W = .ok (.tuple #[.int .i64 (z : Int), .bool true]) W := fun x W => by
    simp [Instr.typeAssert, run_underlying Try.underlying29, Result.andThen]
  have q1 : Blk (w.setRow p #[.int .i64 0, .string ⟨#[]⟩, .int .u64 0, .int .u32 0, .slice none 0 0]) q 29 #[.int .i64 0] := (row_other (fun e => hpq e.symm) _).trans hq
  have c0 : (w.setRow p #[.int .i64 0, .string ⟨#[]⟩, .int .u64 0, .int .u32 0, .slice none 0 0]).cell? ⟨q, 0, none⟩ = some (.int .i64 0) := q1.cell 0
  have f0 := q1.frozen 0
  go_wp2_with (first
    | (refine wpList_storeB rfl 28 (.tmp 0) (.tmp 11) rfl rfl rfl hp (by kernel_rfl) (by rfl) (by simp [Value.oneCell']) ?_)
    | fail)
  refine ⟨rfl, _, rfl, _, results_none rfl _ _ _, rfl, rfl, ?_, ?_, ?_⟩
  · exact (hp.row noEd).far (p := ⟨q, 0, none⟩) hpq (.int .i64 (z : Int))
  · exact q1.set_ 0 (.int .i64 (z : Int))
  · exact fun B h1 h2 => (row_below (Below.refl B w) h1 _).setCell (p := ⟨q, 0, none⟩) h2 _

set_option maxRecDepth 100000 in
theorem catch_idle (p q : Nat) (w : World) :
    CallsD Try.prog 25 #[.pointer (some ⟨p, 0, none⟩), .pointer (some ⟨q, 0, none⟩)] .returning w fun e u' w' => e = .returned (.tuple #[]) ∧ u' = .returning ∧ w' = w := by
  refine callsD_of_wpS Try.func25 rfl fun c₀ cs hu => ?_
  apply wpS_seq
  apply wpS_region
  simp only [Try.ntmps25, List.size_toArray, List.length_cons, List.length_nil, Nat.reduceAdd, Nat.reduceSub, Array.replicate_succ, Array.replicate_zero, List.push_toArray, List.append_toArray, List.nil_append, List.cons_append]
  simp [wpOpsS, go_sem, recoverD, hu, Exit.thenS]
  refine wpS_of_wp ?_
  go_wp2
  exact ⟨rfl, .returning, by cases c₀; simp_all, _, results_none rfl _ _ _, rfl, rfl, rfl⟩

theorem load_plain {P : Program} {w : World} {t : TypeId} {p : Addr} {v : Value} (ht : plainT P t = true) (hc : w.cell? p = some v) : (loadVar t p).run P w = .ok v w := by
  unfold plainT at ht
  split at ht <;> first | cases ht | skip
  rename_i d hd1 hd2 hu
  have hu : P.underlying t = some d := hu
  have e : (isAgg t).run P w = .ok false w := by
    unfold isAgg
    rw [Sem.run_bind, run_underlying hu]
    show Sem.run P (match d with | .struct _ => pure true | .array _ _ => pure true | _ => pure false) w = _
    cases d <;> first | rfl | exact absurd rfl (hd1 _) | exact absurd rfl (hd2 _ _)
  simp only [Sem.run_bind, Result.andThen_ok, loadVar, e, Bool.false_eq_true, if_false, run_load, hc]
theorem results_cellcell {P : Program} {fn : Func} {tmps : Array Value} {w : World} {a u : Tmp} {t t2 : TypeId} {g g1 : Nat} {cs : Array Value} {v : Value} (h : fn.results = #[.cell a t, .cell u t2]) (ha : tmps.getD a undef = .pointer (some ⟨g, 0, none⟩)) (hu : tmps.getD u undef = .pointer (some ⟨g1, 0, none⟩))
    (hl : (loadVar t ⟨g, 0, none⟩).run P w = .ok (.agg cs) w) (hl2 : (loadVar t2 ⟨g1, 0, none⟩).run P w = .ok v w) : (results fn tmps).run P w = .ok (.tuple #[.agg cs, v]) w := by
  have ha' := res_addr (P := P) (w := w) ha
  have hu' := res_addr (P := P) (w := w) hu
  rw [Array.getD_eq_getD_getElem?] at ha' hu'
  simp [results, h, ha', hl, hu', hl2]
/-- what Get tells -/
def getE (l : List UInt8) : Ed × Nat := match rdEd l with | .ok d => (d, 0) | .error e => (Ed.none, e)
def RetGetE (w : World) (l : List UInt8) (e : Ending) (w' : World) : Prop :=
  ∃ v, e = .returned (.tuple #[.agg (edC (getE l).1 ⟨(getE l).1.name.toArray⟩ v), .int .i64 ((getE l).2 : Int)]) ∧ w'.ownsRow w.heap.size 40 5 v (getE l).1.seals.length (slCells (getE l).1.seals) ∧ Below w.heap.size w w'
theorem below_but {B r : Nat} {w w1 w2 : World} (h : Below B w w1) (hg : w1.grownBy w2 (some r)) (hB : B ≤ r) (hs : B ≤ w1.heap.size) : Below B w w2 :=
  h.grown hg hs (fun k hk => by injection hk with hk; omega)

set_option maxRecDepth 100000 in
set_option maxHeartbeats 4000000 in
theorem getEd_any (l : List UInt8) (A : Option Addr) (n c : Nat) (w : World) (hnc : n ≤ c) (hr : Rd w w.heap.size 1 A n (bcells l)) : Calls Try.prog 10 #[.slice A n c] w (RetGetE w l) := by
  have hmf : ∀ (fn : Fn) (first cap : Array Value) (w : World), (Instr.makeFunc fn first cap).run Try.prog w = .ok (.func fn first cap) w := fun _ _ _ _ => rfl
  go_enter_defers Try.func10, Try.ntmps10
  go_wp2_with fail
  have q0 := ((Blk.new w 28 #[.int .i64 0, .string ⟨#[]⟩, .int .u64 0, .int .u32 0, .slice none 0 0]).alloc (.cells #[.int .i64 0] 29)).alloc (.cells #[.slice A n c] 58)
  have q1 := (Blk.newAt (w.alloc (.cells #[.int .i64 0, .string ⟨#[]⟩, .int .u64 0, .int .u32 0, .slice none 0 0] 28)) 29 #[.int .i64 0] (g := w.heap.size + 1) (by simp)).alloc (.cells #[.slice A n c] 58)
  have qr := Blk.newAt ((w.alloc (.cells #[.int .i64 0, .string ⟨#[]⟩, .int .u64 0, .int .u32 0, .slice none 0 0] 28)).alloc (.cells #[.int .i64 0] 29)) 58 #[.slice A n c] (g := w.heap.size + 1 + 1) (by simp)
  have hb := belowAlloc (belowAlloc (belowAlloc (Below.refl w.heap.size w) (.cells #[.int .i64 0, .string ⟨#[]⟩, .int .u64 0, .int .u32 0, .slice none 0 0] 28)) (.cells #[.int .i64 0] 29)) (.cells #[.slice A n c] 58)
  generalize ((w.alloc (.cells #[.int .i64 0, .string ⟨#[]⟩, .int .u64 0, .int .u32 0, .slice none 0 0] 28)).alloc (.cells #[.int .i64 0] 29)).alloc (.cells #[.slice A n c] 58) = w3 at *
  have st : Stands w3 w.heap.size (w.heap.size + 1 + 1) l := ⟨A, n, c, qr, hr.below hb (Nat.le_refl _), hnc⟩
  have H := edit_any l w.heap.size (w.heap.size + 1 + 1) w3 st (by omega)
  refine H.mono ?_
  intro e w4 h4
  have hlt := st.lt
  cases hx : rdEd l with
  | error z =>
    rw [hx] at h4
    obtain ⟨rfl, g4⟩ := h4
    have q0 := q0.grown g4 (by simp; omega)
    have q1 := q1.grown g4 (by simp)
    have hb := below_but hb g4 (by omega) (by omega)
    refine leaves_cons (f := 25) (args := #[.pointer (some ⟨w.heap.size, 0, none⟩), .pointer (some ⟨w.heap.size + 1, 0, none⟩)]) (by simp) (by simp [go_sem]) ?_
    refine (catch_panicking w.heap.size (w.heap.size + 1) (by omega) z [] w4 q0 q1).mono ?_
    rintro e u' w5 ⟨rfl, rfl, q0, q1, hbb⟩
    have hge : getE l = (Ed.none, z) := by unfold getE; rw [hx]
    exact ⟨_, results_cellcell rfl rfl rfl (res_load q0 Try.underlying28 rfl (by kernel_rfl)) (load_plain (by kernel_rfl) (q1.cell 0)), .slice none 0 0, by rw [hge]; rfl, by rw [hge]; exact World.ownsRow_nil _ _ _ _, hb.trans (hbb w.heap.size (Nat.le_refl _) (by omega))⟩
  | ok d =>
    rw [hx] at h4
    obtain ⟨⟨v, rfl, own⟩, g4⟩ := h4
    have q0 := q0.grown g4 (by simp; omega)
    have q1 := q1.grown g4 (by simp)
    have hb := below_but hb g4 (by omega) (by omega)
    have hge : getE l = (d, 0) := by unfold getE; rw [hx]
    have own := own_low own (show w.heap.size ≤ w3.heap.size from by omega)
    obtain ⟨nk, nn, ns, ni, nl⟩ := d
    have HGE := Lib.hid hge
    have hz : (edC ⟨nk, nn, ns, ni, nl⟩ ⟨nn.toArray⟩ v) = #[.int .i64 nk, .string ⟨nn.toArray⟩, .int .u64 (ns : Int), .int .u32 (ni : Int), v] := rfl
    obtain ⟨Av, cv, rfl, hcv⟩ := own_cap own
    rw [hz]
    have q1b : Blk (w4.setRow w.heap.size #[.int .i64 nk, .string ⟨nn.toArray⟩, .int .u64 (ns : Int), .int .u32 (ni : Int), .slice Av nl.length cv]) (w.heap.size + 1) 29 #[.int .i64 0] := (row_other (by omega) _).trans q1
    have q0b := q0.row #[.int .i64 nk, .string ⟨nn.toArray⟩, .int .u64 (ns : Int), .int .u32 (ni : Int), .slice Av nl.length cv]
    have c1 := q1b.cell 0
    have c1 : (w4.setRow w.heap.size #[.int .i64 nk, .string ⟨nn.toArray⟩, .int .u64 (ns : Int), .int .u32 (ni : Int), .slice Av nl.length cv]).cell? ⟨w.heap.size + 1, 0, none⟩ = some (.int .i64 0) := c1
    have f1 := q1b.frozen 0
    have Q0 := Lib.hid q0
    have hbw := row_below hb (Nat.le_refl _) #[.int .i64 nk, .string ⟨nn.toArray⟩, .int .u64 (ns : Int), .int .u32 (ni : Int), .slice Av nl.length cv]
    have ownb : Ow (w4.setRow w.heap.size #[.int .i64 nk, .string ⟨nn.toArray⟩, .int .u64 (ns : Int), .int .u32 (ni : Int), .slice Av nl.length cv]) w.heap.size 40 5 (.slice Av nl.length cv) nl.length (slCells nl) :=
      World.ownsRow.kept own ⟨rfl, rfl, rfl, by simp [World.setRow], fun k _ hk => row_other (by simpa using hk) _⟩ (Or.inr (own_blk_ne q0 own (by decide)).symm)
    have q1c := q1b.set_ 0 (.int .i64 0)
    have q0c := q0b.far (p := ⟨w.heap.size + 1, 0, none⟩) (by simp) (.int .i64 0)
    have HBC := Lib.hid (hbw.setCell (p := ⟨w.heap.size + 1, 0, none⟩) (by simp) (.int .i64 0))
    have OWC := Lib.hid (Ow.setT ownb q1b (by decide) 0 (.int .i64 0))
    have Q0C := Lib.hid q0c
    have Q1C := Lib.hid q1c
    clear hz hge own q0 hbw ownb q1c q0c q0b q1b hx hb qr st q1 hr H g4
    go_wp2_with (first
      | (refine wpList_storeB rfl 28 (.tmp 2) (.tmp 10) rfl rfl rfl Q0.out (by kernel_rfl) (by rfl) (by simp [Value.oneCell']) ?_)
      | fail)
    refine leaves_cons (f := 25) (args := #[.pointer (some ⟨w.heap.size, 0, none⟩), .pointer (some ⟨w.heap.size + 1, 0, none⟩)]) (by simp) (by simp [go_sem]) ?_
    refine (catch_idle w.heap.size (w.heap.size + 1) _).mono ?_
    rintro e u' w5 ⟨rfl, rfl, rfl⟩
    exact ⟨_, results_cellcell rfl rfl rfl (res_load Q0C.out Try.underlying28 rfl (by kernel_rfl)) (load_plain (by kernel_rfl) (Q1C.out.cell 0)), .slice Av nl.length cv, by rw [HGE.out]; rfl, by rw [HGE.out]; exact OWC.out, HBC.out⟩
end Go.Proofs.Ytedjolkkidciiaa
