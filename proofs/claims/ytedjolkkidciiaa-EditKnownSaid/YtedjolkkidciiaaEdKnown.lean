/- What the law EditKnown comes to: true. -/
import Derived.Test.YtedjolkkidciiaaEdFLaw
import Derived.Test.YtedjolkkidciiaaEd11
import Derived.Test.YtedjolkkidciiaaGB
namespace Go.Proofs.Ytedjolkkidciiaa
open Go.RowKit
attribute [local go_sem] Oper.semAt_some

theorem exec_index {P : Program} {w : World} {ρ : Operand → Value} {o : Oper} {t : TypeId} {x y : Operand} {v : Value} (ho : o.op = .index t x y) (h : (Instr.index t (ρ x) (ρ y)).run P w = .ok v w) : (execOp ρ o).run P w = .ok (.value v) w := by
  unfold execOp; rw [ho]; simp only [Sem.run_bind, h, Result.andThen_ok, Sem.run_pure]
def Z32 : List UInt8 := List.replicate 32 0
/-- an edit as it lies in a row -/
structure KdX where
  d : Ed
  A : Option Addr
  n : Nat
  c : Nat
def KdX.cells (x : KdX) : List Value := [.int .i64 x.d.kind, .string ⟨x.d.name.toArray⟩, .int .u64 (x.d.seq : Int), .int .u32 (x.d.id : Int), .slice x.A x.n x.c]
def KdX.ok (x : KdX) (w : World) : Prop := x.d.fits ∧ x.d.seals.length = x.n ∧ x.n ≤ x.c ∧ Rd w w.heap.size 5 x.A x.n (slCells x.d.seals)
theorem KdX.ok.after {x : KdX} {w w' : World} (h : x.ok w) (hb : Below w.heap.size w w') : x.ok w' := ⟨h.1, h.2.1, h.2.2.1, (h.2.2.2.below hb (Nat.le_refl _)).more hb.size⟩
def kdCells (X : List KdX) : List Value := X.flatMap KdX.cells
theorem kdAt {X : List KdX} {w : World} {p off j : Nat} {x : KdX} (hc : ∀ k u, (kdCells X)[k]? = some u → w.cell? ⟨p, off + k, none⟩ = some u) (hx : X[j]? = some x) : At w p (off + j * 5) x.cells := fun k u hu => by
  have hk : k < 5 := (List.getElem?_eq_some_iff.1 hu).1
  have := flatMap_get KdX.cells 5 (fun _ => rfl) X j k hk
  rw [Nat.add_assoc]
  refine hc _ _ ?_
  unfold kdCells
  rw [this, hx]
  exact hu
def seFits (s : Sl) : Bool := decide (s.id < 4294967296) && decide (s.size < 4294967296) && decide (s.many < 4294967296) && decide (s.first < 18446744073709551616) && decide (s.last < 18446744073709551616)
def edFits (d : Ed) : Bool := decide (d.seq < 18446744073709551616) && decide (d.id < 4294967296) && decide (d.name.length ≤ 40) && d.seals.all seFits
theorem slFits_of {s : Sl} (h : seFits s = true) : s.fits := by
  unfold seFits at h
  simp only [Bool.and_eq_true, decide_eq_true_eq] at h
  exact ⟨h.1.1.1.1, h.1.1.1.2, h.1.1.2, h.1.2, h.2⟩
theorem fits_of {d : Ed} (h : edFits d = true) : d.fits := by
  unfold edFits at h
  simp only [Bool.and_eq_true, decide_eq_true_eq] at h
  exact ⟨h.1.1.1, h.1.1.2, by have := h.1.2; omega, fun s hs => slFits_of (List.all_eq_true.1 h.2 s hs)⟩
def goodX : List KdX := [⟨⟨1, [], 0, 0, []⟩, none, 0, 0⟩, ⟨⟨1, [], 1099511627776, 0, []⟩, none, 0, 0⟩, ⟨⟨3, Z32, 0, 0, []⟩, none, 0, 0⟩, ⟨⟨4, [], 0, 16777215, []⟩, none, 0, 0⟩, ⟨⟨6, [], 0, 0, []⟩, none, 0, 0⟩]
def badX (p0 p1 p2 : Nat) : List KdX := [⟨⟨0, [], 0, 0, []⟩, none, 0, 0⟩, ⟨⟨7, [], 0, 0, []⟩, none, 0, 0⟩, ⟨⟨(-1), [], 0, 0, []⟩, none, 0, 0⟩, ⟨⟨1, [], 1099511627777, 0, []⟩, none, 0, 0⟩, ⟨⟨1, [97], 0, 0, []⟩, none, 0, 0⟩, ⟨⟨2, [], 0, 0, []⟩, none, 0, 0⟩, ⟨⟨3, (Z32 ++ [97]), 0, 0, []⟩, none, 0, 0⟩, ⟨⟨3, [97], 1, 0, []⟩, none, 0, 0⟩, ⟨⟨4, [], 0, 0, []⟩, none, 0, 0⟩, ⟨⟨4, [], 0, 16777216, []⟩, none, 0, 0⟩, ⟨⟨5, [], 0, 0, []⟩, none, 0, 0⟩, ⟨⟨5, [], 0, 0, [⟨1, 16, 0, 0, 0⟩, ⟨2, 16, 0, 0, 0⟩]⟩, some ⟨p0, 0, none⟩, 2, 2⟩, ⟨⟨6, [], 0, 1, []⟩, none, 0, 0⟩, ⟨⟨6, [], 0, 0, [⟨2, 16, 0, 0, 0⟩, ⟨2, 16, 0, 0, 0⟩]⟩, some ⟨p1, 0, none⟩, 2, 2⟩, ⟨⟨1, [], 0, 0, [⟨1, 16, 0, 0, 0⟩]⟩, some ⟨p2, 0, none⟩, 1, 1⟩]
def goodC (S : ByteArray) : Array Value := #[.int .i64 1, .string ⟨#[]⟩, .int .u64 0, .int .u32 0, .slice none 0 0, .int .i64 1, .string ⟨#[]⟩, .int .u64 1099511627776, .int .u32 0, .slice none 0 0, .int .i64 3, .string S, .int .u64 0, .int .u32 0, .slice none 0 0, .int .i64 4, .string ⟨#[]⟩, .int .u64 0, .int .u32 16777215, .slice none 0 0, .int .i64 6, .string ⟨#[]⟩, .int .u64 0, .int .u32 0, .slice none 0 0]
def badC (S : ByteArray) (p0 p1 p2 : Nat) : Array Value := #[.int .i64 0, .string ⟨#[]⟩, .int .u64 0, .int .u32 0, .slice none 0 0, .int .i64 7, .string ⟨#[]⟩, .int .u64 0, .int .u32 0, .slice none 0 0, .int .i64 (-1), .string ⟨#[]⟩, .int .u64 0, .int .u32 0, .slice none 0 0, .int .i64 1, .string ⟨#[]⟩, .int .u64 1099511627777, .int .u32 0, .slice none 0 0, .int .i64 1, .string ⟨#[97]⟩, .int .u64 0, .int .u32 0, .slice none 0 0, .int .i64 2, .string ⟨#[]⟩, .int .u64 0, .int .u32 0, .slice none 0 0, .int .i64 3, .string (S ++ ⟨#[97]⟩), .int .u64 0, .int .u32 0, .slice none 0 0, .int .i64 3, .string ⟨#[97]⟩, .int .u64 1, .int .u32 0, .slice none 0 0, .int .i64 4, .string ⟨#[]⟩, .int .u64 0, .int .u32 0, .slice none 0 0, .int .i64 4, .string ⟨#[]⟩, .int .u64 0, .int .u32 16777216, .slice none 0 0, .int .i64 5, .string ⟨#[]⟩, .int .u64 0, .int .u32 0, .slice none 0 0, .int .i64 5, .string ⟨#[]⟩, .int .u64 0, .int .u32 0, .slice (some ⟨p0, 0, none⟩) 2 2, .int .i64 6, .string ⟨#[]⟩, .int .u64 0, .int .u32 1, .slice none 0 0, .int .i64 6, .string ⟨#[]⟩, .int .u64 0, .int .u32 0, .slice (some ⟨p1, 0, none⟩) 2 2, .int .i64 1, .string ⟨#[]⟩, .int .u64 0, .int .u32 0, .slice (some ⟨p2, 0, none⟩) 1 1]
theorem good_cells : (goodC ⟨Z32.toArray⟩).toList = kdCells goodX := rfl
theorem bad_cells (p0 p1 p2 : Nat) : (badC ⟨Z32.toArray⟩ p0 p1 p2).toList = kdCells (badX p0 p1 p2) := rfl
def nilOk (x : KdX) : Bool := edFits x.d && x.d.seals.isEmpty && decide (x.n = 0) && decide (x.A = none)
theorem nil_ok {x : KdX} (h : nilOk x = true) (w : World) : x.ok w := by
  unfold nilOk at h
  simp only [Bool.and_eq_true, decide_eq_true_eq, List.isEmpty_iff] at h
  obtain ⟨⟨⟨h1, h2⟩, h3⟩, h4⟩ := h
  refine ⟨fits_of h1, by rw [h2, h3]; rfl, by rw [h3]; exact Nat.zero_le _, ?_⟩
  rw [h4, h3, h2]
  exact Rd.nil_ _ _ _ _
theorem good_nil {x : KdX} (h : x ∈ goodX) : nilOk x = true := by
  have : goodX.all nilOk = true := by decide +kernel
  exact List.all_eq_true.1 this x h
theorem good_may {x : KdX} (h : x ∈ goodX) : mayEd x.d = true := by
  have : goodX.all (fun x => mayEd x.d) = true := by decide +kernel
  exact List.all_eq_true.1 this x h
theorem good_put {x : KdX} (h : x ∈ goodX) : (putB x.d).length ≠ 0 := by
  have : goodX.all (fun x => decide ((putB x.d).length ≠ 0)) = true := by decide +kernel
  simpa using List.all_eq_true.1 this x h
theorem bad_cases {p0 p1 p2 : Nat} {x : KdX} (h : x ∈ badX p0 p1 p2) : mayEd x.d = false ∧ (nilOk x = true ∨ (edFits x.d = true ∧ x.d.seals.length = x.n ∧ x.n = x.c ∧ ((x.A = some ⟨p0, 0, none⟩ ∧ x.d.seals = [⟨1, 16, 0, 0, 0⟩, ⟨2, 16, 0, 0, 0⟩]) ∨ (x.A = some ⟨p1, 0, none⟩ ∧ x.d.seals = [⟨2, 16, 0, 0, 0⟩, ⟨2, 16, 0, 0, 0⟩]) ∨ (x.A = some ⟨p2, 0, none⟩ ∧ x.d.seals = [⟨1, 16, 0, 0, 0⟩])))) := by
  simp only [badX, List.mem_cons, List.not_mem_nil, or_false] at h
  rcases h with rfl | rfl | rfl | rfl | rfl | rfl | rfl | rfl | rfl | rfl | rfl | rfl | rfl | rfl | rfl
  · exact ⟨by decide +kernel, .inl (by decide +kernel)⟩
  · exact ⟨by decide +kernel, .inl (by decide +kernel)⟩
  · exact ⟨by decide +kernel, .inl (by decide +kernel)⟩
  · exact ⟨by decide +kernel, .inl (by decide +kernel)⟩
  · exact ⟨by decide +kernel, .inl (by decide +kernel)⟩
  · exact ⟨by decide +kernel, .inl (by decide +kernel)⟩
  · exact ⟨by decide +kernel, .inl (by decide +kernel)⟩
  · exact ⟨by decide +kernel, .inl (by decide +kernel)⟩
  · exact ⟨by decide +kernel, .inl (by decide +kernel)⟩
  · exact ⟨by decide +kernel, .inl (by decide +kernel)⟩
  · exact ⟨by decide +kernel, .inl (by decide +kernel)⟩
  · exact ⟨(show mayEd (⟨5, [], 0, 0, [⟨1, 16, 0, 0, 0⟩, ⟨2, 16, 0, 0, 0⟩]⟩ : Ed) = false by decide +kernel), .inr ⟨(show edFits (⟨5, [], 0, 0, [⟨1, 16, 0, 0, 0⟩, ⟨2, 16, 0, 0, 0⟩]⟩ : Ed) = true by decide +kernel), rfl, rfl, .inl ⟨rfl, rfl⟩⟩⟩
  · exact ⟨by decide +kernel, .inl (by decide +kernel)⟩
  · exact ⟨(show mayEd (⟨6, [], 0, 0, [⟨2, 16, 0, 0, 0⟩, ⟨2, 16, 0, 0, 0⟩]⟩ : Ed) = false by decide +kernel), .inr ⟨(show edFits (⟨6, [], 0, 0, [⟨2, 16, 0, 0, 0⟩, ⟨2, 16, 0, 0, 0⟩]⟩ : Ed) = true by decide +kernel), rfl, rfl, .inr (.inl ⟨rfl, rfl⟩)⟩⟩
  · exact ⟨(show mayEd (⟨1, [], 0, 0, [⟨1, 16, 0, 0, 0⟩]⟩ : Ed) = false by decide +kernel), .inr ⟨(show edFits (⟨1, [], 0, 0, [⟨1, 16, 0, 0, 0⟩]⟩ : Ed) = true by decide +kernel), rfl, rfl, .inr (.inr ⟨rfl, rfl⟩)⟩⟩
theorem bad_ok {p0 p1 p2 : Nat} {x : KdX} (h : x ∈ badX p0 p1 p2) {w : World} (r0 : Rd w w.heap.size 5 (some ⟨p0, 0, none⟩) 2 (slCells [⟨1, 16, 0, 0, 0⟩, ⟨2, 16, 0, 0, 0⟩])) (r1 : Rd w w.heap.size 5 (some ⟨p1, 0, none⟩) 2 (slCells [⟨2, 16, 0, 0, 0⟩, ⟨2, 16, 0, 0, 0⟩])) (r2 : Rd w w.heap.size 5 (some ⟨p2, 0, none⟩) 1 (slCells [⟨1, 16, 0, 0, 0⟩])) : x.ok w := by
  rcases (bad_cases h).2 with h1 | ⟨h1, h2, h3, h4⟩
  · exact nil_ok h1 w
  · refine ⟨fits_of h1, h2, Nat.le_of_eq h3, ?_⟩
    rcases h4 with ⟨h5, h6⟩ | ⟨h5, h6⟩ | ⟨h5, h6⟩
    · rw [← h2, h5, h6]; exact r0
    · rw [← h2, h5, h6]; exact r1
    · rw [← h2, h5, h6]; exact r2
theorem bad_put {d : Ed} (h : mayEd d = false) : (putB d).length = 0 := by unfold putB; rw [h]; rfl
def sealX : List Sl := [⟨0, 16, 0, 0, 0⟩, ⟨1, 15, 0, 0, 0⟩, ⟨1, 16777217, 0, 0, 0⟩, ⟨1, 16, 0, 1, 0⟩, ⟨1, 16, 1, 0, 0⟩, ⟨1, 16, 2, 5, 5⟩, ⟨1, 16, 1, 5, 4⟩, ⟨1, 16, 1, 5, 1099511627777⟩]
def sealC : Array Value := #[.int .u32 0, .int .u32 16, .int .u32 0, .int .u64 0, .int .u64 0, .int .u32 1, .int .u32 15, .int .u32 0, .int .u64 0, .int .u64 0, .int .u32 1, .int .u32 16777217, .int .u32 0, .int .u64 0, .int .u64 0, .int .u32 1, .int .u32 16, .int .u32 0, .int .u64 1, .int .u64 0, .int .u32 1, .int .u32 16, .int .u32 1, .int .u64 0, .int .u64 0, .int .u32 1, .int .u32 16, .int .u32 2, .int .u64 5, .int .u64 5, .int .u32 1, .int .u32 16, .int .u32 1, .int .u64 5, .int .u64 4, .int .u32 1, .int .u32 16, .int .u32 1, .int .u64 5, .int .u64 1099511627777]
theorem seal_bad {s : Sl} (h : s ∈ sealX) : maySl s = false ∧ s.fits := by
  have h1 : sealX.all (fun s => !maySl s && seFits s) = true := by decide +kernel
  have := List.all_eq_true.1 h1 s h
  simp only [Bool.and_eq_true, Bool.not_eq_true'] at this
  exact ⟨this.1, slFits_of this.2⟩
theorem seal_index (W : World) {j : Nat} {s : Sl} (h : sealX[j]? = some s) : (Instr.index 47 (.agg sealC) (.int .i64 (j : Int))).run Try.prog W = .ok (.agg #[.int .u32 (s.id : Int), .int .u32 (s.size : Int), .int .u32 (s.many : Int), .int .u64 (s.first : Int), .int .u64 (s.last : Int)]) W := by
  have hj : j < 8 := (List.getElem?_eq_some_iff.1 h).1
  have hj2 : j = 0 ∨ j = 1 ∨ j = 2 ∨ j = 3 ∨ j = 4 ∨ j = 5 ∨ j = 6 ∨ j = 7 := by omega
  rcases hj2 with rfl | rfl | rfl | rfl | rfl | rfl | rfl | rfl <;> (have hx := Option.some.inj (show some _ = some s from h); subst hx; rfl)
theorem kd_put {x : KdX} {w : World} (h : x.ok w) : Calls Try.prog 15 #[.agg #[.int .i64 x.d.kind, .string ⟨x.d.name.toArray⟩, .int .u64 (x.d.seq : Int), .int .u32 (x.d.id : Int), .slice x.A x.n x.c]] w (RetPutE w x.d) := putEd_any x.d h.1 x.A x.n x.c w h.2.1 h.2.2.2 h.2.2.1
theorem kd_may {x : KdX} {w : World} (h : x.ok w) : Calls Try.prog 17 #[.agg #[.int .i64 x.d.kind, .string ⟨x.d.name.toArray⟩, .int .u64 (x.d.seq : Int), .int .u32 (x.d.id : Int), .slice x.A x.n x.c]] w fun e w' => e = .returned (.bool (mayEd x.d)) ∧ Below w.heap.size w w' := mayEd_any x.d h.1 x.A x.n x.c w h.2.1 h.2.2.2 h.2.2.1
theorem RetGetE.none_ {w w' : World} {l : List UInt8} {e : Ending} (h : RetGetE w l e w') {k : Nat} (hk : getE l = (Ed.none, k)) : ∃ A c, e = .returned (.tuple #[.agg #[.int .i64 0, .string ⟨#[]⟩, .int .u64 0, .int .u32 0, .slice A 0 c], .int .i64 (k : Int)]) ∧ Below w.heap.size w w' := by
  obtain ⟨v, he, ho, hb⟩ := h
  rw [hk] at he ho
  obtain ⟨A, c, rfl, -⟩ := own_cap ho
  exact ⟨A, c, he, hb⟩
theorem four_rd (w : World) (t t4 : TypeId) (c1 c2 c3 c4 : Array Value) (n1 n2 n3 n4 : Nat) (h1 : c1.size = n1 * 5) (h2 : c2.size = n2 * 5) (h3 : c3.size = n3 * 5) (h4 : c4.size = n4 * 5) (m : n1 ≤ 1000 ∧ n2 ≤ 1000 ∧ n3 ≤ 1000 ∧ n4 ≤ 1000) :
    ∃ W : World, W = (((w.alloc (.cells c1 t)).alloc (.cells c2 t)).alloc (.cells c3 t)).alloc (.cells c4 t4) ∧ Rd W W.heap.size 5 (some ⟨w.heap.size, 0, none⟩) n1 c1.toList ∧ Rd W W.heap.size 5 (some ⟨w.heap.size + 1, 0, none⟩) n2 c2.toList ∧ Rd W W.heap.size 5 (some ⟨w.heap.size + 1 + 1, 0, none⟩) n3 c3.toList ∧ Rd W W.heap.size 5 (some ⟨w.heap.size + 1 + 1 + 1, 0, none⟩) n4 c4.toList ∧ Below w.heap.size w W := by
  have e : ∀ (W : World) (o : Obj), (W.alloc o).heap.size = W.heap.size + 1 := fun W o => by simp
  have r1 := own_rd (own_lit w 0 t c1 n1 5 h1 (Nat.zero_le _) (by unfold maxLen; omega))
  have r2 := own_rd (own_lit (w.alloc (.cells c1 t)) 0 t c2 n2 5 h2 (Nat.zero_le _) (by unfold maxLen; omega))
  have r3 := own_rd (own_lit ((w.alloc (.cells c1 t)).alloc (.cells c2 t)) 0 t c3 n3 5 h3 (Nat.zero_le _) (by unfold maxLen; omega))
  have r4 := own_rd (own_lit (((w.alloc (.cells c1 t)).alloc (.cells c2 t)).alloc (.cells c3 t)) 0 t4 c4 n4 5 h4 (Nat.zero_le _) (by unfold maxLen; omega))
  have b1 := belowAlloc (Below.refl w.heap.size w) (.cells c1 t)
  have b2 := belowAlloc (Below.refl _ (w.alloc (.cells c1 t))) (.cells c2 t)
  have b3 := belowAlloc (Below.refl _ ((w.alloc (.cells c1 t)).alloc (.cells c2 t))) (.cells c3 t)
  have b4 := belowAlloc (Below.refl _ (((w.alloc (.cells c1 t)).alloc (.cells c2 t)).alloc (.cells c3 t))) (.cells c4 t4)
  refine ⟨_, rfl, (r1.below (belowGo (belowGo b2 b3) b4) (Nat.le_refl _)).more (belowGo (belowGo b2 b3) b4).size, ?_, ?_, ?_, belowGo (belowGo (belowGo b1 b2) b3) b4⟩
  · have := (r2.below (belowGo b3 b4) (Nat.le_refl _)).more (belowGo b3 b4).size
    rwa [e w] at this
  · have := (r3.below b4 (Nat.le_refl _)).more b4.size
    rwa [e (w.alloc _), e w] at this
  · rwa [e ((w.alloc _).alloc _), e (w.alloc _), e w] at r4
theorem Try.szEdit : (Try.prog.info? 28).map (·.size) = some 5 := by kernel_rfl
theorem Try.szSeal : (Try.prog.info? 40).map (·.size) = some 5 := by kernel_rfl
theorem gk1 : getE [] = (Ed.none, 4) := by decide +kernel
theorem gk2 : getE [0] = (Ed.none, 5) := by decide +kernel
theorem gk3 : getE [3, 0] = (Ed.none, 5) := by decide +kernel
theorem gk4 : getE [5, 7, 100, 2, 3, 0] = (Ed.none, 5) := by decide +kernel
theorem gk5 : getE [6, 0, 128, 201] = (Ed.none, 5) := by decide +kernel
theorem sl6 : maySl ⟨1, 16, 2, 5, 6⟩ = true := by decide +kernel
theorem sl6f : (⟨1, 16, 2, 5, 6⟩ : Sl).fits := slFits_of (by decide +kernel)
set_option maxRecDepth 100000 in
set_option maxHeartbeats 16000000 in
theorem known_walk (w : World) : Calls Try.prog 5 #[] w fun e w' => e = .returned (.bool true) ∧ Below w.heap.size w w' := by
  obtain ⟨i0, hi, hz0, hz1, hz2⟩ := info_parts Try.infoU8
  have hmk : (Instr.makeSlice 22 (.int .i64 32) (.int .i64 32)).run Try.prog w = .ok (.slice (some ⟨w.heap.size, 0, none⟩) 32 32) (w.alloc (.cells (madeCells #[.int .u8 0] 32) 5)) := by
    have := run_make_rowN (P := Try.prog) 22 5 i0 (.int .u8 0) Try.underlying22 hi hz0 .i64 .i64 32 32 (Nat.le_refl _) (by rw [hz2]; omega) (by omega) w
    rw [hz1, Nat.mul_one] at this
    exact this
  have HMK := Lib.hid hmk
  have q1 := Blk.new w 5 (madeCells #[.int .u8 0] 32)
  have hb := (Below.refl w.heap.size w).alloc (Nat.le_refl _) (.cells (madeCells #[.int .u8 0] 32) 5)
  have r1 : Rd (w.alloc (.cells (madeCells #[.int .u8 0] 32) 5)) _ 1 (some ⟨w.heap.size, 0, none⟩) 32 (bcells Z32) := bcell_rd q1 (by rw [madeCells_one]; rfl) (by rw [size_madeCells]) (by unfold maxLen; omega)
  obtain ⟨S, hS⟩ : ∃ S : ByteArray, S = ⟨Z32.toArray⟩ := ⟨_, rfl⟩
  have hSz : S.size = 32 := by rw [hS]; rfl
  have hcv : (convert 22 9 (.slice (some ⟨w.heap.size, 0, none⟩) 32 32)).run Try.prog (w.alloc (.cells (madeCells #[.int .u8 0] 32) 5)) = .ok (.string S) (w.alloc (.cells (madeCells #[.int .u8 0] 32) 5)) := by
    rw [hS]; exact run_conv (P := Try.prog) Try.underlying22 Try.underlying5 Try.underlying9 32 r1
  have HS := Lib.hid hS
  clear hmk q1 r1 hi hz0 hz1 hz2 hS
  go_enter Try.func5, Try.ntmps5
  go_upto_region 2 with (first | (refine wpList_value rfl (exec_make rfl HMK.out) ?_) | fail)
  generalize w.alloc (.cells (madeCells #[.int .u8 0] 32) 5) = w1 at *
  clear hcv HMK
  have HB := Lib.hid hb
  clear hb
  have b2 := belowAlloc (Below.refl w1.heap.size w1) (.cells (goodC S) 28)
  have o2 := own_rd (own_lit w1 0 28 (goodC S) 5 5 rfl (Nat.zero_le _) (by decide))
  go_upto_region 3 with (fail)
  rw [show (#[.int .i64 1, .string ⟨#[]⟩, .int .u64 0, .int .u32 0, .slice none 0 0, .int .i64 1, .string ⟨#[]⟩, .int .u64 1099511627776, .int .u32 0, .slice none 0 0, .int .i64 3, .string S, .int .u64 0, .int .u32 0, .slice none 0 0, .int .i64 4, .string ⟨#[]⟩, .int .u64 0, .int .u32 16777215, .slice none 0 0, .int .i64 6, .string ⟨#[]⟩, .int .u64 0, .int .u32 0, .slice none 0 0] : Array Value) = goodC S from rfl]
  generalize w1.alloc (.cells (goodC S) 28) = w2 at *
  obtain ⟨pg, hpg⟩ : ∃ g, g = w1.heap.size := ⟨_, rfl⟩
  rw [← hpg] at o2 ⊢
  rw [HS.out, good_cells] at o2
  have RG := Lib.hid o2
  have HB := Lib.hid (belowGo HB.out b2)
  clear hpg b2 o2
  go_upto_region 4 with (fail)
  rw [show (#[.int .i64 0, .string ⟨#[]⟩, .int .u64 0, .int .u32 0, .slice none 0 0, .int .i64 7, .string ⟨#[]⟩, .int .u64 0, .int .u32 0, .slice none 0 0, .int .i64 (-1), .string ⟨#[]⟩, .int .u64 0, .int .u32 0, .slice none 0 0, .int .i64 1, .string ⟨#[]⟩, .int .u64 1099511627777, .int .u32 0, .slice none 0 0, .int .i64 1, .string ⟨#[97]⟩, .int .u64 0, .int .u32 0, .slice none 0 0, .int .i64 2, .string ⟨#[]⟩, .int .u64 0, .int .u32 0, .slice none 0 0, .int .i64 3, .string (S ++ ⟨#[97]⟩), .int .u64 0, .int .u32 0, .slice none 0 0, .int .i64 3, .string ⟨#[97]⟩, .int .u64 1, .int .u32 0, .slice none 0 0, .int .i64 4, .string ⟨#[]⟩, .int .u64 0, .int .u32 0, .slice none 0 0, .int .i64 4, .string ⟨#[]⟩, .int .u64 0, .int .u32 16777216, .slice none 0 0, .int .i64 5, .string ⟨#[]⟩, .int .u64 0, .int .u32 0, .slice none 0 0, .int .i64 5, .string ⟨#[]⟩, .int .u64 0, .int .u32 0, .slice (some ⟨w2.heap.size, 0, none⟩) 2 2, .int .i64 6, .string ⟨#[]⟩, .int .u64 0, .int .u32 1, .slice none 0 0, .int .i64 6, .string ⟨#[]⟩, .int .u64 0, .int .u32 0, .slice (some ⟨w2.heap.size + 1, 0, none⟩) 2 2, .int .i64 1, .string ⟨#[]⟩, .int .u64 0, .int .u32 0, .slice (some ⟨w2.heap.size + 1 + 1, 0, none⟩) 1 1] : Array Value) = badC S w2.heap.size (w2.heap.size + 1) (w2.heap.size + 1 + 1) from rfl]
  obtain ⟨w3, hw3, r0, r1, r2, r3, b3⟩ := four_rd w2 40 28 #[.int .u32 1, .int .u32 16, .int .u32 0, .int .u64 0, .int .u64 0, .int .u32 2, .int .u32 16, .int .u32 0, .int .u64 0, .int .u64 0] #[.int .u32 2, .int .u32 16, .int .u32 0, .int .u64 0, .int .u64 0, .int .u32 2, .int .u32 16, .int .u32 0, .int .u64 0, .int .u64 0] #[.int .u32 1, .int .u32 16, .int .u32 0, .int .u64 0, .int .u64 0] (badC S w2.heap.size (w2.heap.size + 1) (w2.heap.size + 1 + 1)) 2 2 1 15 rfl rfl rfl rfl (by omega)
  rw [← hw3]
  obtain ⟨p0, e0⟩ : ∃ g, g = w2.heap.size := ⟨_, rfl⟩
  obtain ⟨p1, e1⟩ : ∃ g, g = w2.heap.size + 1 := ⟨_, rfl⟩
  obtain ⟨p2, e2⟩ : ∃ g, g = w2.heap.size + 1 + 1 := ⟨_, rfl⟩
  obtain ⟨pb, e3⟩ : ∃ g, g = w2.heap.size + 1 + 1 + 1 := ⟨_, rfl⟩
  rw [← e3] at r3 ⊢
  rw [← e2] at r2 r3 ⊢
  rw [← e1] at r1 r3 ⊢
  rw [← e0] at r0 r3 ⊢
  rw [HS.out, bad_cells] at r3
  have R0 := Lib.hid r0
  have R1 := Lib.hid r1
  have R2 := Lib.hid r2
  have RB := Lib.hid r3
  have RG := Lib.hid ((RG.out.below b3 (Nat.le_refl _)).more b3.size)
  have HB := Lib.hid (belowGo HB.out b3)
  clear hw3 e0 e1 e2 e3 r0 r1 r2 r3 b3 hSz
  go_wp2_with fail
  go_loopw [61] (fun i wr => ∃ j : Nat, j ≤ 5 ∧ i = .int .i64 (j : Int) ∧ Below w3.heap.size w3 wr) (fun i _ => 5 - (intOf i).toNat)
  case atStart => exact ⟨0, by omega, rfl, Below.refl _ _⟩
  case round =>
    obtain ⟨j, hj, rfl, hb⟩ := hrel
    have HBR := Lib.hid hb
    by_cases hin : j < 5
    · have i1 : (j : Int) < 5 := by omega
      obtain ⟨x, hx⟩ : ∃ x, (goodX)[j]? = some x := ⟨_, List.getElem?_eq_getElem hin⟩
      have hmem := List.mem_of_getElem? hx
      have HAT : Hid (At wr pg (j * 5) [.int .i64 x.d.kind, .string ⟨x.d.name.toArray⟩, .int .u64 (x.d.seq : Int), .int .u32 (x.d.id : Int), .slice x.A x.n x.c]) := Lib.hid (by
        obtain ⟨p, off, he, hpl, hcell⟩ := RG.out.2.2 (by omega)
        injection he with he
        injection he with he1 he2
        subst he1 he2
        have := kdAt (X := goodX) (fun k u hu => (hb.cell (p := ⟨pg, 0 + k, none⟩) hpl).trans (hcell k u hu)) hx
        rwa [Nat.zero_add] at this)
      have HOK := Lib.hid (nil_ok (good_nil hmem) wr)
      have HM := Lib.hid (good_may hmem)
      have HP := Lib.hid (good_put hmem)
      clear hx hmem hb
      have b3 := belowAlloc (Below.refl wr.heap.size wr) (.cells #[.int .i64 x.d.kind, .string ⟨x.d.name.toArray⟩, .int .u64 (x.d.seq : Int), .int .u32 (x.d.id : Int), .slice x.A x.n x.c] 28)
      have q3 := Blk.new wr 28 #[.int .i64 x.d.kind, .string ⟨x.d.name.toArray⟩, .int .u64 (x.d.seq : Int), .int .u32 (x.d.id : Int), .slice x.A x.n x.c]
      go_upto_region 7 with (first
        | (refine wpList_value rfl (exec_load_mid rfl rfl HAT.out Try.underlying28 rfl (by kernel_rfl)) ?_)
        | fail)
      generalize wr.alloc (.cells #[.int .i64 x.d.kind, .string ⟨x.d.name.toArray⟩, .int .u64 (x.d.seq : Int), .int .u32 (x.d.id : Int), .slice x.A x.n x.c] 28) = wa at *
      obtain ⟨g3, hg3⟩ : ∃ g, g = wr.heap.size := ⟨_, rfl⟩
      rw [← hg3] at q3 ⊢
      have Q3 := Lib.hid q3
      have OK3 := Lib.hid (HOK.out.after b3)
      have HBA := Lib.hid (belowGo HBR.out b3)
      have PUT := Lib.hid (kd_put OK3.out)
      clear hg3 q3 b3 HAT HOK HBR
      go_wp2_with (first
        | (refine wpList_value rfl (exec_load_blk rfl rfl Q3.out Try.underlying28 rfl Try.szEdit) ?_)
        | fail)
      refine PUT.out.mono ?_
      rintro e wb ⟨v, he, ho, bb⟩
      simp only [HM.out, if_true] at he
      subst he
      obtain ⟨A', c', rfl, -⟩ := own_cap ho
      have hp0 := HP.out
      obtain ⟨m, hm⟩ : ∃ m, m = (putB x.d).length := ⟨_, rfl⟩
      rw [← hm] at hp0 ⊢
      have hm0 : ¬ ((m : Int) = 0) := by omega
      have hm1 : ((m : Int) == 0) = false := by rw [beq_eq_false_iff_ne]; exact hm0
      clear hm hp0
      have Q4 := Lib.hid (Q3.out.after bb)
      have OK4 := Lib.hid (OK3.out.after bb)
      have HBB := Lib.hid (belowGo HBA.out bb)
      have MAY := Lib.hid (kd_may OK4.out)
      rw [HM.out] at MAY
      clear PUT ho bb Q3 OK3 HBA
      go_upto_region 8 with fail
      go_wp2_with (first
        | (refine wpList_value rfl (exec_load_blk rfl rfl Q4.out Try.underlying28 rfl Try.szEdit) ?_)
        | fail)
      refine MAY.out.mono ?_
      rintro e wc ⟨rfl, bb⟩
      have HBC := Lib.hid (belowGo HBB.out bb)
      clear bb MAY Q4 OK4 HBB
      go_wp2_with fail
      go_roundw
      case rel => exact ⟨j + 1, by omega, by go_num, HBC.out⟩
      case measure => simp [intOf]; omega
    · obtain rfl : j = 5 := by omega
      clear hb hin hj
      rw [show ((5 : Nat) : Int) = 5 from rfl]
      have HB := Lib.hid (belowGo HB.out HBR.out)
      obtain ⟨w4, hw4⟩ : ∃ W, W = wr := ⟨_, rfl⟩
      subst hw4
      have R0 := Lib.hid ((R0.out.below HBR.out (Nat.le_refl _)).more HBR.out.size)
      have R1 := Lib.hid ((R1.out.below HBR.out (Nat.le_refl _)).more HBR.out.size)
      have R2 := Lib.hid ((R2.out.below HBR.out (Nat.le_refl _)).more HBR.out.size)
      have RB := Lib.hid ((RB.out.below HBR.out (Nat.le_refl _)).more HBR.out.size)
      clear HBR RG
      go_wp2_with fail
      go_loopw [85] (fun i wr => ∃ j : Nat, j ≤ 15 ∧ i = .int .i64 (j : Int) ∧ Below w4.heap.size w4 wr) (fun i _ => 15 - (intOf i).toNat)
      case atStart => exact ⟨0, by omega, rfl, Below.refl _ _⟩
      case round =>
        obtain ⟨j, hj, rfl, hb⟩ := hrel
        have HBR := Lib.hid hb
        by_cases hin : j < 15
        · have i1 : (j : Int) < 15 := by omega
          obtain ⟨x, hx⟩ : ∃ x, (badX p0 p1 p2)[j]? = some x := ⟨_, List.getElem?_eq_getElem hin⟩
          have hmem := List.mem_of_getElem? hx
          have HAT : Hid (At wr pb (j * 5) [.int .i64 x.d.kind, .string ⟨x.d.name.toArray⟩, .int .u64 (x.d.seq : Int), .int .u32 (x.d.id : Int), .slice x.A x.n x.c]) := Lib.hid (by
            obtain ⟨p, off, he, hpl, hcell⟩ := RB.out.2.2 (by omega)
            injection he with he
            injection he with he1 he2
            subst he1 he2
            have := kdAt (X := badX p0 p1 p2) (fun k u hu => (hb.cell (p := ⟨pb, 0 + k, none⟩) hpl).trans (hcell k u hu)) hx
            rwa [Nat.zero_add] at this)
          have HOK := Lib.hid (bad_ok hmem ((R0.out.below hb (Nat.le_refl _)).more hb.size) ((R1.out.below hb (Nat.le_refl _)).more hb.size) ((R2.out.below hb (Nat.le_refl _)).more hb.size))
          have HM := Lib.hid (bad_cases hmem).1
          clear hx hmem hb
          have b3 := belowAlloc (Below.refl wr.heap.size wr) (.cells #[.int .i64 x.d.kind, .string ⟨x.d.name.toArray⟩, .int .u64 (x.d.seq : Int), .int .u32 (x.d.id : Int), .slice x.A x.n x.c] 28)
          have q3 := Blk.new wr 28 #[.int .i64 x.d.kind, .string ⟨x.d.name.toArray⟩, .int .u64 (x.d.seq : Int), .int .u32 (x.d.id : Int), .slice x.A x.n x.c]
          go_upto_region 14 with (first
            | (refine wpList_value rfl (exec_load_mid rfl rfl HAT.out Try.underlying28 rfl (by kernel_rfl)) ?_)
            | fail)
          generalize wr.alloc (.cells #[.int .i64 x.d.kind, .string ⟨x.d.name.toArray⟩, .int .u64 (x.d.seq : Int), .int .u32 (x.d.id : Int), .slice x.A x.n x.c] 28) = wa at *
          obtain ⟨g3, hg3⟩ : ∃ g, g = wr.heap.size := ⟨_, rfl⟩
          rw [← hg3] at q3 ⊢
          have Q3 := Lib.hid q3
          have OK3 := Lib.hid (HOK.out.after b3)
          have HBA := Lib.hid (belowGo HBR.out b3)
          have PUT := Lib.hid (kd_put OK3.out)
          clear hg3 q3 b3 HAT HOK HBR
          go_wp2_with (first
            | (refine wpList_value rfl (exec_load_blk rfl rfl Q3.out Try.underlying28 rfl Try.szEdit) ?_)
            | fail)
          refine PUT.out.mono ?_
          rintro e wb ⟨v, he, ho, bb⟩
          simp only [HM.out, Bool.false_eq_true, if_false] at he
          subst he
          rw [bad_put HM.out] at ho
          obtain ⟨A', c', rfl, -⟩ := own_cap ho
          have Q4 := Lib.hid (Q3.out.after bb)
          have OK4 := Lib.hid (OK3.out.after bb)
          have HBB := Lib.hid (belowGo HBA.out bb)
          have MAY := Lib.hid (kd_may OK4.out)
          rw [HM.out] at MAY
          clear PUT ho bb Q3 OK3 HBA
          go_upto_region 15 with fail
          go_wp2_with (first
            | (refine wpList_value rfl (exec_load_blk rfl rfl Q4.out Try.underlying28 rfl Try.szEdit) ?_)
            | fail)
          refine MAY.out.mono ?_
          rintro e wc ⟨rfl, bb⟩
          have HBC := Lib.hid (belowGo HBB.out bb)
          clear bb MAY Q4 OK4 HBB
          go_wp2_with fail
          go_roundw
          case rel => exact ⟨j + 1, by omega, by go_num, HBC.out⟩
          case measure => simp [intOf]; omega
        · obtain rfl : j = 15 := by omega
          clear hb hin hj
          rw [show ((15 : Nat) : Int) = 15 from rfl]
          have HB := Lib.hid (belowGo HB.out HBR.out)
          obtain ⟨w5, hw5⟩ : ∃ W, W = wr := ⟨_, rfl⟩
          subst hw5
          clear HBR RB R0 R1 R2
          go_upto_region 19 with fail
          rw [show (#[.int .u32 0, .int .u32 16, .int .u32 0, .int .u64 0, .int .u64 0, .int .u32 1, .int .u32 15, .int .u32 0, .int .u64 0, .int .u64 0, .int .u32 1, .int .u32 16777217, .int .u32 0, .int .u64 0, .int .u64 0, .int .u32 1, .int .u32 16, .int .u32 0, .int .u64 1, .int .u64 0, .int .u32 1, .int .u32 16, .int .u32 1, .int .u64 0, .int .u64 0, .int .u32 1, .int .u32 16, .int .u32 2, .int .u64 5, .int .u64 5, .int .u32 1, .int .u32 16, .int .u32 1, .int .u64 5, .int .u64 4, .int .u32 1, .int .u32 16, .int .u32 1, .int .u64 5, .int .u64 1099511627777] : Array Value) = sealC from rfl]
          go_loopw [115] (fun i wr => ∃ j : Nat, j ≤ 8 ∧ i = .int .i64 (j : Int) ∧ Below w5.heap.size w5 wr) (fun i _ => 8 - (intOf i).toNat)
          case atStart => exact ⟨0, by omega, rfl, Below.refl _ _⟩
          case round =>
            obtain ⟨j, hj, rfl, hb⟩ := hrel
            have HBR := Lib.hid hb
            clear hb
            by_cases hin : j < 8
            · have i1 : (j : Int) < 8 := by omega
              obtain ⟨x, hx⟩ : ∃ x, sealX[j]? = some x := ⟨_, List.getElem?_eq_getElem hin⟩
              have HIX := Lib.hid (seal_index wr hx)
              have HS := Lib.hid (seal_bad (List.mem_of_getElem? hx))
              clear hx
              have b3 := belowAlloc (Below.refl wr.heap.size wr) (.cells #[.int .u32 (x.id : Int), .int .u32 (x.size : Int), .int .u32 (x.many : Int), .int .u64 (x.first : Int), .int .u64 (x.last : Int)] 40)
              have q3 := Blk.new wr 40 #[.int .u32 (x.id : Int), .int .u32 (x.size : Int), .int .u32 (x.many : Int), .int .u64 (x.first : Int), .int .u64 (x.last : Int)]
              go_upto_region 21 with (first
                | (refine wpList_value rfl (exec_index rfl HIX.out) ?_)
                | fail)
              generalize wr.alloc (.cells #[.int .u32 (x.id : Int), .int .u32 (x.size : Int), .int .u32 (x.many : Int), .int .u64 (x.first : Int), .int .u64 (x.last : Int)] 40) = wa at *
              obtain ⟨g3, hg3⟩ : ∃ g, g = wr.heap.size := ⟨_, rfl⟩
              rw [← hg3] at q3 ⊢
              have Q3 := Lib.hid q3
              have HBA := Lib.hid (belowGo HBR.out b3)
              have MS : Calls Try.prog 16 #[.agg #[.int .u32 (x.id : Int), .int .u32 (x.size : Int), .int .u32 (x.many : Int), .int .u64 (x.first : Int), .int .u64 (x.last : Int)]] wa fun e w' => e = .returned (.bool (maySl x)) ∧ Below wa.heap.size wa w' := maySl_any x HS.out.2 wa
              rw [HS.out.1] at MS
              have MSH := Lib.hid MS
              clear hg3 q3 b3 HIX HS MS HBR
              go_wp2_with (first
                | (refine wpList_value rfl (exec_load_blk rfl rfl Q3.out Try.underlying40 rfl Try.szSeal) ?_)
                | fail)
              refine MSH.out.mono ?_
              rintro e wb ⟨rfl, bb⟩
              have HBB := Lib.hid (belowGo HBA.out bb)
              clear bb MSH Q3 HBA
              go_wp2_with fail
              go_roundw
              case rel => exact ⟨j + 1, by omega, by go_num, HBB.out⟩
              case measure => simp [intOf]; omega
            · obtain rfl : j = 8 := by omega
              clear hin hj
              rw [show ((8 : Nat) : Int) = 8 from rfl]
              have HB := Lib.hid (belowGo HB.out HBR.out)
              clear HBR
              have GE := Lib.hid (getEd_any [] none 0 0 wr (Nat.le_refl _) ⟨rfl, by decide, fun h => absurd h (by omega)⟩)
              go_wp2_with fail
              refine GE.out.mono ?_
              rintro e wa3 hret
              obtain ⟨Aa, ca, rfl, b3⟩ := hret.none_ gk1
              clear hret GE
              have b4 := belowAlloc (Below.refl wa3.heap.size wa3) (.cells #[.int .i64 0, .string ⟨#[]⟩, .int .u64 0, .int .u32 0, .slice none 0 0] 28)
              have q4 := Blk.new wa3 28 #[.int .i64 0, .string ⟨#[]⟩, .int .u64 0, .int .u32 0, .slice none 0 0]
              have b5 := row_below b4 (Nat.le_refl _) #[.int .i64 0, .string ⟨#[]⟩, .int .u64 0, .int .u32 0, .slice Aa 0 ca]
              go_upto_region 25 with (first
                | (refine wpList_storeB rfl 28 (.tmp 14) (.tmp 123) rfl rfl rfl q4 Try.szEdit rfl (by simp [Value.oneCell']) ?_)
                | fail)
              have HB := Lib.hid (belowGo (belowGo HB.out b3) b5)
              clear q4 b3 b4 b5
              generalize (wa3.alloc (.cells #[.int .i64 0, .string ⟨#[]⟩, .int .u64 0, .int .u32 0, .slice none 0 0] 28)).setRow wa3.heap.size #[.int .i64 0, .string ⟨#[]⟩, .int .u64 0, .int .u32 0, .slice Aa 0 ca] = wa4 at *
              have r2 := own_rd (own_lit1 (B := 0) wa4 5 #[.int .u8 0] 1 (Nat.zero_le _) rfl (by decide))
              have b2 := belowAlloc (Below.refl wa4.heap.size wa4) (.cells #[.int .u8 0] 5)
              have HB := Lib.hid (belowGo HB.out b2)
              have GE := Lib.hid (getEd_any [0] (some ⟨wa4.heap.size, 0, none⟩) 1 1 (wa4.alloc (.cells #[.int .u8 0] 5)) (Nat.le_refl _) r2)
              clear r2 b2
              go_wp2_with fail
              generalize wa4.alloc (.cells #[.int .u8 0] 5) = wb2 at *
              refine GE.out.mono ?_
              rintro e wb3 hret
              obtain ⟨Ab, cb, rfl, b3⟩ := hret.none_ gk2
              clear hret GE
              have b4 := belowAlloc (Below.refl wb3.heap.size wb3) (.cells #[.int .i64 0, .string ⟨#[]⟩, .int .u64 0, .int .u32 0, .slice none 0 0] 28)
              have q4 := Blk.new wb3 28 #[.int .i64 0, .string ⟨#[]⟩, .int .u64 0, .int .u32 0, .slice none 0 0]
              have b5 := row_below b4 (Nat.le_refl _) #[.int .i64 0, .string ⟨#[]⟩, .int .u64 0, .int .u32 0, .slice Ab 0 cb]
              go_upto_region 26 with (first
                | (refine wpList_storeB rfl 28 (.tmp 16) (.tmp 128) rfl rfl rfl q4 Try.szEdit rfl (by simp [Value.oneCell']) ?_)
                | fail)
              have HB := Lib.hid (belowGo (belowGo HB.out b3) b5)
              clear q4 b3 b4 b5
              generalize (wb3.alloc (.cells #[.int .i64 0, .string ⟨#[]⟩, .int .u64 0, .int .u32 0, .slice none 0 0] 28)).setRow wb3.heap.size #[.int .i64 0, .string ⟨#[]⟩, .int .u64 0, .int .u32 0, .slice Ab 0 cb] = wb4 at *
              have r2 := own_rd (own_lit1 (B := 0) wb4 5 #[.int .u8 3, .int .u8 0] 2 (Nat.zero_le _) rfl (by decide))
              have b2 := belowAlloc (Below.refl wb4.heap.size wb4) (.cells #[.int .u8 3, .int .u8 0] 5)
              have HB := Lib.hid (belowGo HB.out b2)
              have GE := Lib.hid (getEd_any [3, 0] (some ⟨wb4.heap.size, 0, none⟩) 2 2 (wb4.alloc (.cells #[.int .u8 3, .int .u8 0] 5)) (Nat.le_refl _) r2)
              clear r2 b2
              go_wp2_with fail
              generalize wb4.alloc (.cells #[.int .u8 3, .int .u8 0] 5) = wc2 at *
              refine GE.out.mono ?_
              rintro e wc3 hret
              obtain ⟨Ac, cc, rfl, b3⟩ := hret.none_ gk3
              clear hret GE
              have b4 := belowAlloc (Below.refl wc3.heap.size wc3) (.cells #[.int .i64 0, .string ⟨#[]⟩, .int .u64 0, .int .u32 0, .slice none 0 0] 28)
              have q4 := Blk.new wc3 28 #[.int .i64 0, .string ⟨#[]⟩, .int .u64 0, .int .u32 0, .slice none 0 0]
              have b5 := row_below b4 (Nat.le_refl _) #[.int .i64 0, .string ⟨#[]⟩, .int .u64 0, .int .u32 0, .slice Ac 0 cc]
              go_upto_region 27 with (first
                | (refine wpList_storeB rfl 28 (.tmp 18) (.tmp 133) rfl rfl rfl q4 Try.szEdit rfl (by simp [Value.oneCell']) ?_)
                | fail)
              have HB := Lib.hid (belowGo (belowGo HB.out b3) b5)
              clear q4 b3 b4 b5
              generalize (wc3.alloc (.cells #[.int .i64 0, .string ⟨#[]⟩, .int .u64 0, .int .u32 0, .slice none 0 0] 28)).setRow wc3.heap.size #[.int .i64 0, .string ⟨#[]⟩, .int .u64 0, .int .u32 0, .slice Ac 0 cc] = wc4 at *
              have r2 := own_rd (own_lit1 (B := 0) wc4 5 #[.int .u8 5, .int .u8 7, .int .u8 100, .int .u8 2, .int .u8 3, .int .u8 0] 6 (Nat.zero_le _) rfl (by decide))
              have b2 := belowAlloc (Below.refl wc4.heap.size wc4) (.cells #[.int .u8 5, .int .u8 7, .int .u8 100, .int .u8 2, .int .u8 3, .int .u8 0] 5)
              have HB := Lib.hid (belowGo HB.out b2)
              have GE := Lib.hid (getEd_any [5, 7, 100, 2, 3, 0] (some ⟨wc4.heap.size, 0, none⟩) 6 6 (wc4.alloc (.cells #[.int .u8 5, .int .u8 7, .int .u8 100, .int .u8 2, .int .u8 3, .int .u8 0] 5)) (Nat.le_refl _) r2)
              clear r2 b2
              go_wp2_with fail
              generalize wc4.alloc (.cells #[.int .u8 5, .int .u8 7, .int .u8 100, .int .u8 2, .int .u8 3, .int .u8 0] 5) = wd2 at *
              refine GE.out.mono ?_
              rintro e wd3 hret
              obtain ⟨Ad, cd, rfl, b3⟩ := hret.none_ gk4
              clear hret GE
              have b4 := belowAlloc (Below.refl wd3.heap.size wd3) (.cells #[.int .i64 0, .string ⟨#[]⟩, .int .u64 0, .int .u32 0, .slice none 0 0] 28)
              have q4 := Blk.new wd3 28 #[.int .i64 0, .string ⟨#[]⟩, .int .u64 0, .int .u32 0, .slice none 0 0]
              have b5 := row_below b4 (Nat.le_refl _) #[.int .i64 0, .string ⟨#[]⟩, .int .u64 0, .int .u32 0, .slice Ad 0 cd]
              go_upto_region 28 with (first
                | (refine wpList_storeB rfl 28 (.tmp 20) (.tmp 138) rfl rfl rfl q4 Try.szEdit rfl (by simp [Value.oneCell']) ?_)
                | fail)
              have HB := Lib.hid (belowGo (belowGo HB.out b3) b5)
              clear q4 b3 b4 b5
              generalize (wd3.alloc (.cells #[.int .i64 0, .string ⟨#[]⟩, .int .u64 0, .int .u32 0, .slice none 0 0] 28)).setRow wd3.heap.size #[.int .i64 0, .string ⟨#[]⟩, .int .u64 0, .int .u32 0, .slice Ad 0 cd] = wd4 at *
              have r2 := own_rd (own_lit1 (B := 0) wd4 5 #[.int .u8 6, .int .u8 0, .int .u8 128, .int .u8 201] 4 (Nat.zero_le _) rfl (by decide))
              have b2 := belowAlloc (Below.refl wd4.heap.size wd4) (.cells #[.int .u8 6, .int .u8 0, .int .u8 128, .int .u8 201] 5)
              have HB := Lib.hid (belowGo HB.out b2)
              have GE := Lib.hid (getEd_any [6, 0, 128, 201] (some ⟨wd4.heap.size, 0, none⟩) 4 4 (wd4.alloc (.cells #[.int .u8 6, .int .u8 0, .int .u8 128, .int .u8 201] 5)) (Nat.le_refl _) r2)
              clear r2 b2
              go_wp2_with fail
              generalize wd4.alloc (.cells #[.int .u8 6, .int .u8 0, .int .u8 128, .int .u8 201] 5) = wf2 at *
              refine GE.out.mono ?_
              rintro e wf3 hret
              obtain ⟨Af, cf, rfl, b3⟩ := hret.none_ gk5
              clear hret GE
              have b4 := belowAlloc (Below.refl wf3.heap.size wf3) (.cells #[.int .i64 0, .string ⟨#[]⟩, .int .u64 0, .int .u32 0, .slice none 0 0] 28)
              have q4 := Blk.new wf3 28 #[.int .i64 0, .string ⟨#[]⟩, .int .u64 0, .int .u32 0, .slice none 0 0]
              have b5 := row_below b4 (Nat.le_refl _) #[.int .i64 0, .string ⟨#[]⟩, .int .u64 0, .int .u32 0, .slice Af 0 cf]
              go_upto_region 29 with (first
                | (refine wpList_storeB rfl 28 (.tmp 22) (.tmp 143) rfl rfl rfl q4 Try.szEdit rfl (by simp [Value.oneCell']) ?_)
                | fail)
              have HB := Lib.hid (belowGo (belowGo HB.out b3) b5)
              clear q4 b3 b4 b5
              generalize (wf3.alloc (.cells #[.int .i64 0, .string ⟨#[]⟩, .int .u64 0, .int .u32 0, .slice none 0 0] 28)).setRow wf3.heap.size #[.int .i64 0, .string ⟨#[]⟩, .int .u64 0, .int .u32 0, .slice Af 0 cf] = wf4 at *
              have MS : Calls Try.prog 16 #[.agg #[.int .u32 1, .int .u32 16, .int .u32 2, .int .u64 5, .int .u64 6]] wf4 fun e w' => e = .returned (.bool (maySl ⟨1, 16, 2, 5, 6⟩)) ∧ Below wf4.heap.size wf4 w' := maySl_any ⟨1, 16, 2, 5, 6⟩ sl6f wf4
              rw [sl6] at MS
              have MSH := Lib.hid MS
              clear MS
              go_wp2_with fail
              refine MSH.out.mono ?_
              rintro e wg ⟨rfl, bb⟩
              have HB := Lib.hid (belowGo HB.out bb)
              clear bb MSH
              go_wp2_with fail
              refine (wakes_any wg).mono ?_
              rintro e wh ⟨rfl, bb⟩
              have HB := Lib.hid (belowGo HB.out bb)
              go_wp2_with fail
              exact bodyPost_ret (results_tmp rfl _ _ _) rfl ⟨rfl, HB.out⟩
end Go.Proofs.Ytedjolkkidciiaa
