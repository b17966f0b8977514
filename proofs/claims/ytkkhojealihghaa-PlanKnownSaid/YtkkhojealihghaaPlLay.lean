/- Package plan: what a plan is while it is laid; Of's closure lay. For every item that may be. -/
import Derived.Test.YtkkhojealihghaaPlMay
import Derived.Test.YtkkhojealihghaaLkLoc
namespace Go.Proofs.Ytkkhojealihghaa
open Go.RowKit
open Go.ChangeMaps (setBlock)
attribute [local go_sem] Oper.semAt_some

/-- a seal; a step -/
structure Se where
  id : Nat
  z : Nat
  m : Nat
  f : Nat
  l : Nat
deriving DecidableEq
def Se.cells (s : Se) : List Value := [.int .u32 (s.id : Int), .int .u32 (s.z : Int), .int .u32 (s.m : Int), .int .u64 (s.f : Int), .int .u64 (s.l : Int)]
structure Sp where
  i : Nat
  to_ : Nat × Nat
  pv : Nat × Nat
deriving DecidableEq
def Sp.cells (s : Sp) : List Value := [.int .i64 (s.i : Int), .int .u32 (s.to_.1 : Int), .int .u32 (s.to_.2 : Int), .int .u32 (s.pv.1 : Int), .int .u32 (s.pv.2 : Int)]
def seCells (l : List Se) : List Value := l.flatMap Se.cells
def spCells (l : List Sp) : List Value := l.flatMap Sp.cells
theorem seCells_len (l : List Se) : (seCells l).length = l.length * 5 := flatMap_len Se.cells 5 (fun _ => rfl) l
theorem seCells_snoc (l : List Se) (s : Se) : seCells (l ++ [s]) = seCells l ++ s.cells := by unfold seCells; rw [List.flatMap_append]; simp
theorem spCells_snoc (l : List Sp) (s : Sp) : spCells (l ++ [s]) = spCells l ++ s.cells := by unfold spCells; rw [List.flatMap_append]; simp
structure PSt where
  steps : List Sp
  seals : List Se
  ahead : List (List UInt8 × (Nat × Nat))
/-- a new segment, if it is wanted -/
def PSt.open_ (limit first : Nat) (st : PSt) (x : It) : List Se :=
  match st.seals.getLast? with
  | none => [⟨first, 16, 0, x.q, 0⟩]
  | some s => if (limit : Int) < (s.z : Int) + x.z then st.seals ++ [⟨first + st.seals.length, 16, 0, x.q, 0⟩] else st.seals
def PSt.lay (limit first : Nat) (st : PSt) (x : It) (i : Nat) : PSt :=
  let l := st.open_ limit first x
  let s := (l.getLast?).getD ⟨0, 0, 0, 0, 0⟩
  ⟨st.steps ++ [⟨i, (s.id, s.z), (mget st.ahead x.l).getD (0, 0)⟩], l.dropLast ++ [⟨s.id, s.z + x.z.toNat, s.m + 1, s.f, x.q⟩], mput x.l (s.id, s.z) st.ahead⟩
/-- a row beside a plan, which stays as it is -/
structure Ro where
  v : Value
  n : Nat
  xs : List Value
/-- a plan in memory -/
structure Pm (w : World) (B gp ga bm : Nat) (R0 : Ro) (vs vl : Value) (st : PSt) : Prop where
  lo : B ≤ gp ∧ B ≤ ga ∧ B ≤ bm
  blk : Blk w gp 33 #[vs, vl]
  steps : Ow w B 43 5 vs st.steps.length (spCells st.steps)
  seals : Ow w B 70 5 vl st.seals.length (seCells st.seals)
  box : Blk w ga 84 #[.map (some bm)]
  map : Mt Try.prog 88 w bm KOk kpv locP st.ahead
  rest : Ow w B 4 1 R0.v R0.n R0.xs
theorem Pm.kp {s : List (Option Nat)} {w w' : World} {B gp ga bm : Nat} {R0 : Ro} {vs vl : Value} {st : PSt} (h : Pm w B gp ga bm R0 vs vl st) (k : Kp s w w') (h1 : some gp ∉ s) (h2 : some ga ∉ s) (h3 : some bm ∉ s) (h4 : ∀ j, vs.ownBlock = some j → some j ∉ s) (h5 : ∀ j, vl.ownBlock = some j → some j ∉ s) (h6 : ∀ j, R0.v.ownBlock = some j → some j ∉ s) : Pm w' B gp ga bm R0 vs vl st :=
  ⟨h.lo, h.blk.kp k h1, h.steps.kp k h4, h.seals.kp k h5, h.box.kp k h2, h.map.kp k h3, h.rest.kp k h6⟩
theorem Pm.after {w w' : World} {B gp ga bm : Nat} {R0 : Ro} {vs vl : Value} {st : PSt} (h : Pm w B gp ga bm R0 vs vl st) (hb : Below w.heap.size w w') : Pm w' B gp ga bm R0 vs vl st :=
  h.kp (s := []) (Kp.of_new hb) (by simp) (by simp) (by simp) (fun _ _ => by simp) (fun _ _ => by simp) fun _ _ => by simp
/-- the seals grow -/
theorem Pm.pushSeal {w w' : World} {B gp ga bm : Nat} {R0 : Ro} {vs vl vl' : Value} {st : PSt} (h : Pm w B gp ga bm R0 vs vl st) (s : Se) (hg : w.grownBy w' vl.ownBlock) (ho : Ow w' B 70 5 vl' (st.seals.length + 1) (seCells st.seals ++ s.cells)) :
    Pm (w'.setCell ⟨gp, 1, none⟩ vl') B gp ga bm R0 vs vl' ⟨st.steps, st.seals ++ [s], st.ahead⟩ := by
  have k1 := Kp.grown hg
  have b1 : Blk w' gp 33 #[vs, vl] := h.blk.kp k1 fun hm => own_blk_ne h.blk h.seals (by decide) (List.mem_singleton.1 hm)
  have x1 : Blk w' ga 84 #[.map (some bm)] := h.box.kp k1 fun hm => own_blk_ne h.box h.seals (by decide) (List.mem_singleton.1 hm)
  have m1 := h.map.kp k1 fun hm => mpo_ne h.map.1 h.seals (List.mem_singleton.1 hm)
  have s1 := Ow.grownT h.steps h.seals (by decide) hg
  have r1 := Ow.grownT h.rest h.seals (by decide) hg
  have k2 := Kp.set w' ⟨gp, 1, none⟩ vl'
  refine ⟨h.lo, b1.set_ 1 vl', s1.kp k2 fun j hj hm => own_blk_ne b1 s1 (by decide) ((List.mem_singleton.1 hm).symm.trans hj.symm), ?_, x1.kp k2 fun hm => ?_, m1.kp k2 fun hm => mpb_ne m1.1 b1 (by simpa using hm), r1.kp k2 fun j hj hm => own_blk_ne b1 r1 (by decide) ((List.mem_singleton.1 hm).symm.trans hj.symm)⟩
  · rw [seCells_snoc, List.length_append, List.length_singleton]
    exact ho.kp k2 fun j hj hm => own_blk_ne b1 ho (by decide) ((List.mem_singleton.1 hm).symm.trans hj.symm)
  · have h2 : ga = gp := by simpa using hm
    subst h2
    unfold Blk at x1 b1
    rw [x1] at b1
    injection b1 with b1
    injection b1 with _ b1
    revert b1
    decide
/-- the steps grow -/
theorem Pm.pushStep {w w' : World} {B gp ga bm : Nat} {R0 : Ro} {vs vl vs' : Value} {st : PSt} (h : Pm w B gp ga bm R0 vs vl st) (s : Sp) (hg : w.grownBy w' vs.ownBlock) (ho : Ow w' B 43 5 vs' (st.steps.length + 1) (spCells st.steps ++ s.cells)) :
    Pm (w'.setCell ⟨gp, 0, none⟩ vs') B gp ga bm R0 vs' vl ⟨st.steps ++ [s], st.seals, st.ahead⟩ := by
  have k1 := Kp.grown hg
  have b1 : Blk w' gp 33 #[vs, vl] := h.blk.kp k1 fun hm => own_blk_ne h.blk h.steps (by decide) (List.mem_singleton.1 hm)
  have x1 : Blk w' ga 84 #[.map (some bm)] := h.box.kp k1 fun hm => own_blk_ne h.box h.steps (by decide) (List.mem_singleton.1 hm)
  have m1 := h.map.kp k1 fun hm => mpo_ne h.map.1 h.steps (List.mem_singleton.1 hm)
  have s1 := Ow.grownT h.seals h.steps (by decide) hg
  have r1 := Ow.grownT h.rest h.steps (by decide) hg
  have k2 := Kp.set w' ⟨gp, 0, none⟩ vs'
  refine ⟨h.lo, b1.set_ 0 vs', ?_, s1.kp k2 fun j hj hm => own_blk_ne b1 s1 (by decide) ((List.mem_singleton.1 hm).symm.trans hj.symm), x1.kp k2 fun hm => ?_, m1.kp k2 fun hm => mpb_ne m1.1 b1 (by simpa using hm), r1.kp k2 fun j hj hm => own_blk_ne b1 r1 (by decide) ((List.mem_singleton.1 hm).symm.trans hj.symm)⟩
  · rw [spCells_snoc, List.length_append, List.length_singleton]
    exact ho.kp k2 fun j hj hm => own_blk_ne b1 ho (by decide) ((List.mem_singleton.1 hm).symm.trans hj.symm)
  · have h2 : ga = gp := by simpa using hm
    subst h2
    unfold Blk at x1 b1
    rw [x1] at b1
    injection b1 with b1
    injection b1 with _ b1
    revert b1
    decide
end Go.Proofs.Ytkkhojealihghaa
