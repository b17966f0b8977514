/- A region that draws its order, walked by a plan: what only computes, what only reads (it tells one value in every world that the frame allows), what acts (alone to come up). Plain laws over any program, no condition of their own. -/
import Derived.Test.YtkkhojealihghaaSched
import Derived.Test.YtkkhojealihghaaBlk
import Derived.Laws.Tables
import Derived.ChangeKeysEq
namespace Go.Proofs.Ytkkhojealihghaa
open Go.RowKit

section
variable {P : Program} {α β : Type}
theorem Det.addr_ (v : Value) : Det P (Instr.sureAddr v) := by
  unfold Instr.sureAddr
  split
  · exact .val _
  · exact .stuck_ _
theorem Det.agg_ (t : TypeId) : Det P (isAgg t) := by
  unfold isAgg
  refine (Det.under t).bind fun d => ?_
  split <;> exact .val _
theorem Det.part_ (t : TypeId) (cs : Array Value) (k : Nat) : Det P (part t cs k) := by
  unfold part
  refine (Det.agg_ t).bind fun b => ?_
  refine .ite_ ((Det.size t).bind fun _ => .val _) ?_
  split
  · exact .val _
  · exact .stuck_ _
theorem Det.asAgg_ (v : Value) : Det P (asAgg v) := by
  unfold asAgg
  split
  · exact .val _
  · exact .stuck_ _
theorem Det.field_ (t : TypeId) (x : Value) (f : Nat) : Det P (Instr.field t x f) := by
  unfold Instr.field
  refine (Det.under t).bind fun d => ?_
  split
  · split
    · exact (Det.asAgg_ x).bind fun _ => .part_ _ _ _
    · exact .stuck_ _
  · exact .stuck_ _
theorem Det.index_ (t : TypeId) (x ix : Value) : Det P (Instr.index t x ix) := by
  unfold Instr.index
  refine (Det.asInt_ ix).bind fun p => ?_
  obtain ⟨k, i⟩ := p
  refine (Det.under t).bind fun d => ?_
  split
  · exact .ite_ ((Det.size _).bind fun _ => .part_ _ _ _) (.bounds _ _ _ _)
  · split
    · exact .val _
    · exact .bounds _ _ _ _
  · exact .stuck_ _
theorem Det.indexAt_ (t : TypeId) (x ix : Value) : Det P (Instr.indexAt t x ix) := by
  unfold Instr.indexAt
  refine (Det.asInt_ ix).bind fun p => ?_
  obtain ⟨k, i⟩ := p
  refine (Det.under t).bind fun d => ?_
  split
  · refine (Det.addr_ _).bind fun a => (Det.under t).bind fun d2 => ?_
    exact .ite_ ((Det.size _).bind fun _ => .val _) (.ite_ (.unsup _) (.bounds _ _ _ _))
  · rename_i base _ _
    refine (Det.under t).bind fun d2 => ?_
    cases base
    · exact .bounds _ _ _ _
    · exact .ite_ ((Det.size _).bind fun _ => .val _) (.ite_ (.unsup _) (.bounds _ _ _ _))
  · exact .stuck_ _
theorem Det.sliceAt_array {t e : TypeId} {n : Nat} (h : P.underlying t = some (.array n e)) (x : Value) (lo hi mx : Option Value) : Det P (Instr.sliceAt t x lo hi mx) := by
  unfold Instr.sliceAt
  refine run_of_under h ?_
  simp only
  refine (Det.addr_ x).bind fun a => (Det.sbounds _ _ _ _ _ _).bind fun p => ?_
  obtain ⟨l, q, m⟩ := p
  exact (Det.size _).bind fun _ => .val _
theorem Det.ite_c {c : Bool} {a b : Sem α} (ha : Det P a) (hb : Det P b) : Det P (if c then a else b) := by cases c <;> assumption
def plainField (P : Program) (s : TypeId) (f : Nat) : Bool := match P.underlying s with
  | some (.struct fs) => (match fs[f]? with | some g => (match P.info? g.type with | some i => i.size != 0 | none => false) | none => false)
  | _ => false
theorem Det.fieldAt_ {s : TypeId} {f : Nat} (h : plainField P s f = true) (x : Value) : Det P (Instr.fieldAt s x f) := by
  unfold plainField at h
  split at h
  · rename_i fs hs
    split at h
    · rename_i g hg
      split at h
      · rename_i i hi
        unfold Instr.fieldAt
        refine run_of_under hs ?_
        simp only [hg]
        refine (Det.addr_ x).bind fun a => ?_
        refine Det.bind ?_ fun _ => .val _
        unfold fieldPlace
        have hz : ∀ w, (sizeOf g.type).run P w = .ok i.size w := fun w => by
          have h2 : (typeInfo g.type).run P w = .ok i w := by
            show Sem.run P (match P.info? g.type with | some i => pure i | none => stuck "no such type") w = _
            rw [hi]; rfl
          unfold sizeOf
          rw [Sem.run_bind, h2]; rfl
        refine .inl ⟨a.add g.offset, fun w => ?_⟩
        rw [Sem.run_bind, hz w]
        have : ¬ i.size = 0 := by simpa using h
        show Sem.run P (if i.size = 0 then _ else _) w = _
        rw [if_neg this]
        rfl
      · cases h
    · cases h
  · cases h
theorem Det.rtBounds (i : Int) (n : Nat) (b : Bool) (c : BoundsCode) : Det P (runtimePanic (.bounds i n b c) : Sem α) := by
  unfold runtimePanic
  exact Det.prog.bind fun p => .gp _
theorem Det.arrayAt_ (t : TypeId) (x : Value) : Det P (Instr.arrayAt t x) := by
  unfold Instr.arrayAt
  refine (Det.under t).bind fun d => ?_
  cases d
  case array n e =>
    cases x
    case slice a l c => exact .ite_ (.rtBounds _ _ _ _) (.val _)
    all_goals exact .stuck_ _
  all_goals exact .stuck_ _
end

def calmX (P : Program) (o : Oper) : Bool := calm P o || match o.op with
  | .indexAddr .. | .index .. | .field .. | .sliceToArrayPointer .. => true
  | .fieldAddr s _ f => plainField P s f
  | .slice t .. => match P.underlying t with | some (.array ..) => true | _ => false
  | _ => false

section
variable {P : Program} {ops : Array Oper} {Q : Exit → Act → World → Prop} {I : World → Prop}
theorem calmX_run {o : Oper} (h : calmX P o = true) (ρ : Operand → Value) (hn : ∀ x ∈ need o, ∃ k n, ρ x = .int k n) :
    (∃ v, ∀ w, (execOp ρ o).run P w = .ok (.value v) w) ∨ (∀ w, ∃ h w', (execOp ρ o).run P w = .halt h w') := by
  unfold calmX at h
  rw [Bool.or_eq_true] at h
  rcases h with h | h
  · exact calm_run h ρ hn
  · unfold execOp
    split at h <;> rename_i ho
    · rw [ho]; exact Det.value (.indexAt_ _ _ _)
    · rw [ho]; exact Det.value (.index_ _ _ _)
    · rw [ho]; exact Det.value (.field_ _ _ _)
    · rw [ho]; exact Det.value (.arrayAt_ _ _)
    · rw [ho]; exact Det.value (.fieldAt_ h _)
    · rw [ho]
      split at h
      · rename_i hu; exact Det.value (.sliceAt_array hu _ _ _ _)
      · cases h
    · cases h

/-- must the operation wait for that one? -/
def depB (ops : Array Oper) : Nat → Nat → Nat → Bool
  | 0, _, _ => false
  | n + 1, j, r => match ops[j]? with | none => false | some o => o.after.any fun e => Region.binds .any e && (e.on == r || depB ops n e.on r)
/-- may the operation come up while a read is still to come? -/
def needI (ops : Array Oper) (R : List Nat) (j : Nat) : Bool := !(R.all fun r => depB ops ops.size j r)
/-- is a read still to come? -/
def opened (R : List Nat) (listed : Array Bool) : Prop := ∃ r ∈ R, listed.getD r true = false
/-- what is listed has all that it waits for listed -/
def Down (ops : Array Oper) (listed : Array Bool) : Prop := ∀ k o, ops[k]? = some o → listed.getD k false = true → ∀ e ∈ o.after, Region.binds .any e = true → listed.getD e.on false = true
theorem dep_listed {listed : Array Bool} (hd : Down ops listed) : ∀ (n j r : Nat), (∀ o, ops[j]? = some o → ∀ e ∈ o.after, Region.binds .any e = true → listed.getD e.on false = true) → depB ops n j r = true → listed.getD r false = true
  | 0, _, _, _, h => by cases h
  | n + 1, j, r, hj, h => by
    unfold depB at h
    cases ho : ops[j]? with
    | none => rw [ho] at h; cases h
    | some o =>
      rw [ho] at h
      obtain ⟨e, he, h⟩ := Array.any_eq_true'.1 h
      simp only [Bool.and_eq_true, Bool.or_eq_true, beq_iff_eq] at h
      obtain ⟨hb, h⟩ := h
      have hl := hj o ho e he hb
      rcases h with rfl | h
      · exact hl
      · exact dep_listed hd n e.on r (fun o' ho' => hd e.on o' ho' hl) h
theorem down_ready {listed : Array Bool} {j : Nat} (hd : Down ops listed) (hj : j ∈ Region.ready .any ops listed) : Down ops (listed.setIfInBounds j true) := fun k o ho hk e he hb => by
  by_cases hjk : j = k
  · subst hjk
    obtain ⟨_, oj, hoj, hall⟩ := mem_ready.1 hj
    rw [ho] at hoj
    cases hoj
    exact getD_set_true (hall e he hb)
  · rw [getD_set_ne false hjk] at hk
    exact getD_set_true (hd k o ho hk e he hb)
theorem ready_closed {listed : Array Bool} {j : Nat} {R : List Nat} (hd : Down ops listed) (hj : j ∈ Region.ready .any ops listed) (hn : needI ops R j = false) : ¬ opened R listed := fun ⟨r, hr, hl⟩ => by
  obtain ⟨_, oj, hoj, hall⟩ := mem_ready.1 hj
  simp only [needI, Bool.not_eq_false', List.all_eq_true] at hn
  have h1 := dep_listed hd _ j r (fun o ho => by rw [hoj] at ho; cases ho; exact hall) (hn r hr)
  rcases Nat.lt_or_ge r listed.size with h' | h'
  · simp [h'] at hl h1; rw [hl] at h1; cases h1
  · simp [Array.getElem?_eq_none h'] at h1
theorem opened_less {listed : Array Bool} {j : Nat} {R : List Nat} (h : opened R (listed.setIfInBounds j true)) : opened R listed := by
  obtain ⟨r, hr, hl⟩ := h
  refine ⟨r, hr, ?_⟩
  by_cases hij : j = r
  · subst hij
    rcases Nat.lt_or_ge j listed.size with h' | h'
    · simp [h'] at hl
    · simp at hl
  · rwa [getD_set_ne true hij] at hl
/-- the orders, with what every world keeps as long as a read may be still to come -/
def wpAnyI (P : Program) (ops : Array Oper) (Q : Exit → Act → World → Prop) (I : World → Prop) (R : List Nat) : Nat → Array Bool → Act → World → Prop
  | 0, listed, a, w => Region.ready .any ops listed = [] ∧ Q .normal a w
  | fuel + 1, listed, a, w =>
    (Region.ready .any ops listed = [] → Q .normal a w) ∧
    ∀ i ∈ Region.ready .any ops listed, wpOp P ops Q i (fun a' w' => (needI ops R i = true → I w → I w') ∧ wpAnyI P ops Q I R fuel (listed.setIfInBounds i true) a' w') a w
theorem wpAnyI.to {R : List Nat} : ∀ (fuel : Nat) (listed : Array Bool) (a : Act) (w : World), wpAnyI P ops Q I R fuel listed a w → wpAny P .any ops Q fuel listed a w
  | 0, _, _, _, h => h
  | fuel + 1, _, _, _, h => ⟨h.1, fun i hi => wpOp_mono (fun a w h => wpAnyI.to fuel _ a w h.2) (h.2 i hi)⟩

def YieldsI (P : Program) (ops : Array Oper) (I : World → Prop) (o : Oper) (v : Value) (a : Act) : Prop :=
  (Region.wanted o (yielded ops a.tmps) = true ∧ ∀ w, I w → (execOp a.eval o).run P w = .ok (.value v) w) ∨
  (Region.wanted o (yielded ops a.tmps) = false ∧ v = undef)
theorem YieldsI.wpOp {i : Nat} {o : Oper} {v : Value} {a : Act} (hi : ops[i]? = some o) (hy : YieldsI P ops I o v a)
    {K : Act → World → Prop} {w : World} (hI : I w) (h : K (a.put o.dst v) w) : wpOp P ops Q i K a w := by
  unfold Go.wpOp
  simp only [hi]
  rcases hy with ⟨hw, hv⟩ | ⟨hw, rfl⟩
  · simp only [hw, if_true, Oper.wp, hv w hI, Oper.upon]; exact .inl h
  · simp only [hw, Bool.false_eq_true, if_false]; exact h
theorem YieldsI.of_same {o : Oper} {v : Value} {a a' : Act} (hy : YieldsI P ops I o v a) (he : execOp a'.eval o = execOp a.eval o)
    (hw : Region.wanted o (yielded ops a'.tmps) = Region.wanted o (yielded ops a.tmps)) : YieldsI P ops I o v a' := by
  unfold YieldsI at *
  rw [he, hw]
  exact hy
theorem wpOp_putI {j : Nat} {oi oj : Oper} {v : Value} (hj : ops[j]? = some oj) (hap : oi.apart ops oj = true)
    (hsi : ∀ cs b, oi.op ≠ .select cs b) (hsj : ∀ cs b, oj.op ≠ .select cs b)
    (hQ : ∀ c a w, Q (.panic c) (a.put oi.dst v) w → Q (.panic c) a w) {K : Act → World → Prop} {a : Act} {w : World}
    (hy : YieldsI P ops I oi v a) (h : wpOp P ops Q j K (a.put oi.dst v) w) :
    wpOp P ops Q j (fun a' w' => YieldsI P ops I oi v a' ∧ K (a'.put oi.dst v) w') a w := by
  obtain ⟨h1, h2, h3⟩ := Oper.apart_spec hap
  have keep : ∀ (a : Act), YieldsI P ops I oi v a → ∀ u, YieldsI P ops I oi v (a.put oj.dst u) := fun a hy u =>
    hy.of_same (execOp_put oi hsi a oj.dst u h3) (wanted_put oi a oj.dst u h3)
  have keepD : ∀ d, YieldsI P ops I oi v { a with defers := d :: a.defers } := fun d => hy.of_same rfl rfl
  unfold wpOp at *
  simp only [hj] at *
  rw [wanted_put oj a oi.dst v h1] at h
  split
  · rename_i hw
    simp only [hw, if_true] at h
    rcases h with h | ⟨hasks, hlets⟩
    case inr => exact .inr ⟨by unfold Oper.asks at *; rw [execOp_put oj hsj a oi.dst v h1] at hasks; exact hasks, hlets⟩
    refine .inl ?_
    unfold Oper.wp at *
    rw [execOp_put oj hsj a oi.dst v h1] at h
    generalize (execOp a.eval oj).run P w = r at *
    cases r with
    | ok n w' =>
      cases n <;> simp only [Oper.upon] at h ⊢
      case value u => exact ⟨keep a hy u, by rw [← Act.put_comm a v u h2]; exact h⟩
      case skip => exact ⟨keep a hy _, by rw [← Act.put_comm a v undef h2]; exact h⟩
      case defer d =>
        refine ⟨keep _ (keepD d) _, ?_⟩
        rw [← Act.put_comm _ v undef h2, ← Act.put_defers]
        exact h
      case enter f args =>
        refine Calls.mono h fun e w'' he => ?_
        cases e with
        | returned u => exact ⟨keep a hy u, by rw [← Act.put_comm a v u h2]; exact he⟩
        | panicked c => exact hQ _ _ _ he
        | outgrown => exact he
      case row row args => exact Rows.mono h fun u w'' he => ⟨keep a hy u, by rw [← Act.put_comm a v u h2]; exact he⟩
    | halt x w' =>
      cases x <;> simp only [Oper.upon] at h ⊢
      case panic u => exact hQ _ _ _ h
  · rename_i hw
    simp only [hw] at h
    exact ⟨keep a hy _, by rw [← Act.put_comm a v undef h2]; exact h⟩
theorem wpAnyI_first {R : List Nat} {J : World → Prop} {i : Nat} {oi : Oper} {v : Value} (hi : ops[i]? = some oi) (hsel : ∀ (j : Nat) (o : Oper) cs b, ops[j]? = some o → o.op ≠ .select cs b)
    (hQ : ∀ c a w, Q (.panic c) (a.put oi.dst v) w → Q (.panic c) a w) (hJ : ∀ (listed : Array Bool) w, listed.getD i true = false → (opened R listed → I w) → J w) :
    ∀ (fuel : Nat) (listed : Array Bool) (a : Act) (w : World), Down ops listed → (opened R listed → I w) →
      (∀ j oj, ops[j]? = some oj → j ≠ i → listed.getD j true = false → (∀ e ∈ oj.after, Region.binds .any e = true → e.on ≠ i) → oi.apart ops oj = true) →
      i ∈ Region.ready .any ops listed → YieldsI P ops J oi v a →
      wpAnyI P ops Q I R fuel (listed.setIfInBounds i true) (a.put oi.dst v) w → wpAnyI P ops Q I R (fuel + 1) listed a w := by
  intro fuel
  induction fuel with
  | zero =>
    intro listed a w hD hI _ hr hy H
    refine ⟨fun h => (by rw [h] at hr; cases hr), fun j hj => ?_⟩
    by_cases hji : j = i
    · subst hji; exact hy.wpOp hi (hJ listed w (mem_ready.1 hr).1 hI) ⟨fun _ h => h, H⟩
    · have := ready_mono hj hji
      rw [H.1] at this
      cases this
  | succ fuel ih =>
    intro listed a w hD hI hfree hr hy H
    refine ⟨fun h => (by rw [h] at hr; cases hr), fun j hj => ?_⟩
    by_cases hji : j = i
    · subst hji; exact hy.wpOp hi (hJ listed w (mem_ready.1 hr).1 hI) ⟨fun _ h => h, H⟩
    · have h1 := H.2 j (ready_mono hj hji)
      obtain ⟨hjun, oj, hoj, hall⟩ := mem_ready.1 hj
      have hnot : ∀ e ∈ oj.after, Region.binds .any e = true → e.on ≠ i := fun e he hb heq => by
        have h1 := hall e he hb
        have h0 := (mem_ready.1 hr).1
        rw [heq] at h1
        rcases Nat.lt_or_ge i listed.size with h' | h'
        · simp [h'] at h0 h1; rw [h0] at h1; cases h1
        · simp [Array.getElem?_eq_none h'] at h1
      have h2 := wpOp_putI hoj (hfree j oj hoj hji hjun hnot) (fun cs b => hsel i oi cs b hi) (fun cs b => hsel j oj cs b hoj) hQ hy h1
      have hfree' : ∀ k ok, ops[k]? = some ok → k ≠ i → (listed.setIfInBounds j true).getD k true = false →
          (∀ e ∈ ok.after, Region.binds .any e = true → e.on ≠ i) → oi.apart ops ok = true := fun k ok hk hki hun hno => by
        refine hfree k ok hk hki ?_ hno
        by_cases hjk : j = k
        · subst hjk; exact hjun
        · rw [getD_set_ne true hjk] at hun; exact hun
      refine wpOp_mono (fun a' w' h3 => ?_) h2
      obtain ⟨h3, h4, h5⟩ := h3
      refine ⟨h4, ih (listed.setIfInBounds j true) a' w' (down_ready hD hj) (fun ho => ?_) hfree' (ready_mono hr (Ne.symm hji)) h3 ?_⟩
      · have ho' := opened_less ho
        cases hn : needI ops R j with
        | true => exact h4 hn (hI ho')
        | false => exact absurd ho' (ready_closed hD hj hn)
      · rw [Array.setIfInBounds_comm _ _ hji]
        exact h5

/-- a step of a plan: a row that only computes; one that reads; one that acts -/
inductive Leg where
  | calms (l : List Nat)
  | read (i : Nat)
  | act (i : Nat)

/-- the steps as a tree: where two come up, whichever goes first -/
inductive Tree where
  | done
  | calms (l : List Nat) (t : Tree)
  | read (i : Nat) (t : Tree)
  | act (i : Nat) (t : Tree)
  | fork (i : Nat) (t : Tree) (j : Nat) (u : Tree)
  | fork3 (i : Nat) (t : Tree) (j : Nat) (u : Tree) (k : Nat) (v : Tree)
def row : List Leg → Tree → Tree
  | [], t => t
  | .calms l :: σ, t => .calms l (row σ t)
  | .read i :: σ, t => .read i (row σ t)
  | .act i :: σ, t => .act i (row σ t)
/-- the row of what only computes, its operands looked at -/
def calmRow (ops : Array Oper) : List Nat → List Oper
  | [] => []
  | i :: l => match ops[i]? with | some o => (need o).map (chk o) ++ o :: calmRow ops l | none => []
def calmFits (P : Program) (ops : Array Oper) : Array Bool → List Nat → Bool
  | _, [] => true
  | listed, i :: l => match ops[i]? with
    | some o => (Region.ready .any ops listed).contains i && Region.free .any ops listed i && calmX P o && calmFits P ops (listed.setIfInBounds i true) l
    | none => false
def taken (listed : Array Bool) (l : List Nat) : Array Bool := l.foldl (fun b i => b.setIfInBounds i true) listed
/-- the reads of a plan -/
def readsOf : Tree → List Nat
  | .done => []
  | .read i σ => i :: readsOf σ
  | .calms _ σ => readsOf σ
  | .act _ σ => readsOf σ
  | .fork _ σ _ τ => readsOf σ ++ readsOf τ
  | .fork3 _ σ _ τ _ υ => readsOf σ ++ readsOf τ ++ readsOf υ

/-- what is owed behind an act -/
def owes (ops : Array Oper) (I : World → Prop) (R : List Nat) (i : Nat) (K : Act → World → Prop) : Act → World → Prop := match needI ops R i with | true => fun a w => I w ∧ K a w | false => K
def Plan (P : Program) (ops : Array Oper) (I : World → Prop) (R : List Nat) (K : Act → World → Prop) : Tree → Act → World → Prop
  | .done, a, w => K a w
  | .calms l σ, a, w => wpList P ops (Exit.then (fun a w => Plan P ops I R K σ a w) fun _ _ _ => False) (calmRow ops l) a w
  | .read i σ, a, w => match ops[i]? with | some o => ∃ v, YieldsI P ops I o v a ∧ Plan P ops I R K σ (a.put o.dst v) w | none => False
  | .act i σ, a, w => match ops[i]? with | some o => wpList P ops (Exit.then (owes ops I R i (fun a w => Plan P ops I R K σ a w)) fun _ _ _ => False) [o] a w | none => False
  | .fork i σ j τ, a, w => (match ops[i]? with | some o => wpList P ops (Exit.then (owes ops I R i (fun a w => Plan P ops I R K σ a w)) fun _ _ _ => False) [o] a w | none => False) ∧
    (match ops[j]? with | some o => wpList P ops (Exit.then (owes ops I R j (fun a w => Plan P ops I R K τ a w)) fun _ _ _ => False) [o] a w | none => False)
  | .fork3 i σ j τ k υ, a, w => (match ops[i]? with | some o => wpList P ops (Exit.then (owes ops I R i (fun a w => Plan P ops I R K σ a w)) fun _ _ _ => False) [o] a w | none => False) ∧ (match ops[j]? with | some o => wpList P ops (Exit.then (owes ops I R j (fun a w => Plan P ops I R K τ a w)) fun _ _ _ => False) [o] a w | none => False) ∧ (match ops[k]? with | some o => wpList P ops (Exit.then (owes ops I R k (fun a w => Plan P ops I R K υ a w)) fun _ _ _ => False) [o] a w | none => False)
def planLen : Tree → Nat
  | .done => 0
  | .calms l σ => planLen σ + l.length
  | .read _ σ => planLen σ + 1
  | .act _ σ => planLen σ + 1
  | .fork _ σ _ _ => planLen σ + 1
  | .fork3 _ σ _ _ _ _ => planLen σ + 1
def planFits (P : Program) (ops : Array Oper) (R : List Nat) : Array Bool → Tree → Bool
  | listed, .done => (Region.ready .any ops listed).isEmpty
  | listed, .calms l σ => calmFits P ops listed l && planFits P ops R (taken listed l) σ
  | listed, .read i σ => R.contains i && (Region.ready .any ops listed).contains i && Region.free .any ops listed i && planFits P ops R (listed.setIfInBounds i true) σ
  | listed, .act i σ => Region.ready .any ops listed == [i] && planFits P ops R (listed.setIfInBounds i true) σ
  | listed, .fork i σ j τ => Region.ready .any ops listed == [i, j] && planFits P ops R (listed.setIfInBounds i true) σ && planFits P ops R (listed.setIfInBounds j true) τ && planLen τ == planLen σ
  | listed, .fork3 i σ j τ k υ => Region.ready .any ops listed == [i, j, k] && planFits P ops R (listed.setIfInBounds i true) σ && planFits P ops R (listed.setIfInBounds j true) τ && planFits P ops R (listed.setIfInBounds k true) υ && planLen τ == planLen σ && planLen υ == planLen σ

theorem wpAnyI_calms {R : List Nat} (hsel : Region.noSelect ops = true) {K : Act → World → Prop} {fuel : Nat} : ∀ (l : List Nat) (listed : Array Bool) (a : Act) (w : World), Down ops listed → (opened R listed → I w) → calmFits P ops listed l = true →
    wpList P ops (Exit.then K fun _ _ _ => False) (calmRow ops l) a w → (∀ a, Down ops (taken listed l) → (opened R (taken listed l) → I w) → K a w → wpAnyI P ops (Exit.then (fun a w => Q .normal a w) fun _ _ _ => False) I R fuel (taken listed l) a w) → wpAnyI P ops (Exit.then (fun a w => Q .normal a w) fun _ _ _ => False) I R (fuel + l.length) listed a w
  | [], _, _, _, hD, hI, _, h, hk => hk _ hD hI h
  | i :: l, listed, a, w, hD, hI, hf, h, hk => by
    unfold calmFits at hf
    unfold calmRow at h
    cases ho : ops[i]? with
    | none => rw [ho] at hf; cases hf
    | some o =>
      rw [ho] at hf h
      simp only [Bool.and_eq_true] at hf h
      obtain ⟨⟨⟨hr, hfr⟩, hc⟩, hf2⟩ := hf
      have hr' : i ∈ Region.ready .any ops listed := by simpa using hr
      have hQo : ¬ LetsOut (Exit.then K fun _ _ _ => False) := fun ⟨_, _, h⟩ => h
      have go : ∀ v, Yields P ops o v a → wpList P ops (Exit.then K fun _ _ _ => False) (calmRow ops l) (a.put o.dst v) w → wpAnyI P ops (Exit.then (fun a w => Q .normal a w) fun _ _ _ => False) I R (fuel + (i :: l).length) listed a w := fun v hy h2 =>
        wpAnyI_first (J := fun _ => True) ho (Region.noSelect_spec hsel) (fun c a w h => h.elim) (fun _ _ _ _ => trivial) (fuel + l.length) listed a w hD hI (Region.free_spec ho hfr) hr'
          (hy.imp (fun h => ⟨h.1, fun w _ => h.2 w⟩) id) (wpAnyI_calms hsel l (listed.setIfInBounds i true) (a.put o.dst v) w (down_ready hD hr') (fun h => hI (opened_less h)) hf2 h2 hk)
      by_cases hw : Region.wanted o (yielded ops a.tmps) = true
      · obtain ⟨hn, h⟩ := chk_list hQo hw _ h
        unfold wpList at h
        rw [if_pos hw] at h
        rcases h with h | ⟨_, h⟩
        · unfold Oper.wp at h
          rcases calmX_run hc a.eval hn with ⟨v, hv⟩ | hv
          · rw [hv w] at h
            exact go v (.inl ⟨hw, hv⟩) h
          · obtain ⟨e, w', he⟩ := hv w
            rw [he] at h
            cases e <;> exact h.elim
        · exact absurd h hQo
      · have h := chk_skip hw _ h
        unfold wpList at h
        rw [if_neg hw] at h
        exact go undef (.inr ⟨by simpa using hw, rfl⟩) h

/-- one of those that come up, acting -/
theorem wpAnyI_step {R : List Nat} {K : Act → World → Prop} {i fuel : Nat} {o : Oper} {listed : Array Bool} {a : Act} {w : World} (ho : ops[i]? = some o) (hD : Down ops listed) (hr' : i ∈ Region.ready .any ops listed)
    (h : wpList P ops (Exit.then (owes ops I R i K) fun _ _ _ => False) [o] a w)
    (hk : ∀ a' w', (opened R (listed.setIfInBounds i true) → I w') → K a' w' → wpAnyI P ops (Exit.then (fun a w => Q .normal a w) fun _ _ _ => False) I R fuel (listed.setIfInBounds i true) a' w') :
    wpOp P ops (Exit.then (fun a w => Q .normal a w) fun _ _ _ => False) i (fun a' w' => (needI ops R i = true → I w → I w') ∧ wpAnyI P ops (Exit.then (fun a w => Q .normal a w) fun _ _ _ => False) I R fuel (listed.setIfInBounds i true) a' w') a w := by
  have key : ∀ a' w', owes ops I R i K a' w' → (needI ops R i = true → I w → I w') ∧ wpAnyI P ops (Exit.then (fun a w => Q .normal a w) fun _ _ _ => False) I R fuel (listed.setIfInBounds i true) a' w' := fun a' w' h => by
    unfold owes at h
    cases hn : needI ops R i with
    | true =>
      rw [hn] at h
      exact ⟨fun _ _ => h.1, hk a' w' (fun _ => h.1) h.2⟩
    | false =>
      rw [hn] at h
      exact ⟨fun h => absurd h (by decide), hk a' w' (fun ho => absurd (opened_less ho) (ready_closed hD hr' hn)) h⟩
  unfold wpOp
  rw [ho]
  unfold wpList at h
  simp only
  split
  · rename_i hw
    rw [if_pos hw] at h
    refine .inl ?_
    rcases h with h | ⟨_, _, _, h⟩
    · refine Oper.wp_mono (fun a w h => key a w h) ?_
      unfold Oper.wp at h ⊢
      generalize (execOp a.eval o).run P w = r at *
      cases r with
      | ok n w' =>
        cases n <;> simp only [Oper.upon] at h ⊢ <;> first | exact h | (exact Calls.mono h fun e w'' he => by cases e <;> exact he) | (exact Rows.mono h fun _ _ he => he)
      | halt x w' => cases x <;> simp only [Oper.upon] at h ⊢ <;> exact h
    · exact h.elim
  · rename_i hw
    rw [if_neg hw] at h
    exact key _ _ h

theorem wpAnyI_plan {R : List Nat} (hsel : Region.noSelect ops = true) : ∀ (σ : Tree) (listed : Array Bool) (a : Act) (w : World), Down ops listed → (opened R listed → I w) → planFits P ops R listed σ = true →
    Plan P ops I R (fun a w => Q .normal a w) σ a w → wpAnyI P ops (Exit.then (fun a w => Q .normal a w) fun _ _ _ => False) I R (planLen σ) listed a w
  | .done, listed, a, w, _, _, hf, h => by
    unfold planFits at hf
    exact ⟨List.isEmpty_iff.1 hf, h⟩
  | .calms l σ, listed, a, w, hD, hI, hf, h => by
    unfold planFits at hf
    rw [Bool.and_eq_true] at hf
    exact wpAnyI_calms hsel l listed a w hD hI hf.1 h fun a hD hI h => wpAnyI_plan hsel σ _ a w hD hI hf.2 h
  | .read i σ, listed, a, w, hD, hI, hf, h => by
    unfold planFits at hf
    simp only [Bool.and_eq_true] at hf
    obtain ⟨⟨⟨hR, hr⟩, hfr⟩, hf2⟩ := hf
    have hr' : i ∈ Region.ready .any ops listed := by simpa using hr
    have hR' : i ∈ R := by simpa using hR
    unfold Plan at h
    split at h
    · rename_i o ho
      obtain ⟨v, hy, h⟩ := h
      exact wpAnyI_first ho (Region.noSelect_spec hsel) (fun c a w h => h.elim) (fun listed w hl h => h ⟨i, hR', hl⟩) _ listed a w hD hI (Region.free_spec ho hfr) hr' hy (wpAnyI_plan hsel σ _ _ w (down_ready hD hr') (fun h => hI (opened_less h)) hf2 h)
    · exact h.elim
  | .act i σ, listed, a, w, hD, hI, hf, h => by
    unfold planFits at hf
    simp only [Bool.and_eq_true, beq_iff_eq] at hf
    obtain ⟨hr, hf2⟩ := hf
    unfold Plan at h
    split at h
    · rename_i o ho
      have hr' : i ∈ Region.ready .any ops listed := by rw [hr]; simp
      refine ⟨fun h0 => (by rw [hr] at h0; cases h0), fun j hj => ?_⟩
      rw [hr, List.mem_singleton] at hj
      subst hj
      exact wpAnyI_step ho hD hr' h fun a' w' hI h => wpAnyI_plan hsel σ _ a' w' (down_ready hD hr') hI hf2 h
    · exact h.elim
  | .fork i σ j τ, listed, a, w, hD, hI, hf, h => by
    unfold planFits at hf
    simp only [Bool.and_eq_true, beq_iff_eq] at hf
    obtain ⟨⟨⟨hr, hf2⟩, hf3⟩, hlen⟩ := hf
    unfold Plan at h
    obtain ⟨h1, h2⟩ := h
    refine ⟨fun h0 => (by rw [hr] at h0; cases h0), fun k hk => ?_⟩
    have hk' := hk
    rw [hr] at hk
    simp only [List.mem_cons, List.not_mem_nil, or_false] at hk
    rcases hk with rfl | rfl
    · split at h1
      · rename_i o ho
        exact wpAnyI_step ho hD hk' h1 fun a' w' hI h => wpAnyI_plan hsel σ _ a' w' (down_ready hD hk') hI hf2 h
      · exact h1.elim
    · split at h2
      · rename_i o ho
        rw [← hlen]
        exact wpAnyI_step ho hD hk' h2 fun a' w' hI h => wpAnyI_plan hsel τ _ a' w' (down_ready hD hk') hI hf3 h
      · exact h2.elim
  | .fork3 i σ j τ k υ, listed, a, w, hD, hI, hf, h => by
    unfold planFits at hf
    simp only [Bool.and_eq_true, beq_iff_eq] at hf
    obtain ⟨⟨⟨⟨⟨hr, hf2⟩, hf3⟩, hf4⟩, hlen⟩, hlen2⟩ := hf
    unfold Plan at h
    obtain ⟨h1, h2, h3⟩ := h
    refine ⟨fun h0 => (by rw [hr] at h0; cases h0), fun x hx => ?_⟩
    have hx' := hx
    rw [hr] at hx
    simp only [List.mem_cons, List.not_mem_nil, or_false] at hx
    rcases hx with rfl | rfl | rfl
    · split at h1
      · rename_i o ho
        exact wpAnyI_step ho hD hx' h1 fun a' w' hI h => wpAnyI_plan hsel σ _ a' w' (down_ready hD hx') hI hf2 h
      · exact h1.elim
    · split at h2
      · rename_i o ho
        rw [← hlen]
        exact wpAnyI_step ho hD hx' h2 fun a' w' hI h => wpAnyI_plan hsel τ _ a' w' (down_ready hD hx') hI hf3 h
      · exact h2.elim
    · split at h3
      · rename_i o ho
        rw [← hlen2]
        exact wpAnyI_step ho hD hx' h3 fun a' w' hI h => wpAnyI_plan hsel υ _ a' w' (down_ready hD hx') hI hf4 h
      · exact h3.elim

/-- THE LAW: a region that draws its order, walked by a plan, which may be a tree -/
theorem wp_region_tree {id : Nat} {a : Act} {w : World} (I : World → Prop) (σ : Tree) (hm : P.follows .mixedOrders = true) (hs : planLen σ = ops.size) (hsel : Region.noSelect ops = true)
    (hf : planFits P ops (readsOf σ) (Array.replicate ops.size false) σ = true) (hI : I w.drew) (h : Plan P ops I (readsOf σ) (fun a w => Q .normal a w) σ a w.drew) : (Code.region id ops true).wp P Q a w :=
  Code.wp_mono (Q := Exit.then (fun a w => Q .normal a w) fun _ _ _ => False) (fun e a w he => by
    cases e <;> first | exact he | exact he.elim) (wp_region_any hm (by
    rw [← hs]
    exact wpAnyI.to _ _ _ _ (wpAnyI_plan hsel σ _ a _ (fun k o _ hk => by
      rcases Nat.lt_or_ge k ops.size with h' | h'
      · simp [hs, h'] at hk
      · simp [hs, h'] at hk) (fun _ => hI) (by rw [hs]; exact hf) h)))
theorem wp_region_plan {id : Nat} {a : Act} {w : World} (I : World → Prop) (σ : List Leg) (hm : P.follows .mixedOrders = true) (hs : planLen (row σ .done) = ops.size) (hsel : Region.noSelect ops = true)
    (hf : planFits P ops (readsOf (row σ .done)) (Array.replicate ops.size false) (row σ .done) = true) (hI : I w.drew) (h : Plan P ops I (readsOf (row σ .done)) (fun a w => Q .normal a w) (row σ .done) a w.drew) : (Code.region id ops true).wp P Q a w :=
  wp_region_tree I (row σ .done) hm hs hsel hf hI h

/-! ### a plan's steps, one by one -/
variable {K : Act → World → Prop} {R : List Nat} {σ τ : Tree} {a : Act} {w : World}
theorem plan_end (h : K a w) : Plan P ops I R K .done a w := h
theorem plan_calms {l : List Nat} {r : List Oper} (hl : calmRow ops l = r) (h : wpList P ops (Exit.then (fun a w => Plan P ops I R K σ a w) fun _ _ _ => False) r a w) : Plan P ops I R K (.calms l σ) a w := by subst hl; exact h
theorem wpOne_mono {K K' : Act → World → Prop} {o : Oper} (hk : ∀ a w, K a w → K' a w) (h : wpList P ops (Exit.then K fun _ _ _ => False) [o] a w) : wpList P ops (Exit.then K' fun _ _ _ => False) [o] a w := by
  unfold wpList at h ⊢
  split at h
  · rename_i hw
    rw [if_pos hw]
    rcases h with h | ⟨_, _, _, h⟩
    · refine .inl (Oper.wp_mono (fun a w h => hk a w h) (show Oper.wp P o a w K (Exit.then K' fun _ _ _ => False) from ?_))
      unfold Oper.wp at h ⊢
      generalize (execOp a.eval o).run P w = r at *
      cases r with
      | ok n w' =>
        cases n <;> simp only [Oper.upon] at h ⊢ <;> first | exact h | (exact Calls.mono h fun e w'' he => by cases e <;> exact he) | (exact Rows.mono h fun _ _ he => he)
      | halt x w' => cases x <;> simp only [Oper.upon] at h ⊢ <;> exact h
    · exact h.elim
  · rename_i hw
    rw [if_neg hw]
    exact hk _ _ h
theorem plan_act {i : Nat} {o : Oper} (ho : ops[i]? = some o) (h : wpList P ops (Exit.then (fun a w => I w ∧ Plan P ops I R K σ a w) fun _ _ _ => False) [o] a w) : Plan P ops I R K (.act i σ) a w := by
  unfold Plan owes; rw [ho]
  cases hn : needI ops R i
  · exact wpOne_mono (fun _ _ h => h.2) h
  · exact h
/-- an act behind all reads -/
theorem plan_last {i : Nat} {o : Oper} (ho : ops[i]? = some o) (hn : needI ops R i = false) (h : wpList P ops (Exit.then (fun a w => Plan P ops I R K σ a w) fun _ _ _ => False) [o] a w) : Plan P ops I R K (.act i σ) a w := by
  unfold Plan owes; rw [ho, hn]; exact h
/-- two come up: whichever goes first -/
theorem plan_fork {i j : Nat} {o o' : Oper} (ho : ops[i]? = some o) (ho' : ops[j]? = some o') (h : wpList P ops (Exit.then (fun a w => I w ∧ Plan P ops I R K σ a w) fun _ _ _ => False) [o] a w)
    (h' : wpList P ops (Exit.then (fun a w => I w ∧ Plan P ops I R K τ a w) fun _ _ _ => False) [o'] a w) : Plan P ops I R K (.fork i σ j τ) a w := by
  unfold Plan owes; rw [ho, ho']
  constructor
  · cases hn : needI ops R i
    · exact wpOne_mono (fun _ _ h => h.2) h
    · exact h
  · cases hn : needI ops R j
    · exact wpOne_mono (fun _ _ h => h.2) h'
    · exact h'
/-- the same, where no read is still to come -/
theorem plan_fork' {i j : Nat} {o o' : Oper} (ho : ops[i]? = some o) (ho' : ops[j]? = some o') (hn : needI ops R i = false) (hn' : needI ops R j = false) (h : wpList P ops (Exit.then (fun a w => Plan P ops I R K σ a w) fun _ _ _ => False) [o] a w)
    (h' : wpList P ops (Exit.then (fun a w => Plan P ops I R K τ a w) fun _ _ _ => False) [o'] a w) : Plan P ops I R K (.fork i σ j τ) a w := by
  unfold Plan owes; rw [ho, ho', hn, hn']
  exact ⟨h, h'⟩
/-- three come up, no read is still to come -/
theorem plan_fork3' {υ : Tree} {i j k : Nat} {o o' o'' : Oper} (ho : ops[i]? = some o) (ho' : ops[j]? = some o') (ho'' : ops[k]? = some o'') (hn : needI ops R i = false) (hn' : needI ops R j = false) (hn'' : needI ops R k = false)
    (h : wpList P ops (Exit.then (fun a w => Plan P ops I R K σ a w) fun _ _ _ => False) [o] a w) (h' : wpList P ops (Exit.then (fun a w => Plan P ops I R K τ a w) fun _ _ _ => False) [o'] a w)
    (h'' : wpList P ops (Exit.then (fun a w => Plan P ops I R K υ a w) fun _ _ _ => False) [o''] a w) : Plan P ops I R K (.fork3 i σ j τ k υ) a w := by
  unfold Plan owes; rw [ho, ho', ho'', hn, hn', hn'']
  exact ⟨h, h', h''⟩
theorem plan_fork3 {υ : Tree} {i j k : Nat} {o o' o'' : Oper} (ho : ops[i]? = some o) (ho' : ops[j]? = some o') (ho'' : ops[k]? = some o'')
    (h : wpList P ops (Exit.then (fun a w => I w ∧ Plan P ops I R K σ a w) fun _ _ _ => False) [o] a w) (h' : wpList P ops (Exit.then (fun a w => I w ∧ Plan P ops I R K τ a w) fun _ _ _ => False) [o'] a w)
    (h'' : wpList P ops (Exit.then (fun a w => I w ∧ Plan P ops I R K υ a w) fun _ _ _ => False) [o''] a w) : Plan P ops I R K (.fork3 i σ j τ k υ) a w := by
  unfold Plan owes; rw [ho, ho', ho'']
  refine ⟨?_, ?_, ?_⟩
  · cases hn : needI ops R i
    · exact wpOne_mono (fun _ _ h => h.2) h
    · exact h
  · cases hn : needI ops R j
    · exact wpOne_mono (fun _ _ h => h.2) h'
    · exact h'
  · cases hn : needI ops R k
    · exact wpOne_mono (fun _ _ h => h.2) h''
    · exact h''
/-- behind an act that owes nothing -/
theorem plan_done (h : Plan P ops I R K σ a w) : wpList P ops (Exit.then (fun a w => Plan P ops I R K σ a w) fun _ _ _ => False) [] a w := h
/-- behind an act -/
theorem plan_next (hI : I w) (h : Plan P ops I R K σ a w) : wpList P ops (Exit.then (fun a w => I w ∧ Plan P ops I R K σ a w) fun _ _ _ => False) [] a w := ⟨hI, h⟩
theorem plan_read {i : Nat} {o : Oper} (ho : ops[i]? = some o) (v : Value) (hw : Region.wanted o (yielded ops a.tmps) = true) (hy : ∀ w, I w → (execOp a.eval o).run P w = .ok (.value v) w) (h : Plan P ops I R K σ (a.put o.dst v) w) : Plan P ops I R K (.read i σ) a w := by
  unfold Plan; rw [ho]; exact ⟨v, .inl ⟨hw, hy⟩, h⟩
theorem plan_skip {i : Nat} {o : Oper} (ho : ops[i]? = some o) (hw : Region.wanted o (yielded ops a.tmps) = false) (h : Plan P ops I R K σ (a.put o.dst undef) w) : Plan P ops I R K (.read i σ) a w := by
  unfold Plan; rw [ho]; exact ⟨undef, .inr ⟨hw, rfl⟩, h⟩
def plainT (P : Program) (t : TypeId) : Bool := match P.underlying t with | some (.struct _) => false | some (.array ..) => false | some _ => true | none => false
theorem exec_load {ρ : Operand → Value} {o : Oper} {t : TypeId} {x : Operand} {p : Addr} {v : Value} (ho : o.op = .load t x) (hx : ρ x = .pointer (some p)) (ht : plainT P t = true) (hc : w.cell? p = some v) : (execOp ρ o).run P w = .ok (.value v) w := by
  unfold plainT at ht
  split at ht <;> first | cases ht | skip
  rename_i d hd1 hd2 hu
  have hu : P.underlying t = some d := hu
  have e : (isAgg t).run P w = .ok false w := by
    unfold isAgg
    rw [Sem.run_bind, run_underlying hu]
    show Sem.run P (match d with | .struct _ => pure true | .array _ _ => pure true | _ => pure false) w = _
    cases d <;> first | rfl | exact absurd rfl (hd1 _) | exact absurd rfl (hd2 _ _)
  unfold execOp
  rw [ho]
  simp only [hx, Instr.loadAt, Instr.sureAddr, Sem.run_bind, Sem.run_pure, Result.andThen_ok, loadVar, e, Bool.false_eq_true, if_false, run_load, hc]
theorem exec_load_blk {ρ : Operand → Value} {o : Oper} {t e : TypeId} {x : Operand} {g : Nat} {cs : Array Value} {d : TypeDesc} (ho : o.op = .load t x) (hx : ρ x = .pointer (some ⟨g, 0, none⟩)) (hb : Blk w g e cs) (hu : P.underlying t = some d)
    (hd : (match d with | .struct _ | .array _ _ => true | _ => false) = true) (hi : (P.info? t).map (·.size) = some cs.size) : (execOp ρ o).run P w = .ok (.value (.agg cs)) w := by
  unfold execOp
  rw [ho]
  simp only [hx, Instr.loadAt, Instr.sureAddr, Sem.run_bind, Sem.run_pure, Result.andThen_ok, run_loadVar_row w g e t cs (0, 0) d hb hu hd hi]
theorem exec_build {ρ : Operand → Value} {o : Oper} {t : TypeId} {parts : Array (Nat × Operand)} {cells : Array Value} (ho : o.op = .build t parts) (h : P.built t (parts.map fun (i, x) => (i, ρ x)).toList = some cells) : (execOp ρ o).run P w = .ok (.value (.agg cells)) w := by
  unfold execOp
  rw [ho]
  show Sem.run P (do let v ← Instr.build t (parts.map fun (i, x) => (i, ρ x)); pure (Next.value v) : Sem Next) w = _
  rw [Sem.run_bind, run_build w t _ cells h]
  rfl
/-- an array that lies where a slice reads -/
theorem exec_load_rd {ρ : Operand → Value} {o : Oper} {t e : TypeId} {x : Operand} {p : Addr} {B n m : Nat} {xs : List Value} (ho : o.op = .load t x) (hx : ρ x = .pointer (some p)) (hr : Rd w B 1 (some p) n xs) (hm : m ≤ n) (hu : P.underlying t = some (.array m e))
    (hi : (P.info? t).map (·.size) = some m) : (execOp ρ o).run P w = .ok (.value (.agg (xs.take m).toArray)) w := by
  have hxl := hr.1
  rw [Nat.mul_one] at hxl
  have hl : (loadCells p m).run P w = .ok (xs.take m).toArray w := by
    have h := run_loadCells_list (P := P) w p (xs.take m) (fun j v hj => by
      rw [List.getElem?_take] at hj
      split at hj
      · obtain ⟨b, off, e, _, hc⟩ := hr.2.2 (by omega)
        injection e with e
        subst e
        rw [add_none]
        exact hc j v hj
      · cases hj)
    rwa [List.length_take, Nat.min_eq_left (by omega)] at h
  obtain ⟨i, hi1, hi2⟩ : ∃ i, P.info? t = some i ∧ i.size = m := by
    cases hc : P.info? t with
    | none => rw [hc] at hi; cases hi
    | some i => rw [hc] at hi; exact ⟨i, rfl, by simpa using hi⟩
  have hs : (sizeOf t).run P w = .ok m w := by
    have := run_sizeOf w hi1
    rw [this]
    congr 1
    simp [Program.cellsOf, hi1, hi2]
  have ha : (isAgg t).run P w = .ok true w := by
    unfold isAgg
    rw [Sem.run_bind, run_underlying hu]
    rfl
  unfold execOp
  rw [ho]
  simp only [hx, Instr.loadAt, Instr.sureAddr, Sem.run_bind, Sem.run_pure, Result.andThen_ok, loadVar, ha, if_true, hs, hl]
/-- a value that some plain operation comes to -/
theorem exec_bin {ρ : Operand → Value} {o : Oper} {op : BinOp} {t y : TypeId} {p q : Operand} {v : Value} (ho : o.op = .binOp op t p q y) (h : (do eqGuard op t p q (ρ p) (ρ q); binOp op t (ρ p) (ρ q) : Sem Value).run P w = .ok v w) : (execOp ρ o).run P w = .ok (.value v) w := by
  unfold execOp
  rw [ho]
  show Sem.run P (do let v ← (do eqGuard op t p q (ρ p) (ρ q); binOp op t (ρ p) (ρ q) : Sem Value); pure (Next.value v) : Sem Next) w = _
  rw [Sem.run_bind, h]
  rfl
end
end Go.Proofs.Ytkkhojealihghaa
