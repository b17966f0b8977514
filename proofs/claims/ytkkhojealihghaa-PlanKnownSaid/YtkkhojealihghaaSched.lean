/- A region that draws its order of evaluation, walked in ONE order: what only computes may be taken first; what acts must be alone to come up. Plain laws over any program, no condition of their own. -/
import Derived.Test.YtkkhojealihghaaBase
import Derived.Orders
import Derived.Laws.Panics
import Derived.Lib.MinMax
namespace Go.Proofs.Ytkkhojealihghaa
open Go.RowKit

/-- whatever the world is, it comes to one value and leaves the world as it was; or it stops -/
def Det (P : Program) {α : Type} (m : Sem α) : Prop := (∃ x, ∀ w, m.run P w = .ok x w) ∨ (∀ w, ∃ h w', m.run P w = .halt h w')

section
variable {P : Program} {α β : Type}
theorem Det.val (x : α) : Det P (pure x : Sem α) := .inl ⟨x, fun _ => rfl⟩
theorem Det.stuck_ (s : String) : Det P (stuck s : Sem α) := .inr fun w => ⟨_, _, run_stuck (P := P) (w := w) s⟩
theorem Det.unsup (u : Unsupported) : Det P (unsupported u : Sem α) := .inr fun w => ⟨_, _, run_unsupported (P := P) (w := w) u⟩
theorem Det.bind {m : Sem α} {f : α → Sem β} (h : Det P m) (hf : ∀ x, Det P (f x)) : Det P (m >>= f) := by
  rcases h with ⟨x, hx⟩ | h
  · rcases hf x with ⟨y, hy⟩ | hy
    · exact .inl ⟨y, fun w => by rw [Sem.run_bind, hx w]; exact hy w⟩
    · refine .inr fun w => ?_
      obtain ⟨e, w', he⟩ := hy w
      exact ⟨e, w', by rw [Sem.run_bind, hx w]; exact he⟩
  · refine .inr fun w => ?_
    obtain ⟨e, w', he⟩ := h w
    exact ⟨e, w', by rw [Sem.run_bind, he]; rfl⟩
theorem Det.prog : Det P program := .inl ⟨P, fun _ => rfl⟩
theorem Det.gp (v : Value) : Det P (goPanic v : Sem α) := .inr fun w => ⟨_, _, run_goPanic (P := P) (w := w) v⟩
theorem Det.rtPanic (m : String) : Det P (runtimePanic (.error m) : Sem α) := by
  unfold runtimePanic
  exact Det.prog.bind fun p => .gp _
theorem Det.bounds (k : IntKind) (x y : Int) (c : BoundsCode) : Det P (boundsPanic k x y c : Sem α) := .inr fun w => by
  obtain ⟨s, w', h⟩ := run_boundsPanic (α := α) (P := P) (w := w) k x y c
  exact ⟨_, _, h⟩
theorem Det.ite_ {c : Prop} [Decidable c] {a b : Sem α} (ha : Det P a) (hb : Det P b) : Det P (if c then a else b) := by split <;> assumption
theorem Det.info (t : TypeId) : Det P (typeInfo t) := by
  unfold typeInfo
  refine Det.prog.bind fun p => ?_
  split
  · exact .val _
  · exact .stuck_ _
theorem Det.size (t : TypeId) : Det P (sizeOf t) := by
  unfold sizeOf
  exact (Det.info t).bind fun _ => .val _
theorem Det.under (t : TypeId) : Det P (underlying t) := by
  unfold underlying
  refine Det.prog.bind fun p => ?_
  split
  · exact .val _
  · exact .stuck_ _
theorem Det.asInt_ (v : Value) : Det P (asIntOf v) := by
  unfold asIntOf
  split
  · exact .val _
  · exact .unsup _
  · exact .stuck_ _
theorem Det.asBool_ (v : Value) : Det P (asBool v) := by
  unfold asBool
  split
  · exact .val _
  · exact .stuck_ _
theorem Det.bound (x : Value) (y : Nat) (c : BoundsCode) : Det P (Instr.sliceBound x y c) := by
  unfold Instr.sliceBound
  refine (Det.asInt_ x).bind fun p => ?_
  split
  exact .ite_ (.val _) (.bounds _ _ _ _)
theorem Det.sbounds (b : Bool) (n c : Nat) (lo hi mx : Option Value) : Det P (Instr.sliceBounds b n c lo hi mx) := by
  unfold Instr.sliceBounds
  cases lo <;> cases hi <;> cases mx
  all_goals
    refine Det.bind ?_ fun m => Det.bind ?_ fun h => Det.bind ?_ fun l => .val _
    all_goals first
      | exact .bound _ _ _
      | exact .val _
      | exact .stuck_ _
theorem run_of_under {t : TypeId} {d : TypeDesc} (h : P.underlying t = some d) {f : TypeDesc → Sem α} (hf : Det P (f d)) : Det P (underlying t >>= f) := by
  rcases hf with ⟨x, hx⟩ | hx
  · exact .inl ⟨x, fun w => by rw [Sem.run_bind, run_underlying h]; exact hx w⟩
  · refine .inr fun w => ?_
    obtain ⟨e, w', he⟩ := hx w
    exact ⟨e, w', by rw [Sem.run_bind, run_underlying h]; exact he⟩
theorem Det.slice_slice {t e : TypeId} (h : P.underlying t = some (.slice e)) (x : Value) (lo hi mx : Option Value) : Det P (Instr.sliceAt t x lo hi mx) := by
  unfold Instr.sliceAt
  refine run_of_under h ?_
  show Det P (Instr.slice t x lo hi mx)
  unfold Instr.slice
  refine run_of_under h ?_
  cases x
  case slice a n c =>
    refine Det.bind (.sbounds _ _ _ _ _ _) fun p => ?_
    obtain ⟨l, q, m⟩ := p
    exact Det.bind (.size _) fun _ => .val _
  all_goals exact .stuck_ _
theorem Det.slice_string {t : TypeId} (h : P.underlying t = some .string) (x : Value) (lo hi mx : Option Value) : Det P (Instr.sliceAt t x lo hi mx) := by
  unfold Instr.sliceAt
  refine run_of_under h ?_
  show Det P (Instr.slice t x lo hi mx)
  unfold Instr.slice
  refine run_of_under h ?_
  cases x
  case string s =>
    cases mx
    · refine Det.bind (.sbounds _ _ _ _ _ _) fun p => ?_
      obtain ⟨l, q, m⟩ := p
      exact .val _
    · exact Det.bind (.stuck_ _) fun _ => Det.bind (.sbounds _ _ _ _ _ _) fun p => (by obtain ⟨l, q, m⟩ := p; exact .val _)
  all_goals exact .stuck_ _
theorem Det.unary_ (op : UnOp) (x : Value) : Det P (Op.unary op x) := by
  unfold Op.unary
  split
  · exact .val _
  · exact .val _
  · exact .val _
  · exact .val _
  · exact .val _
  · exact .unsup _
  · exact .unsup _
  · exact .stuck_ _
theorem Det.int_int (op : BinOp) (k k' : IntKind) (a b : Int) (t : TypeId) : Det P (binOp op t (.int k a) (.int k' b)) := by
  unfold binOp
  cases op <;> simp only
  all_goals first
    | (unfold Op.shift
       refine .ite_ (.rtPanic _) ?_
       exact .val _)
    | (refine .ite_ (.stuck_ _) ?_
       first
         | exact .val _
         | (unfold Op.intDiv; refine .ite_ (.rtPanic _) ?_; exact .val _))
theorem Det.len_slice {t : TypeId} (h : (P.underlying t).map (fun d => match d with | .slice _ => true | .string => true | _ => false) = some true) (ty : TypeId) (ts : Array TypeId) (ht : ts[0]? = some t) (args : Array Value) : Det P (Builtin.len_ ts ty args) := by
  unfold Builtin.len_
  rw [ht]
  cases args[0]? with
  | none => exact .stuck_ _
  | some x =>
    cases hu : P.underlying t with
    | none => rw [hu] at h; cases h
    | some d =>
      rw [hu] at h
      refine run_of_under hu ?_
      cases d <;> simp at h
      · cases x <;> first | exact .val _ | exact .stuck_ _
      · cases x <;> first | exact .val _ | exact .stuck_ _
/-- as a step hands it on -/
theorem Det.value {m : Sem Value} (h : Det P m) : (∃ v, ∀ w, ((do pure (.value (← m)) : Sem Next)).run P w = .ok (.value v) w) ∨ (∀ w, ∃ h w', ((do pure (.value (← m)) : Sem Next)).run P w = .halt h w') := by
  rcases h with ⟨x, hx⟩ | h
  · exact .inl ⟨x, fun w => by rw [Sem.run_bind, hx w]; rfl⟩
  · refine .inr fun w => ?_
    obtain ⟨e, w', he⟩ := h w
    exact ⟨e, w', by rw [Sem.run_bind, he]; rfl⟩
end

/-- the operands that must be numbers -/
def need (o : Oper) : List Operand := match o.op with | .binOp _ _ x y _ => [x, y] | .convert _ _ x => [x] | .call { callee := .builtin .min, args := args, .. } => args.toList | _ => []
/-- an operation that goes through at a number alone -/
def chk (o : Oper) (x : Operand) : Oper := { dst := none, op := .unOp .xor 0 x, type := 0, pos := "", after := #[], guard := o.guard }
def descOk (d : Option TypeDesc) : Bool := match d with | some (.slice _) => true | some .string => true | _ => false
def descInt (d : Option TypeDesc) : Bool := match d with | some (.int _) => true | _ => false
def calm (P : Program) (o : Oper) : Bool := match o.op with
  | .move _ | .assign _ | .pick .. | .extract .. | .unOp .. | .binOp .. => true
  | .convert _ dst _ => descInt (P.underlying dst)
  | .slice t .. => descOk (P.underlying t)
  | .call c => match c.callee with
    | .builtin .len => match c.argTypes[0]? with | some t => descOk (P.underlying t) | none => false
    | .builtin .min => c.args.size == 2
    | _ => false
  | _ => false

section
variable {P : Program} {ops : Array Oper} {Q : Exit → Act → World → Prop}

theorem calm_run {o : Oper} (h : calm P o = true) (ρ : Operand → Value) (hn : ∀ x ∈ need o, ∃ k n, ρ x = .int k n) :
    (∃ v, ∀ w, (execOp ρ o).run P w = .ok (.value v) w) ∨ (∀ w, ∃ h w', (execOp ρ o).run P w = .halt h w') := by
  unfold calm at h
  unfold need at hn
  unfold execOp
  split at h <;> rename_i ho
  · rw [ho]; exact .inl ⟨_, fun _ => rfl⟩
  · rw [ho]; exact .inl ⟨_, fun _ => rfl⟩
  · rw [ho]
    simp only
    rename_i c a b
    rcases Det.asBool_ (P := P) (ρ c) with ⟨x, hx⟩ | h
    · exact .inl ⟨_, fun w => by rw [Sem.run_bind, hx w]; rfl⟩
    · refine .inr fun w => ?_
      obtain ⟨e, w', he⟩ := h w
      exact ⟨e, w', by rw [Sem.run_bind, he]; rfl⟩
  · rw [ho]
    refine Det.value ?_
    unfold Instr.extract
    split
    · split
      · exact .val _
      · exact .stuck_ _
    · exact .stuck_ _
  · rw [ho]
    exact Det.value (.unary_ _ _)
  · rw [ho] at hn ⊢
    rename_i op t x y yt
    obtain ⟨k, a, hx⟩ := hn x (by simp)
    obtain ⟨k', b, hy⟩ := hn y (by simp)
    simp only [hx, hy]
    refine Det.value (Det.bind ?_ fun _ => .int_int _ _ _ _ _ _)
    unfold eqGuard
    exact .ite_ (.val _) (.val _)
  · rw [ho] at hn ⊢
    rename_i src dst x
    obtain ⟨k, a, hx⟩ := hn x (by simp)
    simp only [hx]
    refine Det.value ?_
    unfold descInt at h
    split at h
    · rename_i kd hd
      unfold convert
      refine Det.bind (.under _) fun d => run_of_under hd ?_
      cases d <;> exact .val _
    · cases h
  · rw [ho]
    refine Det.value ?_
    unfold descOk at h
    split at h
    · rename_i hd; exact .slice_slice hd _ _ _ _
    · rename_i hd; exact .slice_string hd _ _ _ _
    · cases h
  · rename_i c
    split at h
    · rename_i hc
      split at h
      · rename_i t ht
        rw [ho]
        have e : (do let d ← resolve ρ c o.type; invoke d.target d.args : Sem Next) = (do pure (.value (← Builtin.len_ c.argTypes o.type (c.args.map ρ))) : Sem Next) := by
          unfold resolve
          rw [hc]
          rfl
        show (∃ v, ∀ w, Sem.run P (do let d ← resolve ρ c o.type; invoke d.target d.args : Sem Next) w = _) ∨ (∀ w, ∃ h w', Sem.run P (do let d ← resolve ρ c o.type; invoke d.target d.args : Sem Next) w = _)
        rw [e]
        refine Det.value (.len_slice (t := t) ?_ _ _ ht _)
        unfold descOk at h
        split at h
        · rename_i hd; rw [hd]; rfl
        · rename_i hd; rw [hd]; rfl
        · cases h
      · cases h
    · rename_i hc
      obtain ⟨callee, args, tys⟩ := c
      simp only at hc h
      subst hc
      obtain ⟨x, y, rfl⟩ : ∃ x y, args = #[x, y] := by
        have h2 : args.size = 2 := by simpa using h
        exact ⟨args[0], args[1], by
          apply Array.ext
          · simpa using h2
          · intro i h3 h4
            have : i = 0 ∨ i = 1 := by have : i < 2 := by simpa using h4
                                       omega
            rcases this with rfl | rfl <;> rfl⟩
      rw [ho] at hn ⊢
      obtain ⟨k, a, hx⟩ := hn x (by simp)
      obtain ⟨k', b, hy⟩ := hn y (by simp)
      refine .inl ⟨.int k (min a b), fun w => ?_⟩
      show Sem.run P (do let d ← resolve ρ { callee := .builtin .min, args := #[x, y], argTypes := tys } o.type; invoke d.target d.args : Sem Next) w = _
      simp only [resolve, invoke, builtin, Sem.run_bind, Sem.run_pure, Result.andThen_ok, List.map_toArray, List.map_cons, List.map_nil, hx, hy, Lib.run_min_ints]
    · cases h
  · cases h

/-- the order: which comes up, and whether it only computes -/
def build (ops : Array Oper) : List (Nat × Bool) → List Oper
  | [] => []
  | (i, b) :: σ => match ops[i]? with
    | some o => (if b then (need o).map (chk o) else []) ++ o :: build ops σ
    | none => []
def fits_ (P : Program) (ops : Array Oper) : Array Bool → List (Nat × Bool) → Bool
  | listed, [] => (Region.ready .any ops listed).isEmpty
  | listed, (i, b) :: σ => match ops[i]? with
    | some o => (if b then (Region.ready .any ops listed).contains i && Region.free .any ops listed i && calm P o else Region.ready .any ops listed == [i]) && fits_ P ops (listed.setIfInBounds i true) σ
    | none => false

theorem chk_list (hQo : ¬ LetsOut Q) {o : Oper} {rest : List Oper} {w : World} {a : Act} (hw : Region.wanted o (yielded ops a.tmps) = true) :
    ∀ xs : List Operand, wpList P ops Q (xs.map (chk o) ++ rest) a w → (∀ x ∈ xs, ∃ k n, a.eval x = .int k n) ∧ wpList P ops Q rest a w
  | [], h => ⟨by simp, h⟩
  | x :: xs, h => by
    rw [List.map_cons, List.cons_append] at h
    unfold wpList at h
    have hwc : Region.wanted (chk o x) (yielded ops a.tmps) = true := hw
    rw [if_pos hwc] at h
    rcases h with h | ⟨_, h⟩
    · have hx : (∃ k n, a.eval x = .int k n) ∧ wpList P ops Q (xs.map (chk o) ++ rest) a w := by
        unfold Oper.wp at h
        have he : execOp a.eval (chk o x) = (do pure (.value (← Op.unary .xor (a.eval x)))) := rfl
        rw [he] at h
        generalize a.eval x = v at h
        cases v with
        | int k n => exact ⟨⟨k, n, rfl⟩, h⟩
        | pointer p => cases p <;> exact h.elim
        | _ => exact h.elim
      obtain ⟨h1, h2⟩ := chk_list hQo hw xs hx.2
      exact ⟨fun y hy => by rcases List.mem_cons.1 hy with rfl | hy; exact hx.1; exact h1 y hy, h2⟩
    · exact absurd h hQo
theorem chk_skip {o : Oper} {rest : List Oper} {w : World} {a : Act} (hw : ¬ Region.wanted o (yielded ops a.tmps) = true) :
    ∀ xs : List Operand, wpList P ops Q (xs.map (chk o) ++ rest) a w → wpList P ops Q rest a w
  | [], h => h
  | x :: xs, h => by
    rw [List.map_cons, List.cons_append] at h
    unfold wpList at h
    have hwc : ¬ Region.wanted (chk o x) (yielded ops a.tmps) = true := hw
    rw [if_neg hwc] at h
    exact chk_skip hw xs h

theorem any_of_list (hQp : ∀ c a w, ¬ Q (.panic c) a w) (hQo : ¬ LetsOut Q) (hsel : Region.noSelect ops = true) : ∀ (σ : List (Nat × Bool)) (listed : Array Bool) (a : Act) (w : World),
    fits_ P ops listed σ = true → wpList P ops Q (build ops σ) a w → wpAny P .any ops Q σ.length listed a w
  | [], listed, a, w, hf, h => by
    unfold fits_ at hf
    exact ⟨List.isEmpty_iff.1 hf, h⟩
  | (i, b) :: σ, listed, a, w, hf, h => by
    unfold fits_ at hf
    unfold build at h
    cases ho : ops[i]? with
    | none => rw [ho] at hf; cases hf
    | some o =>
      rw [ho] at hf h
      simp only [Bool.and_eq_true] at hf h
      obtain ⟨hf1, hf2⟩ := hf
      have ih := fun a w => any_of_list hQp hQo hsel σ (listed.setIfInBounds i true) a w hf2
      cases b with
      | false =>
        simp only [Bool.false_eq_true, if_false, beq_iff_eq, List.nil_append] at hf1 h
        refine ⟨fun h0 => (by rw [hf1] at h0; cases h0), fun j hj => ?_⟩
        rw [hf1, List.mem_singleton] at hj
        subst hj
        unfold wpOp
        rw [ho]
        unfold wpList at h
        simp only
        split
        · rename_i hw
          rw [if_pos hw] at h
          exact h.imp (Oper.wp_mono fun a w => ih a w) id
        · rename_i hw
          rw [if_neg hw] at h
          exact ih _ _ h
      | true =>
        simp only [if_true, Bool.and_eq_true] at hf1 h
        obtain ⟨⟨hr, hfr⟩, hc⟩ := hf1
        have go : ∀ v, Yields P ops o v a → wpList P ops Q (build ops σ) (a.put o.dst v) w → wpAny P .any ops Q (σ.length + 1) listed a w := fun v hy hk =>
          wpAny_first ho (Region.noSelect_spec hsel) (fun c a w hq => absurd hq (hQp c _ w)) σ.length listed a w (Region.free_spec ho hfr) (by simpa using hr) hy (ih _ _ hk)
        by_cases hw : Region.wanted o (yielded ops a.tmps) = true
        · obtain ⟨hn, h⟩ := chk_list hQo hw _ h
          unfold wpList at h
          rw [if_pos hw] at h
          rcases h with h | ⟨_, h⟩
          · unfold Oper.wp at h
            rcases calm_run hc a.eval hn with ⟨v, hv⟩ | hv
            · rw [hv w] at h
              exact go v (.inl ⟨hw, hv⟩) h
            · obtain ⟨e, w', he⟩ := hv w
              rw [he] at h
              cases e <;> first | exact absurd h (hQp _ _ _) | exact h.elim
          · exact absurd h hQo
        · have h := chk_skip hw _ h
          unfold wpList at h
          rw [if_neg hw] at h
          exact go undef (.inr ⟨by simpa using hw, rfl⟩) h

/-- how a region may be left: by going on -/
def Only (K : Act → World → Prop) : Exit → Act → World → Prop := Exit.then K fun _ _ _ => False

/-- THE LAW: a region that draws, walked as a row in one order -/
theorem wp_region_sched {id : Nat} {a : Act} {w : World} (σ : List (Nat × Bool)) {l : List Oper} (hm : P.follows .mixedOrders = true) (hs : σ.length = ops.size) (hsel : Region.noSelect ops = true)
    (hf : fits_ P ops (Array.replicate ops.size false) σ = true) (hl : build ops σ = l) (h : wpList P ops (Exit.then (fun a w => Q .normal a w) fun _ _ _ => False) l a w.drew) : (Code.region id ops true).wp P Q a w := by
  subst hl
  refine Code.wp_mono (Q := Exit.then (fun a w => Q .normal a w) fun _ _ _ => False) (fun e a w he => ?_) (wp_region_any hm (by
    rw [← hs]
    exact any_of_list (fun c a w h => h) (fun ⟨_, _, h⟩ => h) hsel σ _ a _ (by rw [hs]; exact hf) h))
  cases e <;> first | exact he | exact he.elim
end
end Go.Proofs.Ytkkhojealihghaa
