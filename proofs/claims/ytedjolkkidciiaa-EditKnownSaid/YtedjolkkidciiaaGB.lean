/- Several texts in one: Conv, StoreB, Sched, Plan, Map, Exec, AppK, Own, Low, LowHigh, Typed, Mid, Res, PlanP, MayN, AppF. No condition of its own. -/
import Derived.Test.YtedjolkkidciiaaGP
import Derived.Laws.BytesArg
import Derived.Test.YtedjolkkidciiaaGA
import Derived.Laws.Tables
import Derived.Orders
import Derived.Laws.Panics
import Derived.Lib.MinMax
import Derived.ChangeKeysEq
import Derived.Maps.OwnSet
import Derived.DeepKeys4
import Derived.Deep.RegionLaw
namespace Go.Proofs.Ytedjolkkidciiaa
open Go.RowKit

theorem run_conv {P : Program} {src dst e : TypeId} (hs : P.underlying src = some (.slice e)) (he : P.underlying e = some (.int .u8)) (hd : P.underlying dst = some .string) {w : World} {B n : Nat} {A : Option Addr} {l : List UInt8} (c : Nat) (h : Rd w B 1 A n (bcells l)) :
    (convert src dst (.slice A n c)).run P w = .ok (.string ⟨l.toArray⟩) w := by
  have hl : l.length = n := by have := h.1; rw [bcells_len] at this; omega
  rcases Nat.eq_zero_or_pos n with h0 | h0
  · subst h0
    have : l = [] := List.eq_nil_of_length_eq_zero hl
    subst this
    rw [run_convert_bytes_string w src dst e _ 0 c hs he hd]
    cases A with
    | none => simp [Conv.bytesToString]; rfl
    | some a =>
      rw [run_bytesToString (P := P) w a 0 c [] rfl]
      rfl
  · obtain ⟨b, off, rfl, _, hc⟩ := h.2.2 h0
    have := run_convert_bytes_arg (P := P) w src e hs he b off n c (bnum l) (by rw [bnum_len]; exact hl) (fun i hi => by
      rw [hc i _ (bcells_get (by omega))]
      simp [bnum, List.getD, show i < l.length by omega]) dst hd
    rw [this]
    have e1 := bnum_bytes l
    unfold Lib.bytesOf at e1
    unfold strOfNums
    rw [e1]
theorem str_beq (a b : List UInt8) : ((⟨a.toArray⟩ : ByteArray) == ⟨b.toArray⟩) = (a == b) := by
  show (a.toArray == b.toArray) = _
  simp
end Go.Proofs.Ytedjolkkidciiaa

namespace Go.Proofs.Ytedjolkkidciiaa
open Go.RowKit
section
variable {P : Program} {w : World} {g : Nat} {t : TypeId} {cs old : Array Value}
theorem Blk.row (h : Blk w g t old) (cs : Array Value) : Blk (w.setRow g cs) g t cs := by
  unfold Blk at h ⊢
  exact setRow_heap w g old cs t (0, 0) h
theorem row_other {j : Nat} (hj : j ≠ g) (cs : Array Value) : (w.setRow g cs).heap[j]? = w.heap[j]? := setRow_other w g j cs hj
theorem row_below {B : Nat} {w0 : World} (h : Below B w0 w) (hB : B ≤ g) (cs : Array Value) : Below B w0 (w.setRow g cs) :=
  h.trans ⟨rfl, rfl, rfl, by simp [World.setRow], fun k hk => row_other (by omega) cs⟩
theorem row_size (w : World) (g : Nat) (cs : Array Value) : (w.setRow g cs).heap.size = w.heap.size := by simp [World.setRow]
theorem wpList_storeB {ops : Array Oper} {rest : List Oper} {o : Oper} {a : Act} {Q : Exit → Act → World → Prop} (hg : o.guard = none) (ty : TypeId) (x y : Operand) (ho : o.op = .store ty x y)
    (hx : a.eval x = .pointer (some ⟨g, 0, none⟩)) (hy : a.eval y = .agg cs) (hb : Blk w g t old) (hi : (P.info? ty).map (·.size) = some cs.size) (hold : old.size = cs.size) (h1 : cs.all (·.oneCell') = true)
    (h : wpList P ops Q rest (a.put o.dst undef) (w.setRow g cs)) : wpList P ops Q (o :: rest) a w :=
  wpList_plain hg fun _ hK => wp_store_row ty x y ho g cs hx hy t old hb hi hold h1 (hK _ _ h)
end
end Go.Proofs.Ytedjolkkidciiaa

namespace Go.Proofs.Ytedjolkkidciiaa
open Go.RowKit

/-- whatever the world is, it comes to one value and leaves the world as it was; or it stops -/
def Det (P : Program) {α : Type} (m : Sem α) : Prop := (∃ x, ∀ w, m.run P w = .ok x w) ∨ (∀ w, ∃ h w', m.run P w = .halt h w')

section
variable {P : Program} {α β : Type}
theorem Det.val (x : α) : Det P (pure x : Sem α) := .inl ⟨x, fun _ => rfl⟩
theorem Det.stuck_ (s : String) : Det P (stuck s : Sem α) := .inr fun w => ⟨_, _, run_stuck (P := P) (w := w) s⟩
theorem Det.unsup (u : Unsupported) : Det P (unsupported u : Sem α) := .inr fun w => ⟨_, _, run_unsupported (P := P) (w := w) u⟩
theorem Det.bind {m : Sem α} {f : α → Sem β} (h : Det P m) (hf : ∀ x, Det P (f x)) : Det P (m >>= f) := by
  rcases h with ⟨x, hx⟩ | h
  · rcases hf x with ⟨y, hy⟩ | hy
    · exact .inl ⟨y, fun w => by rw [Sem.run_bind, hx w]; exact hy w⟩
    · refine .inr fun w => ?_
      obtain ⟨e, w', he⟩ := hy w
      exact ⟨e, w', by rw [Sem.run_bind, hx w]; exact he⟩
  · refine .inr fun w => ?_
    obtain ⟨e, w', he⟩ := h w
    exact ⟨e, w', by rw [Sem.run_bind, he]; rfl⟩
theorem Det.prog : Det P program := .inl ⟨P, fun _ => rfl⟩
theorem Det.gp (v : Value) : Det P (goPanic v : Sem α) := .inr fun w => ⟨_, _, run_goPanic (P := P) (w := w) v⟩
theorem Det.rtPanic (m : String) : Det P (runtimePanic (.error m) : Sem α) := by
  unfold runtimePanic
  exact Det.prog.bind fun p => .gp _
theorem Det.bounds (k : IntKind) (x y : Int) (c : BoundsCode) : Det P (boundsPanic k x y c : Sem α) := .inr fun w => by
  obtain ⟨s, w', h⟩ := run_boundsPanic (α := α) (P := P) (w := w) k x y c
  exact ⟨_, _, h⟩
theorem Det.ite_ {c : Prop} [Decidable c] {a b : Sem α} (ha : Det P a) (hb : Det P b) : Det P (if c then a else b) := by split <;> assumption
theorem Det.info (t : TypeId) : Det P (typeInfo t) := by
  unfold typeInfo
  refine Det.prog.bind fun p => ?_
  split
  · exact .val _
  · exact .stuck_ _
theorem Det.size (t : TypeId) : Det P (sizeOf t) := by
  unfold sizeOf
  exact (Det.info t).bind fun _ => .val _
theorem Det.under (t : TypeId) : Det P (underlying t) := by
  unfold underlying
  refine Det.prog.bind fun p => ?_
  split
  · exact .val _
  · exact .stuck_ _
theorem Det.asInt_ (v : Value) : Det P (asIntOf v) := by
  unfold asIntOf
  split
  · exact .val _
  · exact .unsup _
  · exact .stuck_ _
theorem Det.asBool_ (v : Value) : Det P (asBool v) := by
  unfold asBool
  split
  · exact .val _
  · exact .stuck_ _
theorem Det.bound (x : Value) (y : Nat) (c : BoundsCode) : Det P (Instr.sliceBound x y c) := by
  unfold Instr.sliceBound
  refine (Det.asInt_ x).bind fun p => ?_
  split
  exact .ite_ (.val _) (.bounds _ _ _ _)
theorem Det.sbounds (b : Bool) (n c : Nat) (lo hi mx : Option Value) : Det P (Instr.sliceBounds b n c lo hi mx) := by
  unfold Instr.sliceBounds
  cases lo <;> cases hi <;> cases mx
  all_goals
    refine Det.bind ?_ fun m => Det.bind ?_ fun h => Det.bind ?_ fun l => .val _
    all_goals first
      | exact .bound _ _ _
      | exact .val _
      | exact .stuck_ _
theorem run_of_under {t : TypeId} {d : TypeDesc} (h : P.underlying t = some d) {f : TypeDesc → Sem α} (hf : Det P (f d)) : Det P (underlying t >>= f) := by
  rcases hf with ⟨x, hx⟩ | hx
  · exact .inl ⟨x, fun w => by rw [Sem.run_bind, run_underlying h]; exact hx w⟩
  · refine .inr fun w => ?_
    obtain ⟨e, w', he⟩ := hx w
    exact ⟨e, w', by rw [Sem.run_bind, run_underlying h]; exact he⟩
theorem Det.slice_slice {t e : TypeId} (h : P.underlying t = some (.slice e)) (x : Value) (lo hi mx : Option Value) : Det P (Instr.sliceAt t x lo hi mx) := by
  unfold Instr.sliceAt
  refine run_of_under h ?_
  show Det P (Instr.slice t x lo hi mx)
  unfold Instr.slice
  refine run_of_under h ?_
  cases x
  case slice a n c =>
    refine Det.bind (.sbounds _ _ _ _ _ _) fun p => ?_
    obtain ⟨l, q, m⟩ := p
    exact Det.bind (.size _) fun _ => .val _
  all_goals exact .stuck_ _
theorem Det.slice_string {t : TypeId} (h : P.underlying t = some .string) (x : Value) (lo hi mx : Option Value) : Det P (Instr.sliceAt t x lo hi mx) := by
  unfold Instr.sliceAt
  refine run_of_under h ?_
  show Det P (Instr.slice t x lo hi mx)
  unfold Instr.slice
  refine run_of_under h ?_
  cases x
  case string s =>
    cases mx
    · refine Det.bind (.sbounds _ _ _ _ _ _) fun p => ?_
      obtain ⟨l, q, m⟩ := p
      exact .val _
    · exact Det.bind (.stuck_ _) fun _ => Det.bind (.sbounds _ _ _ _ _ _) fun p => (by obtain ⟨l, q, m⟩ := p; exact .val _)
  all_goals exact .stuck_ _
theorem Det.unary_ (op : UnOp) (x : Value) : Det P (Op.unary op x) := by
  unfold Op.unary
  split
  · exact .val _
  · exact .val _
  · exact .val _
  · exact .val _
  · exact .val _
  · exact .unsup _
  · exact .unsup _
  · exact .stuck_ _
theorem Det.int_int (op : BinOp) (k k' : IntKind) (a b : Int) (t : TypeId) : Det P (binOp op t (.int k a) (.int k' b)) := by
  unfold binOp
  cases op <;> simp only
  all_goals first
    | (unfold Op.shift
       refine .ite_ (.rtPanic _) ?_
       exact .val _)
    | (refine .ite_ (.stuck_ _) ?_
       first
         | exact .val _
         | (unfold Op.intDiv; refine .ite_ (.rtPanic _) ?_; exact .val _))
theorem Det.len_slice {t : TypeId} (h : (P.underlying t).map (fun d => match d with | .slice _ => true | .string => true | _ => false) = some true) (ty : TypeId) (ts : Array TypeId) (ht : ts[0]? = some t) (args : Array Value) : Det P (Builtin.len_ ts ty args) := by
  unfold Builtin.len_
  rw [ht]
  cases args[0]? with
  | none => exact .stuck_ _
  | some x =>
    cases hu : P.underlying t with
    | none => rw [hu] at h; cases h
    | some d =>
      rw [hu] at h
      refine run_of_under hu ?_
      cases d <;> simp at h
      · cases x <;> first | exact .val _ | exact .stuck_ _
      · cases x <;> first | exact .val _ | exact .stuck_ _
/-- as a step hands it on -/
theorem Det.value {m : Sem Value} (h : Det P m) : (∃ v, ∀ w, ((do pure (.value (← m)) : Sem Next)).run P w = .ok (.value v) w) ∨ (∀ w, ∃ h w', ((do pure (.value (← m)) : Sem Next)).run P w = .halt h w') := by
  rcases h with ⟨x, hx⟩ | h
  · exact .inl ⟨x, fun w => by rw [Sem.run_bind, hx w]; rfl⟩
  · refine .inr fun w => ?_
    obtain ⟨e, w', he⟩ := h w
    exact ⟨e, w', by rw [Sem.run_bind, he]; rfl⟩
end

/-- the operands that must be numbers -/
def need (o : Oper) : List Operand := match o.op with | .binOp _ _ x y _ => [x, y] | .convert _ _ x => [x] | .call { callee := .builtin .min, args := args, .. } => args.toList | _ => []
/-- an operation that goes through at a number alone -/
def chk (o : Oper) (x : Operand) : Oper := { dst := none, op := .unOp .xor 0 x, type := 0, pos := "", after := #[], guard := o.guard }
def descOk (d : Option TypeDesc) : Bool := match d with | some (.slice _) => true | some .string => true | _ => false
def descInt (d : Option TypeDesc) : Bool := match d with | some (.int _) => true | _ => false
def calm (P : Program) (o : Oper) : Bool := match o.op with
  | .move _ | .assign _ | .pick .. | .extract .. | .unOp .. | .binOp .. => true
  | .convert _ dst _ => descInt (P.underlying dst)
  | .slice t .. => descOk (P.underlying t)
  | .call c => match c.callee with
    | .builtin .len => match c.argTypes[0]? with | some t => descOk (P.underlying t) | none => false
    | .builtin .min => c.args.size == 2
    | _ => false
  | _ => false

section
variable {P : Program} {ops : Array Oper} {Q : Exit → Act → World → Prop}

theorem calm_run {o : Oper} (h : calm P o = true) (ρ : Operand → Value) (hn : ∀ x ∈ need o, ∃ k n, ρ x = .int k n) :
    (∃ v, ∀ w, (execOp ρ o).run P w = .ok (.value v) w) ∨ (∀ w, ∃ h w', (execOp ρ o).run P w = .halt h w') := by
  unfold calm at h
  unfold need at hn
  unfold execOp
  split at h <;> rename_i ho
  · rw [ho]; exact .inl ⟨_, fun _ => rfl⟩
  · rw [ho]; exact .inl ⟨_, fun _ => rfl⟩
  · rw [ho]
    simp only
    rename_i c a b
    rcases Det.asBool_ (P := P) (ρ c) with ⟨x, hx⟩ | h
    · exact .inl ⟨_, fun w => by rw [Sem.run_bind, hx w]; rfl⟩
    · refine .inr fun w => ?_
      obtain ⟨e, w', he⟩ := h w
      exact ⟨e, w', by rw [Sem.run_bind, he]; rfl⟩
  · rw [ho]
    refine Det.value ?_
    unfold Instr.extract
    split
    · split
      · exact .val _
      · exact .stuck_ _
    · exact .stuck_ _
  · rw [ho]
    exact Det.value (.unary_ _ _)
  · rw [ho] at hn ⊢
    rename_i op t x y yt
    obtain ⟨k, a, hx⟩ := hn x (by simp)
    obtain ⟨k', b, hy⟩ := hn y (by simp)
    simp only [hx, hy]
    refine Det.value (Det.bind ?_ fun _ => .int_int _ _ _ _ _ _)
    unfold eqGuard
    exact .ite_ (.val _) (.val _)
  · rw [ho] at hn ⊢
    rename_i src dst x
    obtain ⟨k, a, hx⟩ := hn x (by simp)
    simp only [hx]
    refine Det.value ?_
    unfold descInt at h
    split at h
    · rename_i kd hd
      unfold convert
      refine Det.bind (.under _) fun d => run_of_under hd ?_
      cases d <;> exact .val _
    · cases h
  · rw [ho]
    refine Det.value ?_
    unfold descOk at h
    split at h
    · rename_i hd; exact .slice_slice hd _ _ _ _
    · rename_i hd; exact .slice_string hd _ _ _ _
    · cases h
  · rename_i c
    split at h
    · rename_i hc
      split at h
      · rename_i t ht
        rw [ho]
        have e : (do let d ← resolve ρ c o.type; invoke d.target d.args : Sem Next) = (do pure (.value (← Builtin.len_ c.argTypes o.type (c.args.map ρ))) : Sem Next) := by
          unfold resolve
          rw [hc]
          rfl
        show (∃ v, ∀ w, Sem.run P (do let d ← resolve ρ c o.type; invoke d.target d.args : Sem Next) w = _) ∨ (∀ w, ∃ h w', Sem.run P (do let d ← resolve ρ c o.type; invoke d.target d.args : Sem Next) w = _)
        rw [e]
        refine Det.value (.len_slice (t := t) ?_ _ _ ht _)
        unfold descOk at h
        split at h
        · rename_i hd; rw [hd]; rfl
        · rename_i hd; rw [hd]; rfl
        · cases h
      · cases h
    · rename_i hc
      obtain ⟨callee, args, tys⟩ := c
      simp only at hc h
      subst hc
      obtain ⟨x, y, rfl⟩ : ∃ x y, args = #[x, y] := by
        have h2 : args.size = 2 := by simpa using h
        exact ⟨args[0], args[1], by
          apply Array.ext
          · simpa using h2
          · intro i h3 h4
            have : i = 0 ∨ i = 1 := by have : i < 2 := by simpa using h4
                                       omega
            rcases this with rfl | rfl <;> rfl⟩
      rw [ho] at hn ⊢
      obtain ⟨k, a, hx⟩ := hn x (by simp)
      obtain ⟨k', b, hy⟩ := hn y (by simp)
      refine .inl ⟨.int k (min a b), fun w => ?_⟩
      show Sem.run P (do let d ← resolve ρ { callee := .builtin .min, args := #[x, y], argTypes := tys } o.type; invoke d.target d.args : Sem Next) w = _
      simp only [resolve, invoke, builtin, Sem.run_bind, Sem.run_pure, Result.andThen_ok, List.map_toArray, List.map_cons, List.map_nil, hx, hy, Lib.run_min_ints]
    · cases h
  · cases h

/-- the order: which comes up, and whether it only computes -/
def build (ops : Array Oper) : List (Nat × Bool) → List Oper
  | [] => []
  | (i, b) :: σ => match ops[i]? with
    | some o => (if b then (need o).map (chk o) else []) ++ o :: build ops σ
    | none => []
def fits_ (P : Program) (ops : Array Oper) : Array Bool → List (Nat × Bool) → Bool
  | listed, [] => (Region.ready .any ops listed).isEmpty
  | listed, (i, b) :: σ => match ops[i]? with
    | some o => (if b then (Region.ready .any ops listed).contains i && Region.free .any ops listed i && calm P o else Region.ready .any ops listed == [i]) && fits_ P ops (listed.setIfInBounds i true) σ
    | none => false

theorem chk_list (hQo : ¬ LetsOut Q) {o : Oper} {rest : List Oper} {w : World} {a : Act} (hw : Region.wanted o (yielded ops a.tmps) = true) :
    ∀ xs : List Operand, wpList P ops Q (xs.map (chk o) ++ rest) a w → (∀ x ∈ xs, ∃ k n, a.eval x = .int k n) ∧ wpList P ops Q rest a w
  | [], h => ⟨by simp, h⟩
  | x :: xs, h => by
    rw [List.map_cons, List.cons_append] at h
    unfold wpList at h
    have hwc : Region.wanted (chk o x) (yielded ops a.tmps) = true := hw
    rw [if_pos hwc] at h
    rcases h with h | ⟨_, h⟩
    · have hx : (∃ k n, a.eval x = .int k n) ∧ wpList P ops Q (xs.map (chk o) ++ rest) a w := by
        unfold Oper.wp at h
        have he : execOp a.eval (chk o x) = (do pure (.value (← Op.unary .xor (a.eval x)))) := rfl
        rw [he] at h
        generalize a.eval x = v at h
        cases v with
        | int k n => exact ⟨⟨k, n, rfl⟩, h⟩
        | pointer p => cases p <;> exact h.elim
        | _ => exact h.elim
      obtain ⟨h1, h2⟩ := chk_list hQo hw xs hx.2
      exact ⟨fun y hy => by rcases List.mem_cons.1 hy with rfl | hy; exact hx.1; exact h1 y hy, h2⟩
    · exact absurd h hQo
theorem chk_skip {o : Oper} {rest : List Oper} {w : World} {a : Act} (hw : ¬ Region.wanted o (yielded ops a.tmps) = true) :
    ∀ xs : List Operand, wpList P ops Q (xs.map (chk o) ++ rest) a w → wpList P ops Q rest a w
  | [], h => h
  | x :: xs, h => by
    rw [List.map_cons, List.cons_append] at h
    unfold wpList at h
    have hwc : ¬ Region.wanted (chk o x) (yielded ops a.tmps) = true := hw
    rw [if_neg hwc] at h
    exact chk_skip hw xs h

theorem any_of_list (hQp : ∀ c a w, ¬ Q (.panic c) a w) (hQo : ¬ LetsOut Q) (hsel : Region.noSelect ops = true) : ∀ (σ : List (Nat × Bool)) (listed : Array Bool) (a : Act) (w : World),
    fits_ P ops listed σ = true → wpList P ops Q (build ops σ) a w → wpAny P .any ops Q σ.length listed a w
  | [], listed, a, w, hf, h => by
    unfold fits_ at hf
    exact ⟨List.isEmpty_iff.1 hf, h⟩
  | (i, b) :: σ, listed, a, w, hf, h => by
    unfold fits_ at hf
    unfold build at h
    cases ho : ops[i]? with
    | none => rw [ho] at hf; cases hf
    | some o =>
      rw [ho] at hf h
      simp only [Bool.and_eq_true] at hf h
      obtain ⟨hf1, hf2⟩ := hf
      have ih := fun a w => any_of_list hQp hQo hsel σ (listed.setIfInBounds i true) a w hf2
      cases b with
      | false =>
        simp only [Bool.false_eq_true, if_false, beq_iff_eq, List.nil_append] at hf1 h
        refine ⟨fun h0 => (by rw [hf1] at h0; cases h0), fun j hj => ?_⟩
        rw [hf1, List.mem_singleton] at hj
        subst hj
        unfold wpOp
        rw [ho]
        unfold wpList at h
        simp only
        split
        · rename_i hw
          rw [if_pos hw] at h
          exact h.imp (Oper.wp_mono fun a w => ih a w) id
        · rename_i hw
          rw [if_neg hw] at h
          exact ih _ _ h
      | true =>
        simp only [if_true, Bool.and_eq_true] at hf1 h
        obtain ⟨⟨hr, hfr⟩, hc⟩ := hf1
        have go : ∀ v, Yields P ops o v a → wpList P ops Q (build ops σ) (a.put o.dst v) w → wpAny P .any ops Q (σ.length + 1) listed a w := fun v hy hk =>
          wpAny_first ho (Region.noSelect_spec hsel) (fun c a w hq => absurd hq (hQp c _ w)) σ.length listed a w (Region.free_spec ho hfr) (by simpa using hr) hy (ih _ _ hk)
        by_cases hw : Region.wanted o (yielded ops a.tmps) = true
        · obtain ⟨hn, h⟩ := chk_list hQo hw _ h
          unfold wpList at h
          rw [if_pos hw] at h
          rcases h with h | ⟨_, h⟩
          · unfold Oper.wp at h
            rcases calm_run hc a.eval hn with ⟨v, hv⟩ | hv
            · rw [hv w] at h
              exact go v (.inl ⟨hw, hv⟩) h
            · obtain ⟨e, w', he⟩ := hv w
              rw [he] at h
              cases e <;> first | exact absurd h (hQp _ _ _) | exact h.elim
          · exact absurd h hQo
        · have h := chk_skip hw _ h
          unfold wpList at h
          rw [if_neg hw] at h
          exact go undef (.inr ⟨by simpa using hw, rfl⟩) h

/-- how a region may be left: by going on -/
def Only (K : Act → World → Prop) : Exit → Act → World → Prop := Exit.then K fun _ _ _ => False

/-- THE LAW: a region that draws, walked as a row in one order -/
theorem wp_region_sched {id : Nat} {a : Act} {w : World} (σ : List (Nat × Bool)) {l : List Oper} (hm : P.follows .mixedOrders = true) (hs : σ.length = ops.size) (hsel : Region.noSelect ops = true)
    (hf : fits_ P ops (Array.replicate ops.size false) σ = true) (hl : build ops σ = l) (h : wpList P ops (Exit.then (fun a w => Q .normal a w) fun _ _ _ => False) l a w.drew) : (Code.region id ops true).wp P Q a w := by
  subst hl
  refine Code.wp_mono (Q := Exit.then (fun a w => Q .normal a w) fun _ _ _ => False) (fun e a w he => ?_) (wp_region_any hm (by
    rw [← hs]
    exact any_of_list (fun c a w h => h) (fun ⟨_, _, h⟩ => h) hsel σ _ a _ (by rw [hs]; exact hf) h))
  cases e <;> first | exact he | exact he.elim
end
end Go.Proofs.Ytedjolkkidciiaa

namespace Go.Proofs.Ytedjolkkidciiaa
open Go.RowKit

section
variable {P : Program} {α β : Type}
theorem Det.addr_ (v : Value) : Det P (Instr.sureAddr v) := by
  unfold Instr.sureAddr
  split
  · exact .val _
  · exact .stuck_ _
theorem Det.agg_ (t : TypeId) : Det P (isAgg t) := by
  unfold isAgg
  refine (Det.under t).bind fun d => ?_
  split <;> exact .val _
theorem Det.part_ (t : TypeId) (cs : Array Value) (k : Nat) : Det P (part t cs k) := by
  unfold part
  refine (Det.agg_ t).bind fun b => ?_
  refine .ite_ ((Det.size t).bind fun _ => .val _) ?_
  split
  · exact .val _
  · exact .stuck_ _
theorem Det.asAgg_ (v : Value) : Det P (asAgg v) := by
  unfold asAgg
  split
  · exact .val _
  · exact .stuck_ _
theorem Det.field_ (t : TypeId) (x : Value) (f : Nat) : Det P (Instr.field t x f) := by
  unfold Instr.field
  refine (Det.under t).bind fun d => ?_
  split
  · split
    · exact (Det.asAgg_ x).bind fun _ => .part_ _ _ _
    · exact .stuck_ _
  · exact .stuck_ _
theorem Det.index_ (t : TypeId) (x ix : Value) : Det P (Instr.index t x ix) := by
  unfold Instr.index
  refine (Det.asInt_ ix).bind fun p => ?_
  obtain ⟨k, i⟩ := p
  refine (Det.under t).bind fun d => ?_
  split
  · exact .ite_ ((Det.size _).bind fun _ => .part_ _ _ _) (.bounds _ _ _ _)
  · split
    · exact .val _
    · exact .bounds _ _ _ _
  · exact .stuck_ _
theorem Det.indexAt_ (t : TypeId) (x ix : Value) : Det P (Instr.indexAt t x ix) := by
  unfold Instr.indexAt
  refine (Det.asInt_ ix).bind fun p => ?_
  obtain ⟨k, i⟩ := p
  refine (Det.under t).bind fun d => ?_
  split
  · refine (Det.addr_ _).bind fun a => (Det.under t).bind fun d2 => ?_
    exact .ite_ ((Det.size _).bind fun _ => .val _) (.ite_ (.unsup _) (.bounds _ _ _ _))
  · rename_i base _ _
    refine (Det.under t).bind fun d2 => ?_
    cases base
    · exact .bounds _ _ _ _
    · exact .ite_ ((Det.size _).bind fun _ => .val _) (.ite_ (.unsup _) (.bounds _ _ _ _))
  · exact .stuck_ _
theorem Det.sliceAt_array {t e : TypeId} {n : Nat} (h : P.underlying t = some (.array n e)) (x : Value) (lo hi mx : Option Value) : Det P (Instr.sliceAt t x lo hi mx) := by
  unfold Instr.sliceAt
  refine run_of_under h ?_
  simp only
  refine (Det.addr_ x).bind fun a => (Det.sbounds _ _ _ _ _ _).bind fun p => ?_
  obtain ⟨l, q, m⟩ := p
  exact (Det.size _).bind fun _ => .val _
theorem Det.ite_c {c : Bool} {a b : Sem α} (ha : Det P a) (hb : Det P b) : Det P (if c then a else b) := by cases c <;> assumption
def plainField (P : Program) (s : TypeId) (f : Nat) : Bool := match P.underlying s with
  | some (.struct fs) => (match fs[f]? with | some g => (match P.info? g.type with | some i => i.size != 0 | none => false) | none => false)
  | _ => false
theorem Det.fieldAt_ {s : TypeId} {f : Nat} (h : plainField P s f = true) (x : Value) : Det P (Instr.fieldAt s x f) := by
  unfold plainField at h
  split at h
  · rename_i fs hs
    split at h
    · rename_i g hg
      split at h
      · rename_i i hi
        unfold Instr.fieldAt
        refine run_of_under hs ?_
        simp only [hg]
        refine (Det.addr_ x).bind fun a => ?_
        refine Det.bind ?_ fun _ => .val _
        unfold fieldPlace
        have hz : ∀ w, (sizeOf g.type).run P w = .ok i.size w := fun w => by
          have h2 : (typeInfo g.type).run P w = .ok i w := by
            show Sem.run P (match P.info? g.type with | some i => pure i | none => stuck "no such type") w = _
            rw [hi]; rfl
          unfold sizeOf
          rw [Sem.run_bind, h2]; rfl
        refine .inl ⟨a.add g.offset, fun w => ?_⟩
        rw [Sem.run_bind, hz w]
        have : ¬ i.size = 0 := by simpa using h
        show Sem.run P (if i.size = 0 then _ else _) w = _
        rw [if_neg this]
        rfl
      · cases h
    · cases h
  · cases h
theorem Det.rtBounds (i : Int) (n : Nat) (b : Bool) (c : BoundsCode) : Det P (runtimePanic (.bounds i n b c) : Sem α) := by
  unfold runtimePanic
  exact Det.prog.bind fun p => .gp _
theorem Det.arrayAt_ (t : TypeId) (x : Value) : Det P (Instr.arrayAt t x) := by
  unfold Instr.arrayAt
  refine (Det.under t).bind fun d => ?_
  cases d
  case array n e =>
    cases x
    case slice a l c => exact .ite_ (.rtBounds _ _ _ _) (.val _)
    all_goals exact .stuck_ _
  all_goals exact .stuck_ _
end

def calmX (P : Program) (o : Oper) : Bool := calm P o || match o.op with
  | .indexAddr .. | .index .. | .field .. | .sliceToArrayPointer .. => true
  | .fieldAddr s _ f => plainField P s f
  | .slice t .. => match P.underlying t with | some (.array ..) => true | _ => false
  | _ => false

section
variable {P : Program} {ops : Array Oper} {Q : Exit → Act → World → Prop} {I : World → Prop}
theorem calmX_run {o : Oper} (h : calmX P o = true) (ρ : Operand → Value) (hn : ∀ x ∈ need o, ∃ k n, ρ x = .int k n) :
    (∃ v, ∀ w, (execOp ρ o).run P w = .ok (.value v) w) ∨ (∀ w, ∃ h w', (execOp ρ o).run P w = .halt h w') := by
  unfold calmX at h
  rw [Bool.or_eq_true] at h
  rcases h with h | h
  · exact calm_run h ρ hn
  · unfold execOp
    split at h <;> rename_i ho
    · rw [ho]; exact Det.value (.indexAt_ _ _ _)
    · rw [ho]; exact Det.value (.index_ _ _ _)
    · rw [ho]; exact Det.value (.field_ _ _ _)
    · rw [ho]; exact Det.value (.arrayAt_ _ _)
    · rw [ho]; exact Det.value (.fieldAt_ h _)
    · rw [ho]
      split at h
      · rename_i hu; exact Det.value (.sliceAt_array hu _ _ _ _)
      · cases h
    · cases h

/-- must the operation wait for that one? -/
def depB (ops : Array Oper) : Nat → Nat → Nat → Bool
  | 0, _, _ => false
  | n + 1, j, r => match ops[j]? with | none => false | some o => o.after.any fun e => Region.binds .any e && (e.on == r || depB ops n e.on r)
/-- may the operation come up while a read is still to come? -/
def needI (ops : Array Oper) (R : List Nat) (j : Nat) : Bool := !(R.all fun r => depB ops ops.size j r)
/-- is a read still to come? -/
def opened (R : List Nat) (listed : Array Bool) : Prop := ∃ r ∈ R, listed.getD r true = false
/-- what is listed has all that it waits for listed -/
def Down (ops : Array Oper) (listed : Array Bool) : Prop := ∀ k o, ops[k]? = some o → listed.getD k false = true → ∀ e ∈ o.after, Region.binds .any e = true → listed.getD e.on false = true
theorem dep_listed {listed : Array Bool} (hd : Down ops listed) : ∀ (n j r : Nat), (∀ o, ops[j]? = some o → ∀ e ∈ o.after, Region.binds .any e = true → listed.getD e.on false = true) → depB ops n j r = true → listed.getD r false = true
  | 0, _, _, _, h => by cases h
  | n + 1, j, r, hj, h => by
    unfold depB at h
    cases ho : ops[j]? with
    | none => rw [ho] at h; cases h
    | some o =>
      rw [ho] at h
      obtain ⟨e, he, h⟩ := Array.any_eq_true'.1 h
      simp only [Bool.and_eq_true, Bool.or_eq_true, beq_iff_eq] at h
      obtain ⟨hb, h⟩ := h
      have hl := hj o ho e he hb
      rcases h with rfl | h
      · exact hl
      · exact dep_listed hd n e.on r (fun o' ho' => hd e.on o' ho' hl) h
theorem down_ready {listed : Array Bool} {j : Nat} (hd : Down ops listed) (hj : j ∈ Region.ready .any ops listed) : Down ops (listed.setIfInBounds j true) := fun k o ho hk e he hb => by
  by_cases hjk : j = k
  · subst hjk
    obtain ⟨_, oj, hoj, hall⟩ := mem_ready.1 hj
    rw [ho] at hoj
    cases hoj
    exact getD_set_true (hall e he hb)
  · rw [getD_set_ne false hjk] at hk
    exact getD_set_true (hd k o ho hk e he hb)
theorem ready_closed {listed : Array Bool} {j : Nat} {R : List Nat} (hd : Down ops listed) (hj : j ∈ Region.ready .any ops listed) (hn : needI ops R j = false) : ¬ opened R listed := fun ⟨r, hr, hl⟩ => by
  obtain ⟨_, oj, hoj, hall⟩ := mem_ready.1 hj
  simp only [needI, Bool.not_eq_false', List.all_eq_true] at hn
  have h1 := dep_listed hd _ j r (fun o ho => by rw [hoj] at ho; cases ho; exact hall) (hn r hr)
  rcases Nat.lt_or_ge r listed.size with h' | h'
  · simp [h'] at hl h1; rw [hl] at h1; cases h1
  · simp [Array.getElem?_eq_none h'] at h1
theorem opened_less {listed : Array Bool} {j : Nat} {R : List Nat} (h : opened R (listed.setIfInBounds j true)) : opened R listed := by
  obtain ⟨r, hr, hl⟩ := h
  refine ⟨r, hr, ?_⟩
  by_cases hij : j = r
  · subst hij
    rcases Nat.lt_or_ge j listed.size with h' | h'
    · simp [h'] at hl
    · simp at hl
  · rwa [getD_set_ne true hij] at hl
/-- the orders, with what every world keeps as long as a read may be still to come -/
def wpAnyI (P : Program) (ops : Array Oper) (Q : Exit → Act → World → Prop) (I : World → Prop) (R : List Nat) : Nat → Array Bool → Act → World → Prop
  | 0, listed, a, w => Region.ready .any ops listed = [] ∧ Q .normal a w
  | fuel + 1, listed, a, w =>
    (Region.ready .any ops listed = [] → Q .normal a w) ∧
    ∀ i ∈ Region.ready .any ops listed, wpOp P ops Q i (fun a' w' => (needI ops R i = true → I w → I w') ∧ wpAnyI P ops Q I R fuel (listed.setIfInBounds i true) a' w') a w
theorem wpAnyI.to {R : List Nat} : ∀ (fuel : Nat) (listed : Array Bool) (a : Act) (w : World), wpAnyI P ops Q I R fuel listed a w → wpAny P .any ops Q fuel listed a w
  | 0, _, _, _, h => h
  | fuel + 1, _, _, _, h => ⟨h.1, fun i hi => wpOp_mono (fun a w h => wpAnyI.to fuel _ a w h.2) (h.2 i hi)⟩

def YieldsI (P : Program) (ops : Array Oper) (I : World → Prop) (o : Oper) (v : Value) (a : Act) : Prop :=
  (Region.wanted o (yielded ops a.tmps) = true ∧ ∀ w, I w → (execOp a.eval o).run P w = .ok (.value v) w) ∨
  (Region.wanted o (yielded ops a.tmps) = false ∧ v = undef)
theorem YieldsI.wpOp {i : Nat} {o : Oper} {v : Value} {a : Act} (hi : ops[i]? = some o) (hy : YieldsI P ops I o v a)
    {K : Act → World → Prop} {w : World} (hI : I w) (h : K (a.put o.dst v) w) : wpOp P ops Q i K a w := by
  unfold Go.wpOp
  simp only [hi]
  rcases hy with ⟨hw, hv⟩ | ⟨hw, rfl⟩
  · simp only [hw, if_true, Oper.wp, hv w hI, Oper.upon]; exact .inl h
  · simp only [hw, Bool.false_eq_true, if_false]; exact h
theorem YieldsI.of_same {o : Oper} {v : Value} {a a' : Act} (hy : YieldsI P ops I o v a) (he : execOp a'.eval o = execOp a.eval o)
    (hw : Region.wanted o (yielded ops a'.tmps) = Region.wanted o (yielded ops a.tmps)) : YieldsI P ops I o v a' := by
  unfold YieldsI at *
  rw [he, hw]
  exact hy
theorem wpOp_putI {j : Nat} {oi oj : Oper} {v : Value} (hj : ops[j]? = some oj) (hap : oi.apart ops oj = true)
    (hsi : ∀ cs b, oi.op ≠ .select cs b) (hsj : ∀ cs b, oj.op ≠ .select cs b)
    (hQ : ∀ c a w, Q (.panic c) (a.put oi.dst v) w → Q (.panic c) a w) {K : Act → World → Prop} {a : Act} {w : World}
    (hy : YieldsI P ops I oi v a) (h : wpOp P ops Q j K (a.put oi.dst v) w) :
    wpOp P ops Q j (fun a' w' => YieldsI P ops I oi v a' ∧ K (a'.put oi.dst v) w') a w := by
  obtain ⟨h1, h2, h3⟩ := Oper.apart_spec hap
  have keep : ∀ (a : Act), YieldsI P ops I oi v a → ∀ u, YieldsI P ops I oi v (a.put oj.dst u) := fun a hy u =>
    hy.of_same (execOp_put oi hsi a oj.dst u h3) (wanted_put oi a oj.dst u h3)
  have keepD : ∀ d, YieldsI P ops I oi v { a with defers := d :: a.defers } := fun d => hy.of_same rfl rfl
  unfold wpOp at *
  simp only [hj] at *
  rw [wanted_put oj a oi.dst v h1] at h
  split
  · rename_i hw
    simp only [hw, if_true] at h
    rcases h with h | ⟨hasks, hlets⟩
    case inr => exact .inr ⟨by unfold Oper.asks at *; rw [execOp_put oj hsj a oi.dst v h1] at hasks; exact hasks, hlets⟩
    refine .inl ?_
    unfold Oper.wp at *
    rw [execOp_put oj hsj a oi.dst v h1] at h
    generalize (execOp a.eval oj).run P w = r at *
    cases r with
    | ok n w' =>
      cases n <;> simp only [Oper.upon] at h ⊢
      case value u => exact ⟨keep a hy u, by rw [← Act.put_comm a v u h2]; exact h⟩
      case skip => exact ⟨keep a hy _, by rw [← Act.put_comm a v undef h2]; exact h⟩
      case defer d =>
        refine ⟨keep _ (keepD d) _, ?_⟩
        rw [← Act.put_comm _ v undef h2, ← Act.put_defers]
        exact h
      case enter f args =>
        refine Calls.mono h fun e w'' he => ?_
        cases e with
        | returned u => exact ⟨keep a hy u, by rw [← Act.put_comm a v u h2]; exact he⟩
        | panicked c => exact hQ _ _ _ he
        | outgrown => exact he
      case row row args => exact Rows.mono h fun u w'' he => ⟨keep a hy u, by rw [← Act.put_comm a v u h2]; exact he⟩
    | halt x w' =>
      cases x <;> simp only [Oper.upon] at h ⊢
      case panic u => exact hQ _ _ _ h
  · rename_i hw
    simp only [hw] at h
    exact ⟨keep a hy _, by rw [← Act.put_comm a v undef h2]; exact h⟩
theorem wpAnyI_first {R : List Nat} {J : World → Prop} {i : Nat} {oi : Oper} {v : Value} (hi : ops[i]? = some oi) (hsel : ∀ (j : Nat) (o : Oper) cs b, ops[j]? = some o → o.op ≠ .select cs b)
    (hQ : ∀ c a w, Q (.panic c) (a.put oi.dst v) w → Q (.panic c) a w) (hJ : ∀ (listed : Array Bool) w, listed.getD i true = false → (opened R listed → I w) → J w) :
    ∀ (fuel : Nat) (listed : Array Bool) (a : Act) (w : World), Down ops listed → (opened R listed → I w) →
      (∀ j oj, ops[j]? = some oj → j ≠ i → listed.getD j true = false → (∀ e ∈ oj.after, Region.binds .any e = true → e.on ≠ i) → oi.apart ops oj = true) →
      i ∈ Region.ready .any ops listed → YieldsI P ops J oi v a →
      wpAnyI P ops Q I R fuel (listed.setIfInBounds i true) (a.put oi.dst v) w → wpAnyI P ops Q I R (fuel + 1) listed a w := by
  intro fuel
  induction fuel with
  | zero =>
    intro listed a w hD hI _ hr hy H
    refine ⟨fun h => (by rw [h] at hr; cases hr), fun j hj => ?_⟩
    by_cases hji : j = i
    · subst hji; exact hy.wpOp hi (hJ listed w (mem_ready.1 hr).1 hI) ⟨fun _ h => h, H⟩
    · have := ready_mono hj hji
      rw [H.1] at this
      cases this
  | succ fuel ih =>
    intro listed a w hD hI hfree hr hy H
    refine ⟨fun h => (by rw [h] at hr; cases hr), fun j hj => ?_⟩
    by_cases hji : j = i
    · subst hji; exact hy.wpOp hi (hJ listed w (mem_ready.1 hr).1 hI) ⟨fun _ h => h, H⟩
    · have h1 := H.2 j (ready_mono hj hji)
      obtain ⟨hjun, oj, hoj, hall⟩ := mem_ready.1 hj
      have hnot : ∀ e ∈ oj.after, Region.binds .any e = true → e.on ≠ i := fun e he hb heq => by
        have h1 := hall e he hb
        have h0 := (mem_ready.1 hr).1
        rw [heq] at h1
        rcases Nat.lt_or_ge i listed.size with h' | h'
        · simp [h'] at h0 h1; rw [h0] at h1; cases h1
        · simp [Array.getElem?_eq_none h'] at h1
      have h2 := wpOp_putI hoj (hfree j oj hoj hji hjun hnot) (fun cs b => hsel i oi cs b hi) (fun cs b => hsel j oj cs b hoj) hQ hy h1
      have hfree' : ∀ k ok, ops[k]? = some ok → k ≠ i → (listed.setIfInBounds j true).getD k true = false →
          (∀ e ∈ ok.after, Region.binds .any e = true → e.on ≠ i) → oi.apart ops ok = true := fun k ok hk hki hun hno => by
        refine hfree k ok hk hki ?_ hno
        by_cases hjk : j = k
        · subst hjk; exact hjun
        · rw [getD_set_ne true hjk] at hun; exact hun
      refine wpOp_mono (fun a' w' h3 => ?_) h2
      obtain ⟨h3, h4, h5⟩ := h3
      refine ⟨h4, ih (listed.setIfInBounds j true) a' w' (down_ready hD hj) (fun ho => ?_) hfree' (ready_mono hr (Ne.symm hji)) h3 ?_⟩
      · have ho' := opened_less ho
        cases hn : needI ops R j with
        | true => exact h4 hn (hI ho')
        | false => exact absurd ho' (ready_closed hD hj hn)
      · rw [Array.setIfInBounds_comm _ _ hji]
        exact h5

/-- a step of a plan: a row that only computes; one that reads; one that acts -/
inductive Leg where
  | calms (l : List Nat)
  | read (i : Nat)
  | act (i : Nat)

/-- the steps as a tree: where two come up, whichever goes first -/
inductive Tree where
  | done
  | calms (l : List Nat) (t : Tree)
  | read (i : Nat) (t : Tree)
  | act (i : Nat) (t : Tree)
  | fork (i : Nat) (t : Tree) (j : Nat) (u : Tree)
  | fork3 (i : Nat) (t : Tree) (j : Nat) (u : Tree) (k : Nat) (v : Tree)
def row : List Leg → Tree → Tree
  | [], t => t
  | .calms l :: σ, t => .calms l (row σ t)
  | .read i :: σ, t => .read i (row σ t)
  | .act i :: σ, t => .act i (row σ t)
/-- the row of what only computes, its operands looked at -/
def calmRow (ops : Array Oper) : List Nat → List Oper
  | [] => []
  | i :: l => match ops[i]? with | some o => (need o).map (chk o) ++ o :: calmRow ops l | none => []
def calmFits (P : Program) (ops : Array Oper) : Array Bool → List Nat → Bool
  | _, [] => true
  | listed, i :: l => match ops[i]? with
    | some o => (Region.ready .any ops listed).contains i && Region.free .any ops listed i && calmX P o && calmFits P ops (listed.setIfInBounds i true) l
    | none => false
def taken (listed : Array Bool) (l : List Nat) : Array Bool := l.foldl (fun b i => b.setIfInBounds i true) listed
/-- the reads of a plan -/
def readsOf : Tree → List Nat
  | .done => []
  | .read i σ => i :: readsOf σ
  | .calms _ σ => readsOf σ
  | .act _ σ => readsOf σ
  | .fork _ σ _ τ => readsOf σ ++ readsOf τ
  | .fork3 _ σ _ τ _ υ => readsOf σ ++ readsOf τ ++ readsOf υ

/-- what is owed behind an act -/
def owes (ops : Array Oper) (I : World → Prop) (R : List Nat) (i : Nat) (K : Act → World → Prop) : Act → World → Prop := match needI ops R i with | true => fun a w => I w ∧ K a w | false => K
def Plan (P : Program) (ops : Array Oper) (I : World → Prop) (R : List Nat) (K : Act → World → Prop) : Tree → Act → World → Prop
  | .done, a, w => K a w
  | .calms l σ, a, w => wpList P ops (Exit.then (fun a w => Plan P ops I R K σ a w) fun _ _ _ => False) (calmRow ops l) a w
  | .read i σ, a, w => match ops[i]? with | some o => ∃ v, YieldsI P ops I o v a ∧ Plan P ops I R K σ (a.put o.dst v) w | none => False
  | .act i σ, a, w => match ops[i]? with | some o => wpList P ops (Exit.then (owes ops I R i (fun a w => Plan P ops I R K σ a w)) fun _ _ _ => False) [o] a w | none => False
  | .fork i σ j τ, a, w => (match ops[i]? with | some o => wpList P ops (Exit.then (owes ops I R i (fun a w => Plan P ops I R K σ a w)) fun _ _ _ => False) [o] a w | none => False) ∧
    (match ops[j]? with | some o => wpList P ops (Exit.then (owes ops I R j (fun a w => Plan P ops I R K τ a w)) fun _ _ _ => False) [o] a w | none => False)
  | .fork3 i σ j τ k υ, a, w => (match ops[i]? with | some o => wpList P ops (Exit.then (owes ops I R i (fun a w => Plan P ops I R K σ a w)) fun _ _ _ => False) [o] a w | none => False) ∧ (match ops[j]? with | some o => wpList P ops (Exit.then (owes ops I R j (fun a w => Plan P ops I R K τ a w)) fun _ _ _ => False) [o] a w | none => False) ∧ (match ops[k]? with | some o => wpList P ops (Exit.then (owes ops I R k (fun a w => Plan P ops I R K υ a w)) fun _ _ _ => False) [o] a w | none => False)
def planLen : Tree → Nat
  | .done => 0
  | .calms l σ => planLen σ + l.length
  | .read _ σ => planLen σ + 1
  | .act _ σ => planLen σ + 1
  | .fork _ σ _ _ => planLen σ + 1
  | .fork3 _ σ _ _ _ _ => planLen σ + 1
def planFits (P : Program) (ops : Array Oper) (R : List Nat) : Array Bool → Tree → Bool
  | listed, .done => (Region.ready .any ops listed).isEmpty
  | listed, .calms l σ => calmFits P ops listed l && planFits P ops R (taken listed l) σ
  | listed, .read i σ => R.contains i && (Region.ready .any ops listed).contains i && Region.free .any ops listed i && planFits P ops R (listed.setIfInBounds i true) σ
  | listed, .act i σ => Region.ready .any ops listed == [i] && planFits P ops R (listed.setIfInBounds i true) σ
  | listed, .fork i σ j τ => Region.ready .any ops listed == [i, j] && planFits P ops R (listed.setIfInBounds i true) σ && planFits P ops R (listed.setIfInBounds j true) τ && planLen τ == planLen σ
  | listed, .fork3 i σ j τ k υ => Region.ready .any ops listed == [i, j, k] && planFits P ops R (listed.setIfInBounds i true) σ && planFits P ops R (listed.setIfInBounds j true) τ && planFits P ops R (listed.setIfInBounds k true) υ && planLen τ == planLen σ && planLen υ == planLen σ

theorem wpAnyI_calms {R : List Nat} (hsel : Region.noSelect ops = true) {K : Act → World → Prop} {fuel : Nat} : ∀ (l : List Nat) (listed : Array Bool) (a : Act) (w : World), Down ops listed → (opened R listed → I w) → calmFits P ops listed l = true →
    wpList P ops (Exit.then K fun _ _ _ => False) (calmRow ops l) a w → (∀ a, Down ops (taken listed l) → (opened R (taken listed l) → I w) → K a w → wpAnyI P ops (Exit.then (fun a w => Q .normal a w) fun _ _ _ => False) I R fuel (taken listed l) a w) → wpAnyI P ops (Exit.then (fun a w => Q .normal a w) fun _ _ _ => False) I R (fuel + l.length) listed a w
  | [], _, _, _, hD, hI, _, h, hk => hk _ hD hI h
  | i :: l, listed, a, w, hD, hI, hf, h, hk => by
    unfold calmFits at hf
    unfold calmRow at h
    cases ho : ops[i]? with
    | none => rw [ho] at hf; cases hf
    | some o =>
      rw [ho] at hf h
      simp only [Bool.and_eq_true] at hf h
      obtain ⟨⟨⟨hr, hfr⟩, hc⟩, hf2⟩ := hf
      have hr' : i ∈ Region.ready .any ops listed := by simpa using hr
      have hQo : ¬ LetsOut (Exit.then K fun _ _ _ => False) := fun ⟨_, _, h⟩ => h
      have go : ∀ v, Yields P ops o v a → wpList P ops (Exit.then K fun _ _ _ => False) (calmRow ops l) (a.put o.dst v) w → wpAnyI P ops (Exit.then (fun a w => Q .normal a w) fun _ _ _ => False) I R (fuel + (i :: l).length) listed a w := fun v hy h2 =>
        wpAnyI_first (J := fun _ => True) ho (Region.noSelect_spec hsel) (fun c a w h => h.elim) (fun _ _ _ _ => trivial) (fuel + l.length) listed a w hD hI (Region.free_spec ho hfr) hr'
          (hy.imp (fun h => ⟨h.1, fun w _ => h.2 w⟩) id) (wpAnyI_calms hsel l (listed.setIfInBounds i true) (a.put o.dst v) w (down_ready hD hr') (fun h => hI (opened_less h)) hf2 h2 hk)
      by_cases hw : Region.wanted o (yielded ops a.tmps) = true
      · obtain ⟨hn, h⟩ := chk_list hQo hw _ h
        unfold wpList at h
        rw [if_pos hw] at h
        rcases h with h | ⟨_, h⟩
        · unfold Oper.wp at h
          rcases calmX_run hc a.eval hn with ⟨v, hv⟩ | hv
          · rw [hv w] at h
            exact go v (.inl ⟨hw, hv⟩) h
          · obtain ⟨e, w', he⟩ := hv w
            rw [he] at h
            cases e <;> exact h.elim
        · exact absurd h hQo
      · have h := chk_skip hw _ h
        unfold wpList at h
        rw [if_neg hw] at h
        exact go undef (.inr ⟨by simpa using hw, rfl⟩) h

/-- one of those that come up, acting -/
theorem wpAnyI_step {R : List Nat} {K : Act → World → Prop} {i fuel : Nat} {o : Oper} {listed : Array Bool} {a : Act} {w : World} (ho : ops[i]? = some o) (hD : Down ops listed) (hr' : i ∈ Region.ready .any ops listed)
    (h : wpList P ops (Exit.then (owes ops I R i K) fun _ _ _ => False) [o] a w)
    (hk : ∀ a' w', (opened R (listed.setIfInBounds i true) → I w') → K a' w' → wpAnyI P ops (Exit.then (fun a w => Q .normal a w) fun _ _ _ => False) I R fuel (listed.setIfInBounds i true) a' w') :
    wpOp P ops (Exit.then (fun a w => Q .normal a w) fun _ _ _ => False) i (fun a' w' => (needI ops R i = true → I w → I w') ∧ wpAnyI P ops (Exit.then (fun a w => Q .normal a w) fun _ _ _ => False) I R fuel (listed.setIfInBounds i true) a' w') a w := by
  have key : ∀ a' w', owes ops I R i K a' w' → (needI ops R i = true → I w → I w') ∧ wpAnyI P ops (Exit.then (fun a w => Q .normal a w) fun _ _ _ => False) I R fuel (listed.setIfInBounds i true) a' w' := fun a' w' h => by
    unfold owes at h
    cases hn : needI ops R i with
    | true =>
      rw [hn] at h
      exact ⟨fun _ _ => h.1, hk a' w' (fun _ => h.1) h.2⟩
    | false =>
      rw [hn] at h
      exact ⟨fun h => absurd h (by decide), hk a' w' (fun ho => absurd (opened_less ho) (ready_closed hD hr' hn)) h⟩
  unfold wpOp
  rw [ho]
  unfold wpList at h
  simp only
  split
  · rename_i hw
    rw [if_pos hw] at h
    refine .inl ?_
    rcases h with h | ⟨_, _, _, h⟩
    · refine Oper.wp_mono (fun a w h => key a w h) ?_
      unfold Oper.wp at h ⊢
      generalize (execOp a.eval o).run P w = r at *
      cases r with
      | ok n w' =>
        cases n <;> simp only [Oper.upon] at h ⊢ <;> first | exact h | (exact Calls.mono h fun e w'' he => by cases e <;> exact he) | (exact Rows.mono h fun _ _ he => he)
      | halt x w' => cases x <;> simp only [Oper.upon] at h ⊢ <;> exact h
    · exact h.elim
  · rename_i hw
    rw [if_neg hw] at h
    exact key _ _ h

theorem wpAnyI_plan {R : List Nat} (hsel : Region.noSelect ops = true) : ∀ (σ : Tree) (listed : Array Bool) (a : Act) (w : World), Down ops listed → (opened R listed → I w) → planFits P ops R listed σ = true →
    Plan P ops I R (fun a w => Q .normal a w) σ a w → wpAnyI P ops (Exit.then (fun a w => Q .normal a w) fun _ _ _ => False) I R (planLen σ) listed a w
  | .done, listed, a, w, _, _, hf, h => by
    unfold planFits at hf
    exact ⟨List.isEmpty_iff.1 hf, h⟩
  | .calms l σ, listed, a, w, hD, hI, hf, h => by
    unfold planFits at hf
    rw [Bool.and_eq_true] at hf
    exact wpAnyI_calms hsel l listed a w hD hI hf.1 h fun a hD hI h => wpAnyI_plan hsel σ _ a w hD hI hf.2 h
  | .read i σ, listed, a, w, hD, hI, hf, h => by
    unfold planFits at hf
    simp only [Bool.and_eq_true] at hf
    obtain ⟨⟨⟨hR, hr⟩, hfr⟩, hf2⟩ := hf
    have hr' : i ∈ Region.ready .any ops listed := by simpa using hr
    have hR' : i ∈ R := by simpa using hR
    unfold Plan at h
    split at h
    · rename_i o ho
      obtain ⟨v, hy, h⟩ := h
      exact wpAnyI_first ho (Region.noSelect_spec hsel) (fun c a w h => h.elim) (fun listed w hl h => h ⟨i, hR', hl⟩) _ listed a w hD hI (Region.free_spec ho hfr) hr' hy (wpAnyI_plan hsel σ _ _ w (down_ready hD hr') (fun h => hI (opened_less h)) hf2 h)
    · exact h.elim
  | .act i σ, listed, a, w, hD, hI, hf, h => by
    unfold planFits at hf
    simp only [Bool.and_eq_true, beq_iff_eq] at hf
    obtain ⟨hr, hf2⟩ := hf
    unfold Plan at h
    split at h
    · rename_i o ho
      have hr' : i ∈ Region.ready .any ops listed := by rw [hr]; simp
      refine ⟨fun h0 => (by rw [hr] at h0; cases h0), fun j hj => ?_⟩
      rw [hr, List.mem_singleton] at hj
      subst hj
      exact wpAnyI_step ho hD hr' h fun a' w' hI h => wpAnyI_plan hsel σ _ a' w' (down_ready hD hr') hI hf2 h
    · exact h.elim
  | .fork i σ j τ, listed, a, w, hD, hI, hf, h => by
    unfold planFits at hf
    simp only [Bool.and_eq_true, beq_iff_eq] at hf
    obtain ⟨⟨⟨hr, hf2⟩, hf3⟩, hlen⟩ := hf
    unfold Plan at h
    obtain ⟨h1, h2⟩ := h
    refine ⟨fun h0 => (by rw [hr] at h0; cases h0), fun k hk => ?_⟩
    have hk' := hk
    rw [hr] at hk
    simp only [List.mem_cons, List.not_mem_nil, or_false] at hk
    rcases hk with rfl | rfl
    · split at h1
      · rename_i o ho
        exact wpAnyI_step ho hD hk' h1 fun a' w' hI h => wpAnyI_plan hsel σ _ a' w' (down_ready hD hk') hI hf2 h
      · exact h1.elim
    · split at h2
      · rename_i o ho
        rw [← hlen]
        exact wpAnyI_step ho hD hk' h2 fun a' w' hI h => wpAnyI_plan hsel τ _ a' w' (down_ready hD hk') hI hf3 h
      · exact h2.elim
  | .fork3 i σ j τ k υ, listed, a, w, hD, hI, hf, h => by
    unfold planFits at hf
    simp only [Bool.and_eq_true, beq_iff_eq] at hf
    obtain ⟨⟨⟨⟨⟨hr, hf2⟩, hf3⟩, hf4⟩, hlen⟩, hlen2⟩ := hf
    unfold Plan at h
    obtain ⟨h1, h2, h3⟩ := h
    refine ⟨fun h0 => (by rw [hr] at h0; cases h0), fun x hx => ?_⟩
    have hx' := hx
    rw [hr] at hx
    simp only [List.mem_cons, List.not_mem_nil, or_false] at hx
    rcases hx with rfl | rfl | rfl
    · split at h1
      · rename_i o ho
        exact wpAnyI_step ho hD hx' h1 fun a' w' hI h => wpAnyI_plan hsel σ _ a' w' (down_ready hD hx') hI hf2 h
      · exact h1.elim
    · split at h2
      · rename_i o ho
        rw [← hlen]
        exact wpAnyI_step ho hD hx' h2 fun a' w' hI h => wpAnyI_plan hsel τ _ a' w' (down_ready hD hx') hI hf3 h
      · exact h2.elim
    · split at h3
      · rename_i o ho
        rw [← hlen2]
        exact wpAnyI_step ho hD hx' h3 fun a' w' hI h => wpAnyI_plan hsel υ _ a' w' (down_ready hD hx') hI hf4 h
      · exact h3.elim

/-- THE LAW: a region that draws its order, walked by a plan, which may be a tree -/
theorem wp_region_tree {id : Nat} {a : Act} {w : World} (I : World → Prop) (σ : Tree) (hm : P.follows .mixedOrders = true) (hs : planLen σ = ops.size) (hsel : Region.noSelect ops = true)
    (hf : planFits P ops (readsOf σ) (Array.replicate ops.size false) σ = true) (hI : I w.drew) (h : Plan P ops I (readsOf σ) (fun a w => Q .normal a w) σ a w.drew) : (Code.region id ops true).wp P Q a w :=
  Code.wp_mono (Q := Exit.then (fun a w => Q .normal a w) fun _ _ _ => False) (fun e a w he => by
    cases e <;> first | exact he | exact he.elim) (wp_region_any hm (by
    rw [← hs]
    exact wpAnyI.to _ _ _ _ (wpAnyI_plan hsel σ _ a _ (fun k o _ hk => by
      rcases Nat.lt_or_ge k ops.size with h' | h'
      · simp [hs, h'] at hk
      · simp [hs, h'] at hk) (fun _ => hI) (by rw [hs]; exact hf) h)))
theorem wp_region_plan {id : Nat} {a : Act} {w : World} (I : World → Prop) (σ : List Leg) (hm : P.follows .mixedOrders = true) (hs : planLen (row σ .done) = ops.size) (hsel : Region.noSelect ops = true)
    (hf : planFits P ops (readsOf (row σ .done)) (Array.replicate ops.size false) (row σ .done) = true) (hI : I w.drew) (h : Plan P ops I (readsOf (row σ .done)) (fun a w => Q .normal a w) (row σ .done) a w.drew) : (Code.region id ops true).wp P Q a w :=
  wp_region_tree I (row σ .done) hm hs hsel hf hI h

/-! ### a plan's steps, one by one -/
variable {K : Act → World → Prop} {R : List Nat} {σ τ : Tree} {a : Act} {w : World}
theorem plan_end (h : K a w) : Plan P ops I R K .done a w := h
theorem plan_calms {l : List Nat} {r : List Oper} (hl : calmRow ops l = r) (h : wpList P ops (Exit.then (fun a w => Plan P ops I R K σ a w) fun _ _ _ => False) r a w) : Plan P ops I R K (.calms l σ) a w := by subst hl; exact h
theorem wpOne_mono {K K' : Act → World → Prop} {o : Oper} (hk : ∀ a w, K a w → K' a w) (h : wpList P ops (Exit.then K fun _ _ _ => False) [o] a w) : wpList P ops (Exit.then K' fun _ _ _ => False) [o] a w := by
  unfold wpList at h ⊢
  split at h
  · rename_i hw
    rw [if_pos hw]
    rcases h with h | ⟨_, _, _, h⟩
    · refine .inl (Oper.wp_mono (fun a w h => hk a w h) (show Oper.wp P o a w K (Exit.then K' fun _ _ _ => False) from ?_))
      unfold Oper.wp at h ⊢
      generalize (execOp a.eval o).run P w = r at *
      cases r with
      | ok n w' =>
        cases n <;> simp only [Oper.upon] at h ⊢ <;> first | exact h | (exact Calls.mono h fun e w'' he => by cases e <;> exact he) | (exact Rows.mono h fun _ _ he => he)
      | halt x w' => cases x <;> simp only [Oper.upon] at h ⊢ <;> exact h
    · exact h.elim
  · rename_i hw
    rw [if_neg hw]
    exact hk _ _ h
theorem plan_act {i : Nat} {o : Oper} (ho : ops[i]? = some o) (h : wpList P ops (Exit.then (fun a w => I w ∧ Plan P ops I R K σ a w) fun _ _ _ => False) [o] a w) : Plan P ops I R K (.act i σ) a w := by
  unfold Plan owes; rw [ho]
  cases hn : needI ops R i
  · exact wpOne_mono (fun _ _ h => h.2) h
  · exact h
/-- an act behind all reads -/
theorem plan_last {i : Nat} {o : Oper} (ho : ops[i]? = some o) (hn : needI ops R i = false) (h : wpList P ops (Exit.then (fun a w => Plan P ops I R K σ a w) fun _ _ _ => False) [o] a w) : Plan P ops I R K (.act i σ) a w := by
  unfold Plan owes; rw [ho, hn]; exact h
/-- two come up: whichever goes first -/
theorem plan_fork {i j : Nat} {o o' : Oper} (ho : ops[i]? = some o) (ho' : ops[j]? = some o') (h : wpList P ops (Exit.then (fun a w => I w ∧ Plan P ops I R K σ a w) fun _ _ _ => False) [o] a w)
    (h' : wpList P ops (Exit.then (fun a w => I w ∧ Plan P ops I R K τ a w) fun _ _ _ => False) [o'] a w) : Plan P ops I R K (.fork i σ j τ) a w := by
  unfold Plan owes; rw [ho, ho']
  constructor
  · cases hn : needI ops R i
    · exact wpOne_mono (fun _ _ h => h.2) h
    · exact h
  · cases hn : needI ops R j
    · exact wpOne_mono (fun _ _ h => h.2) h'
    · exact h'
/-- the same, where no read is still to come -/
theorem plan_fork' {i j : Nat} {o o' : Oper} (ho : ops[i]? = some o) (ho' : ops[j]? = some o') (hn : needI ops R i = false) (hn' : needI ops R j = false) (h : wpList P ops (Exit.then (fun a w => Plan P ops I R K σ a w) fun _ _ _ => False) [o] a w)
    (h' : wpList P ops (Exit.then (fun a w => Plan P ops I R K τ a w) fun _ _ _ => False) [o'] a w) : Plan P ops I R K (.fork i σ j τ) a w := by
  unfold Plan owes; rw [ho, ho', hn, hn']
  exact ⟨h, h'⟩
/-- three come up, no read is still to come -/
theorem plan_fork3' {υ : Tree} {i j k : Nat} {o o' o'' : Oper} (ho : ops[i]? = some o) (ho' : ops[j]? = some o') (ho'' : ops[k]? = some o'') (hn : needI ops R i = false) (hn' : needI ops R j = false) (hn'' : needI ops R k = false)
    (h : wpList P ops (Exit.then (fun a w => Plan P ops I R K σ a w) fun _ _ _ => False) [o] a w) (h' : wpList P ops (Exit.then (fun a w => Plan P ops I R K τ a w) fun _ _ _ => False) [o'] a w)
    (h'' : wpList P ops (Exit.then (fun a w => Plan P ops I R K υ a w) fun _ _ _ => False) [o''] a w) : Plan P ops I R K (.fork3 i σ j τ k υ) a w := by
  unfold Plan owes; rw [ho, ho', ho'', hn, hn', hn'']
  exact ⟨h, h', h''⟩
theorem plan_fork3 {υ : Tree} {i j k : Nat} {o o' o'' : Oper} (ho : ops[i]? = some o) (ho' : ops[j]? = some o') (ho'' : ops[k]? = some o'')
    (h : wpList P ops (Exit.then (fun a w => I w ∧ Plan P ops I R K σ a w) fun _ _ _ => False) [o] a w) (h' : wpList P ops (Exit.then (fun a w => I w ∧ Plan P ops I R K τ a w) fun _ _ _ => False) [o'] a w)
    (h'' : wpList P ops (Exit.then (fun a w => I w ∧ Plan P ops I R K υ a w) fun _ _ _ => False) [o''] a w) : Plan P ops I R K (.fork3 i σ j τ k υ) a w := by
  unfold Plan owes; rw [ho, ho', ho'']
  refine ⟨?_, ?_, ?_⟩
  · cases hn : needI ops R i
    · exact wpOne_mono (fun _ _ h => h.2) h
    · exact h
  · cases hn : needI ops R j
    · exact wpOne_mono (fun _ _ h => h.2) h'
    · exact h'
  · cases hn : needI ops R k
    · exact wpOne_mono (fun _ _ h => h.2) h''
    · exact h''
/-- behind an act that owes nothing -/
theorem plan_done (h : Plan P ops I R K σ a w) : wpList P ops (Exit.then (fun a w => Plan P ops I R K σ a w) fun _ _ _ => False) [] a w := h
/-- behind an act -/
theorem plan_next (hI : I w) (h : Plan P ops I R K σ a w) : wpList P ops (Exit.then (fun a w => I w ∧ Plan P ops I R K σ a w) fun _ _ _ => False) [] a w := ⟨hI, h⟩
theorem plan_read {i : Nat} {o : Oper} (ho : ops[i]? = some o) (v : Value) (hw : Region.wanted o (yielded ops a.tmps) = true) (hy : ∀ w, I w → (execOp a.eval o).run P w = .ok (.value v) w) (h : Plan P ops I R K σ (a.put o.dst v) w) : Plan P ops I R K (.read i σ) a w := by
  unfold Plan; rw [ho]; exact ⟨v, .inl ⟨hw, hy⟩, h⟩
theorem plan_skip {i : Nat} {o : Oper} (ho : ops[i]? = some o) (hw : Region.wanted o (yielded ops a.tmps) = false) (h : Plan P ops I R K σ (a.put o.dst undef) w) : Plan P ops I R K (.read i σ) a w := by
  unfold Plan; rw [ho]; exact ⟨undef, .inr ⟨hw, rfl⟩, h⟩
def plainT (P : Program) (t : TypeId) : Bool := match P.underlying t with | some (.struct _) => false | some (.array ..) => false | some _ => true | none => false
theorem exec_load {ρ : Operand → Value} {o : Oper} {t : TypeId} {x : Operand} {p : Addr} {v : Value} (ho : o.op = .load t x) (hx : ρ x = .pointer (some p)) (ht : plainT P t = true) (hc : w.cell? p = some v) : (execOp ρ o).run P w = .ok (.value v) w := by
  unfold plainT at ht
  split at ht <;> first | cases ht | skip
  rename_i d hd1 hd2 hu
  have hu : P.underlying t = some d := hu
  have e : (isAgg t).run P w = .ok false w := by
    unfold isAgg
    rw [Sem.run_bind, run_underlying hu]
    show Sem.run P (match d with | .struct _ => pure true | .array _ _ => pure true | _ => pure false) w = _
    cases d <;> first | rfl | exact absurd rfl (hd1 _) | exact absurd rfl (hd2 _ _)
  unfold execOp
  rw [ho]
  simp only [hx, Instr.loadAt, Instr.sureAddr, Sem.run_bind, Sem.run_pure, Result.andThen_ok, loadVar, e, Bool.false_eq_true, if_false, run_load, hc]
theorem exec_load_blk {ρ : Operand → Value} {o : Oper} {t e : TypeId} {x : Operand} {g : Nat} {cs : Array Value} {d : TypeDesc} (ho : o.op = .load t x) (hx : ρ x = .pointer (some ⟨g, 0, none⟩)) (hb : Blk w g e cs) (hu : P.underlying t = some d)
    (hd : (match d with | .struct _ | .array _ _ => true | _ => false) = true) (hi : (P.info? t).map (·.size) = some cs.size) : (execOp ρ o).run P w = .ok (.value (.agg cs)) w := by
  unfold execOp
  rw [ho]
  simp only [hx, Instr.loadAt, Instr.sureAddr, Sem.run_bind, Sem.run_pure, Result.andThen_ok, run_loadVar_row w g e t cs (0, 0) d hb hu hd hi]
theorem exec_build {ρ : Operand → Value} {o : Oper} {t : TypeId} {parts : Array (Nat × Operand)} {cells : Array Value} (ho : o.op = .build t parts) (h : P.built t (parts.map fun (i, x) => (i, ρ x)).toList = some cells) : (execOp ρ o).run P w = .ok (.value (.agg cells)) w := by
  unfold execOp
  rw [ho]
  show Sem.run P (do let v ← Instr.build t (parts.map fun (i, x) => (i, ρ x)); pure (Next.value v) : Sem Next) w = _
  rw [Sem.run_bind, run_build w t _ cells h]
  rfl
/-- an array that lies where a slice reads -/
theorem exec_load_rd {ρ : Operand → Value} {o : Oper} {t e : TypeId} {x : Operand} {p : Addr} {B n m : Nat} {xs : List Value} (ho : o.op = .load t x) (hx : ρ x = .pointer (some p)) (hr : Rd w B 1 (some p) n xs) (hm : m ≤ n) (hu : P.underlying t = some (.array m e))
    (hi : (P.info? t).map (·.size) = some m) : (execOp ρ o).run P w = .ok (.value (.agg (xs.take m).toArray)) w := by
  have hxl := hr.1
  rw [Nat.mul_one] at hxl
  have hl : (loadCells p m).run P w = .ok (xs.take m).toArray w := by
    have h := run_loadCells_list (P := P) w p (xs.take m) (fun j v hj => by
      rw [List.getElem?_take] at hj
      split at hj
      · obtain ⟨b, off, e, _, hc⟩ := hr.2.2 (by omega)
        injection e with e
        subst e
        rw [add_none]
        exact hc j v hj
      · cases hj)
    rwa [List.length_take, Nat.min_eq_left (by omega)] at h
  obtain ⟨i, hi1, hi2⟩ : ∃ i, P.info? t = some i ∧ i.size = m := by
    cases hc : P.info? t with
    | none => rw [hc] at hi; cases hi
    | some i => rw [hc] at hi; exact ⟨i, rfl, by simpa using hi⟩
  have hs : (sizeOf t).run P w = .ok m w := by
    have := run_sizeOf w hi1
    rw [this]
    congr 1
    simp [Program.cellsOf, hi1, hi2]
  have ha : (isAgg t).run P w = .ok true w := by
    unfold isAgg
    rw [Sem.run_bind, run_underlying hu]
    rfl
  unfold execOp
  rw [ho]
  simp only [hx, Instr.loadAt, Instr.sureAddr, Sem.run_bind, Sem.run_pure, Result.andThen_ok, loadVar, ha, if_true, hs, hl]
/-- a value that some plain operation comes to -/
theorem exec_bin {ρ : Operand → Value} {o : Oper} {op : BinOp} {t y : TypeId} {p q : Operand} {v : Value} (ho : o.op = .binOp op t p q y) (h : (do eqGuard op t p q (ρ p) (ρ q); binOp op t (ρ p) (ρ q) : Sem Value).run P w = .ok v w) : (execOp ρ o).run P w = .ok (.value v) w := by
  unfold execOp
  rw [ho]
  show Sem.run P (do let v ← (do eqGuard op t p q (ρ p) (ρ q); binOp op t (ρ p) (ρ q) : Sem Value); pure (Next.value v) : Sem Next) w = _
  rw [Sem.run_bind, h]
  rfl
end
end Go.Proofs.Ytedjolkkidciiaa

namespace Go.Proofs.Ytedjolkkidciiaa
open Go.RowKit Go.MapKept Go.Maps
open Go.ChangeMaps (setBlock modify_eq_set)

/-- what a map's block holds: pairs, in no order -/
def Mp (P : Program) (k : TypeId) (w : World) (b : Nat) (L : List (Value × Value)) : Prop :=
  ∃ es clock, w.heap[b]? = some (.map es clock) ∧ Stamped es clock ∧ (∀ x ∈ es.toList, ∃ l, keyOf P k x.key = some l) ∧ (es.toList.map fun x => (x.key, x.val)).Perm L

open Classical in
noncomputable def putV (key val : Value) (L : List (Value × Value)) : List (Value × Value) := (key, val) :: L.filter (fun p => decide (p.1 ≠ key))

theorem nodup_snd {γ δ : Type} : ∀ {D : List (γ × δ)}, (D.map (·.1)).Nodup → ∀ {x : γ} {y y' : δ}, (x, y) ∈ D → (x, y') ∈ D → y = y'
  | [], _, _, _, _, h, _ => by simp at h
  | p :: D, hn, x, y, y', h, h' => by
    rw [List.map_cons, List.nodup_cons] at hn
    rcases List.mem_cons.1 h with rfl | g
    · rcases List.mem_cons.1 h' with g' | g'
      · exact (Prod.mk.inj g').2.symm
      · exact absurd (List.mem_map.2 ⟨(x, y'), g', rfl⟩) hn.1
    · rcases List.mem_cons.1 h' with e | g'
      · subst e; exact absurd (List.mem_map.2 ⟨(x, y), g, rfl⟩ : x ∈ D.map (·.1)) hn.1
      · exact nodup_snd hn.2 g g'
section
variable {P : Program} {k t e : TypeId} {w : World} {b : Nat} {L : List (Value × Value)}

theorem Mp.new (w : World) (P : Program) (k : TypeId) : Mp P k (w.alloc (.map #[] 0)) w.heap.size [] :=
  ⟨#[], 0, (MapKept.heap_alloc w _).1, stamped_empty 0, by simp, by simp⟩
theorem Mp.lt (h : Mp P k w b L) : b < w.heap.size := by
  obtain ⟨es, c, hb, _⟩ := h
  exact (Array.getElem?_eq_some_iff.1 hb).1
theorem Mp.perm (h : Mp P k w b L) {L' : List (Value × Value)} (hp : L.Perm L') : Mp P k w b L' := by
  obtain ⟨es, c, hb, hs, hk, hl⟩ := h
  exact ⟨es, c, hb, hs, hk, hl.trans hp⟩
theorem Mp.of_block {w' : World} (h : Mp P k w b L) (hb : w'.heap[b]? = w.heap[b]?) : Mp P k w' b L := by
  obtain ⟨es, c, hb', hs⟩ := h
  exact ⟨es, c, hb.trans hb', hs⟩
theorem Mp.alloc (h : Mp P k w b L) (o : Obj) : Mp P k (w.alloc o) b L := h.of_block (Below.heap_alloc _ _ _ h.lt)
theorem Mp.setCell (h : Mp P k w b L) {p : Addr} (hp : b ≠ p.block) (v : Value) : Mp P k (w.setCell p v) b L := h.of_block (Below.heap_setCell _ _ _ _ hp)
theorem Mp.below (h : Mp P k w b L) {B : Nat} {w' : World} (hb : Below B w w') (hlt : b < B) : Mp P k w' b L := h.of_block (hb.block b hlt)
theorem Mp.nodup (h : Mp P k w b L) : (L.map (·.1)).Nodup := by
  obtain ⟨es, c, _, hs, _, hl⟩ := h
  have := hs.2.2
  refine (hl.map (·.1)).nodup_iff.1 ?_
  simpa [List.map_map, Function.comp_def] using this
theorem setBlock_heap {w : World} {b : Nat} {o : Obj} (h : b < w.heap.size) : (setBlock w b o).heap[b]? = some o := by
  simp [setBlock, h]
theorem setBlock_other {w : World} {b j : Nat} {o : Obj} (h : j ≠ b) : (setBlock w b o).heap[j]? = w.heap[j]? := by
  simp [setBlock, h.symm]
theorem setBlock_size (w : World) (b : Nat) (o : Obj) : (setBlock w b o).heap.size = w.heap.size := by simp [setBlock]
theorem setBlock_below {w0 w : World} {B b : Nat} (h : Below B w0 w) (hB : B ≤ b) (o : Obj) : Below B w0 (setBlock w b o) :=
  h.trans ⟨rfl, rfl, rfl, by simp [setBlock], fun j hj => setBlock_other (by omega)⟩
theorem setBlock_same {w : World} {b : Nat} {o : Obj} (h : w.heap[b]? = some o) : setBlock w b o = w := by
  unfold setBlock
  obtain ⟨hl, he⟩ := Array.getElem?_eq_some_iff.1 h
  have : w.heap.setIfInBounds b o = w.heap := by
    apply Array.ext (by simp)
    intro i h1 h2
    rw [Array.getElem_setIfInBounds]
    split
    · rename_i e; subst e; exact he.symm
    · rfl
  rw [this]

/-- a lookup -/
theorem Mp.look (h : Mp P k w b L) (K : Keyed P k) (ht : P.underlying t = some (.map k e)) {z : Value} (hz : (zeroValue e).run P w = .ok z w) {key : Value} {kl : Lit} (hkey : keyOf P k key = some kl) (c : Bool) :
    ((∀ v, (key, v) ∉ L) ∧ (Instr.lookup t (.map (some b)) key c).run P w = .ok (if c then .tuple #[z, .bool false] else z) w) ∨
    ∃ v, (key, v) ∈ L ∧ (Instr.lookup t (.map (some b)) key c).run P w = .ok (if c then .tuple #[v, .bool true] else v) w := by
  obtain ⟨es, clock, hb, hs, hk, hl⟩ := h
  rcases K.find w hkey es.toList hk with ⟨h1, h2⟩ | ⟨j, e0, h1, h2, h3⟩
  · refine Or.inl ⟨fun v hv => ?_, by simp [Instr.lookup, run_underlying ht, MapKept.run_getObj_map hb, K.check w _ hkey, h1, hz, Result.andThen]⟩
    obtain ⟨x, hx, he⟩ := List.mem_map.1 (hl.mem_iff.2 hv)
    injection he with he _
    exact h2 x hx he
  · refine Or.inr ⟨e0.val, hl.mem_iff.1 (List.mem_map.2 ⟨e0, List.mem_of_getElem? h2, by rw [h3]⟩), by simp [Instr.lookup, run_underlying ht, MapKept.run_getObj_map hb, K.check w _ hkey, h1, Result.andThen]⟩

theorem Mp.len (h : Mp P k w b L) (ht : P.underlying t = some (.map k e)) (ty : TypeId) : (Builtin.len_ #[t] ty #[.map (some b)]).run P w = .ok (.int .i64 L.length) w := by
  obtain ⟨es, clock, hb, hs, hk, hl⟩ := h
  have : es.size = L.length := by rw [← hl.length_eq]; simp
  rw [← this]
  simp [Builtin.len_, run_underlying ht, MapKept.run_getObj_map hb, Result.andThen]
  rfl

open Classical in
theorem putV_nodup {key val : Value} (h : (L.map (·.1)).Nodup) : ((putV key val L).map (·.1)).Nodup := by
  unfold putV
  rw [List.map_cons, List.nodup_cons]
  refine ⟨?_, h.sublist (List.filter_sublist.map _)⟩
  intro hm
  obtain ⟨p, hp, he⟩ := List.mem_map.1 hm
  have := (List.mem_filter.1 hp).2
  simp at this
  exact this he

open Classical in
theorem pairs_set {es : Array MapEntry} {clock : Nat} (hs : Stamped es clock) {j : Nat} {e0 e1 : MapEntry} (hj : es.toList[j]? = some e0) :
    ((es.toList.set j e1).map fun x => (x.key, x.val)).Perm ((e1.key, e1.val) :: (es.toList.map fun x => (x.key, x.val)).filter (fun p => decide (p.1 ≠ e0.key))) := by
  have hjl : j < es.toList.length := (List.getElem?_eq_some_iff.1 hj).1
  have h1 : (es.toList.map fun x => (x.key, x.val)).filter (fun p => decide (p.1 ≠ e0.key)) = (es.toList.eraseIdx j).map fun x => (x.key, x.val) := by
    rw [List.filter_map]
    congr 1
    have hn := hs.2.2
    have he : e0 = es.toList[j] := by rw [List.getElem?_eq_getElem hjl] at hj; injection hj with hj; exact hj.symm
    generalize es.toList = l at *
    clear hj hs
    induction l generalizing j with
    | nil => simp at hjl
    | cons x r ih =>
      rw [List.map_cons, List.nodup_cons] at hn
      cases j with
      | zero =>
        simp only [List.getElem_cons_zero] at he
        subst he
        rw [List.filter_cons]
        simp only [Function.comp_apply, ne_eq, not_true_eq_false, decide_false, Bool.false_eq_true, if_false, List.eraseIdx_cons_zero]
        refine List.filter_eq_self.2 fun y hy => ?_
        simp only [Function.comp_apply, decide_eq_true_eq]
        intro e
        exact hn.1 (List.mem_map.2 ⟨y, hy, e⟩)
      | succ j =>
        simp only [List.getElem_cons_succ] at he
        rw [List.filter_cons, List.eraseIdx_cons_succ]
        have : x.key ≠ e0.key := by
          intro e
          refine hn.1 (List.mem_map.2 ⟨e0, ?_, e.symm⟩)
          rw [he]
          exact List.getElem_mem _
        rw [if_pos (by simpa using this)]
        congr 1
        exact ih (by simpa using hjl) hn.2 he
  rw [h1, ← List.map_cons (f := fun x : MapEntry => (x.key, x.val))]
  exact (List.Perm.map _ (ChangeMaps.set_perm _ _ hjl e1))

open Classical in
/-- a store -/
theorem Mp.store (h : Mp P k w b L) (K : Keyed P k) (ht : P.underlying t = some (.map k e)) {key : Value} {kl : Lit} (hkey : keyOf P k key = some kl) (val : Value) :
    ∃ o, (Instr.mapUpdate t (.map (some b)) key val).run P w = .ok () (setBlock w b o) ∧ Mp P k (setBlock w b o) b (putV key val L) := by
  have hlt := h.lt
  obtain ⟨es, clock, hb, hs, hk, hl⟩ := h
  rcases K.find w hkey es.toList hk with ⟨h1, h2⟩ | ⟨j, e0, h1, h2, h3⟩
  · refine ⟨.map (es.push ⟨key, val, clock⟩) (clock + 1), by simp [Instr.mapUpdate, run_underlying ht, MapKept.run_getObj_map hb, K.check w false hkey, h1, MapKept.run_setObj_map _ hb, Result.andThen, setBlock], _, _, setBlock_heap hlt, stamped_push hs h2, ?_, ?_⟩
    · intro x hx
      simp only [Array.toList_push, List.mem_append, List.mem_singleton] at hx
      rcases hx with hx | rfl
      · exact hk x hx
      · exact ⟨_, hkey⟩
    · rw [Array.toList_push, List.map_append, List.map_singleton]
      refine (List.perm_append_singleton _ _).trans (List.Perm.cons _ ?_)
      rw [List.filter_eq_self.2]
      · exact hl
      · intro p hp
        obtain ⟨x, hx, he⟩ := List.mem_map.1 (hl.mem_iff.2 hp)
        have := h2 x hx
        rw [← he]
        simpa using this
  · have hj : es[j]? = some e0 := by simpa using h2
    have hlist : (es.modify j (fun e' => { e' with key := key, val := val })).toList = es.toList.set j { e0 with key := key, val := val } := by rw [Array.toList_modify, modify_eq_set _ _ _ _ h2]
    refine ⟨.map (es.modify j (fun e' => { e' with key := key, val := val })) clock, by simp [Instr.mapUpdate, run_underlying ht, MapKept.run_getObj_map hb, K.check w false hkey, h1, hj, h3, K.stays w hkey, MapKept.run_setObj_map _ hb, Result.andThen, setBlock], _, _, setBlock_heap hlt,
      stamped_modify hs _ _ (fun _ _ => rfl) (fun e' _ he' => by rw [hj] at he'; cases he'; exact h3.symm), ?_, ?_⟩
    · intro x hx
      rw [hlist] at hx
      rcases List.mem_or_eq_of_mem_set hx with hx | rfl
      · exact hk x hx
      · exact ⟨_, hkey⟩
    · rw [hlist]
      refine (pairs_set hs h2).trans ?_
      unfold putV
      rw [h3]
      exact List.Perm.cons _ (hl.filter _)

open Classical in
/-- an entry: what it holds (nought where it was not there), then what is stored there, in any world in which the block is as it was left -/
theorem Mp.entry (h : Mp P k w b L) (K : Keyed P k) (ht : P.underlying t = some (.map k e)) {z : Value} (hz : (zeroValue e).run P w = .ok z w) {key : Value} {kl : Lit} (hkey : keyOf P k key = some kl) :
    ∃ (o : Obj) (st : Nat) (v : Value), (((∀ v, (key, v) ∉ L) ∧ v = z) ∨ (key, v) ∈ L) ∧ (Instr.mapEntry t (.map (some b)) key).run P w = .ok (.tuple #[v, .int .i64 (st : Int)]) (setBlock w b o) ∧
      (Mp P k (setBlock w b o) b (putV key v L)) ∧
      ∀ (W : World), W.heap[b]? = some o → ∀ x, ∃ o2, (Instr.entryStore t (.map (some b)) (.int .i64 (st : Int)) x).run P W = .ok () (setBlock W b o2) ∧ Mp P k (setBlock W b o2) b (putV key x L) := by
  have hlt := h.lt
  obtain ⟨es, clock, hb, hs, hk, hl⟩ := h
  -- what a store at a stamp does
  have fin : ∀ (es1 : Array MapEntry) (clock1 : Nat), Stamped es1 clock1 → (∀ x ∈ es1.toList, ∃ l, keyOf P k x.key = some l) → ∀ (j : Nat) (e0 : MapEntry), es1.toList[j]? = some e0 → e0.key = key →
      (∀ p ∈ es1.toList.map (fun x => (x.key, x.val)), p.1 ≠ key → p ∈ L) → ((es1.toList.map fun x => (x.key, x.val)).filter (fun p => decide (p.1 ≠ key))).Perm (L.filter (fun p => decide (p.1 ≠ key))) →
      ∀ (W : World), W.heap[b]? = some (.map es1 clock1) → ∀ x, ∃ o2, (Instr.entryStore t (.map (some b)) (.int .i64 (e0.born : Int)) x).run P W = .ok () (setBlock W b o2) ∧ Mp P k (setBlock W b o2) b (putV key x L) := by
    intro es1 clock1 hs1 hk1 j e0 hj h3 _ hp W hW x
    have hjl : j < es1.toList.length := (List.getElem?_eq_some_iff.1 hj).1
    have hja : es1[j]? = some e0 := by simpa using hj
    have hfi : es1.findIdx? (fun e => (e.born : Int) == (e0.born : Int)) = some j := by
      rw [Array.findIdx?_eq_some_iff_getElem]
      have hjs : j < es1.size := by simpa using hjl
      have hej : es1[j] = e0 := by rw [Array.getElem?_eq_getElem hjs] at hja; injection hja
      refine ⟨hjs, by simp [hej], fun i hi => ?_⟩
      intro hbn
      have hn := hs1.2.1
      have hi2 : i < es1.toList.length := by omega
      rw [List.Nodup, List.pairwise_map, List.pairwise_iff_getElem] at hn
      have := hn i j hi2 hjl hi
      simp only [Array.getElem_toList] at this
      rw [hej] at this
      simp at hbn
      exact this (by exact_mod_cast hbn)
    have hlist : (es1.modify j (fun e' => { e' with val := x })).toList = es1.toList.set j { e0 with val := x } := by rw [Array.toList_modify, modify_eq_set _ _ _ _ hj]
    refine ⟨.map (es1.modify j (fun e' => { e' with val := x })) clock1, by simp [Instr.entryStore, MapKept.run_getObj_map hW, hfi, asInt, asIntOf, MapKept.run_setObj_map _ hW, Result.andThen, setBlock], _, _, setBlock_heap (Array.getElem?_eq_some_iff.1 hW).1,
      stamped_modify hs1 _ _ (fun _ _ => rfl) (fun _ _ _ => rfl), ?_, ?_⟩
    · intro y hy
      rw [hlist] at hy
      rcases List.mem_or_eq_of_mem_set hy with hy | rfl
      · exact hk1 y hy
      · exact ⟨_, by rw [h3]; exact hkey⟩
    · rw [hlist]
      refine (pairs_set hs1 hj).trans ?_
      unfold putV
      rw [h3]
      exact List.Perm.cons _ hp
  rcases K.find w hkey es.toList hk with ⟨h1, h2⟩ | ⟨j, e0, h1, h2, h3⟩
  · have hkeys : ∀ x ∈ (es.push ⟨key, z, clock⟩).toList, ∃ l, keyOf P k x.key = some l := by
      intro x hx
      simp only [Array.toList_push, List.mem_append, List.mem_singleton] at hx
      rcases hx with hx | rfl
      · exact hk x hx
      · exact ⟨_, hkey⟩
    have hself : L.filter (fun p => decide (p.1 ≠ key)) = L := by
      refine List.filter_eq_self.2 fun p hp => ?_
      obtain ⟨x, hx, he⟩ := List.mem_map.1 (hl.mem_iff.2 hp)
      have := h2 x hx
      rw [← he]
      simpa using this
    have hself2 : (es.toList.map fun x => (x.key, x.val)).filter (fun p => decide (p.1 ≠ key)) = es.toList.map fun x => (x.key, x.val) := by
      refine List.filter_eq_self.2 fun p hp => ?_
      obtain ⟨x, hx, he⟩ := List.mem_map.1 hp
      have := h2 x hx
      rw [← he]
      simpa using this
    refine ⟨.map (es.push ⟨key, z, clock⟩) (clock + 1), clock, z, Or.inl ⟨fun v hv => ?_, rfl⟩, by simp [Instr.mapEntry, run_underlying ht, MapKept.run_getObj_map hb, K.check w false hkey, h1, hz, MapKept.run_setObj_map _ hb, Result.andThen, setBlock, goInt], ⟨_, _, setBlock_heap hlt, stamped_push hs h2, hkeys, ?_⟩, ?_⟩
    · obtain ⟨x, hx, he⟩ := List.mem_map.1 (hl.mem_iff.2 hv)
      injection he with he _
      exact h2 x hx he
    · rw [Array.toList_push, List.map_append, List.map_singleton]
      refine (List.perm_append_singleton _ _).trans (List.Perm.cons _ ?_)
      rw [hself]
      exact hl
    · intro W hW x
      refine fin _ _ (stamped_push hs h2) hkeys es.toList.length ⟨key, z, clock⟩ (by simp) rfl ?_ ?_ W hW x
      · intro p hp hne
        simp only [Array.toList_push, List.map_append, List.map_singleton, List.mem_append, List.mem_singleton] at hp
        rcases hp with hp | rfl
        · exact hl.mem_iff.1 hp
        · exact absurd rfl hne
      · rw [Array.toList_push, List.map_append, List.map_singleton, List.filter_append, hself2, hself]
        simpa using hl
  · have hj : es[j]? = some e0 := by simpa using h2
    have hmod : es.modify j (fun e' => { e' with key := key }) = es := by
      apply Array.toList_inj.1
      rw [Array.toList_modify, modify_eq_set _ _ _ _ h2]
      have : ({ e0 with key := key } : MapEntry) = e0 := by rw [← h3]
      rw [this]
      exact List.ext_getElem? fun i => by
        rw [List.getElem?_set]
        split
        · rename_i e; subst e
          rw [if_pos (List.getElem?_eq_some_iff.1 h2).1, h2]
        · rfl
    have hm : (key, e0.val) ∈ L := hl.mem_iff.1 (List.mem_map.2 ⟨e0, List.mem_of_getElem? h2, by rw [h3]⟩)
    refine ⟨.map es clock, e0.born, e0.val, Or.inr hm, ?_, ?_, ?_⟩
    · have := hmod
      simp [Instr.mapEntry, run_underlying ht, MapKept.run_getObj_map hb, K.check w false hkey, h1, hj, h3, K.stays w hkey, MapKept.run_setObj_map _ hb, Result.andThen, setBlock, goInt, this]
    · rw [setBlock_same hb]
      refine Mp.perm ⟨es, clock, hb, hs, hk, hl⟩ ?_
      have hid : es.toList.set j e0 = es.toList := List.ext_getElem? fun i => by
        rw [List.getElem?_set]
        split
        · rename_i e; subst e
          rw [if_pos (List.getElem?_eq_some_iff.1 h2).1, h2]
        · rfl
      have := pairs_set (e1 := e0) hs h2
      rw [hid] at this
      refine hl.symm.trans (this.trans ?_)
      unfold putV
      rw [h3]
      exact List.Perm.cons _ (hl.filter _)
    · intro W hW x
      exact fin _ _ hs hk j e0 h2 h3 (fun p hp _ => hl.mem_iff.1 hp) (hl.filter _) W hW x
end

/-! ### maps of plain data: keys of type α, which ek writes as values (one to one on those that are Ok), values of type β -/
section
variable {α β : Type} [DecidableEq α]
def mput (a : α) (c : β) (D : List (α × β)) : List (α × β) := (a, c) :: D.filter (fun p => decide (p.1 ≠ a))
def mget (D : List (α × β)) (a : α) : Option β := (D.find? (fun p => decide (p.1 = a))).map (·.2)
theorem mget_put (a x : α) (c : β) (D : List (α × β)) : mget (mput a c D) x = if x = a then some c else mget D x := by
  unfold mget mput
  rw [List.find?_cons]
  by_cases h : x = a
  · subst h; simp
  · rw [if_neg h]
    have : decide (a = x) = false := by simpa using fun e => h e.symm
    rw [this]
    show Option.map _ ((D.filter fun p => decide (p.1 ≠ a)).find? fun p => decide (p.1 = x)) = _
    rw [List.find?_filter]
    congr 2
    funext p
    by_cases hp : p.1 = x
    · simp [hp, h]
    · simp [hp]
theorem mget_nil (a : α) : mget ([] : List (α × β)) a = none := rfl
theorem mget_some {D : List (α × β)} {a : α} {c : β} (h : mget D a = some c) : (a, c) ∈ D := by
  unfold mget at h
  cases hf : D.find? (fun p => decide (p.1 = a)) with
  | none => rw [hf] at h; cases h
  | some p =>
    rw [hf] at h
    have h1 := List.find?_some hf
    have h2 := List.mem_of_find?_eq_some hf
    simp only [decide_eq_true_eq] at h1
    simp only [Option.map_some, Option.some.injEq] at h
    obtain ⟨x, y⟩ := p
    subst h1; subst h
    exact h2
theorem mget_none {D : List (α × β)} {a : α} (h : mget D a = none) {c : β} : (a, c) ∉ D := by
  intro hm
  unfold mget at h
  cases hf : D.find? (fun p => decide (p.1 = a)) with
  | none => exact absurd (List.find?_eq_none.1 hf _ hm) (by simp)
  | some p => rw [hf] at h; cases h
theorem mem_mput {D : List (α × β)} {a x : α} {c y : β} : (x, y) ∈ mput a c D ↔ (x = a ∧ y = c) ∨ (x ≠ a ∧ (x, y) ∈ D) := by
  unfold mput
  simp only [List.mem_cons, Prod.mk.injEq, List.mem_filter, decide_eq_true_eq]
  exact ⟨fun h => h.elim .inl fun h => .inr ⟨h.2, h.1⟩, fun h => h.elim .inl fun h => .inr ⟨h.2, h.1⟩⟩
theorem mput_len (a : α) (c : β) (D : List (α × β)) : (mput a c D).length ≤ D.length + 1 := by
  unfold mput
  have := List.length_filter_le (fun p : α × β => decide (p.1 ≠ a)) D
  simp only [List.length_cons]
  omega

def Mt (P : Program) (k : TypeId) (w : World) (b : Nat) (Ok : α → Prop) (ek : α → Value) (ev : β → Value) (D : List (α × β)) : Prop := Mp P k w b (D.map fun p => (ek p.1, ev p.2)) ∧ ∀ p ∈ D, Ok p.1

variable {P : Program} {k t e : TypeId} {w : World} {b : Nat} {D : List (α × β)} {Ok : α → Prop} {ek : α → Value} {ev : β → Value}
omit [DecidableEq α] in
theorem Mt.new (w : World) (P : Program) (k : TypeId) : Mt P k (w.alloc (.map #[] 0)) w.heap.size Ok ek ev ([] : List (α × β)) := ⟨Mp.new w P k, by simp⟩
omit [DecidableEq α] in
theorem Mt.of_block {w' : World} (h : Mt P k w b Ok ek ev D) (hb : w'.heap[b]? = w.heap[b]?) : Mt P k w' b Ok ek ev D := ⟨h.1.of_block hb, h.2⟩
omit [DecidableEq α] in
theorem Mt.lt (h : Mt P k w b Ok ek ev D) : b < w.heap.size := h.1.lt
omit [DecidableEq α] in
theorem Mt.alloc (h : Mt P k w b Ok ek ev D) (o : Obj) : Mt P k (w.alloc o) b Ok ek ev D := ⟨h.1.alloc o, h.2⟩
omit [DecidableEq α] in
theorem Mt.setCell (h : Mt P k w b Ok ek ev D) {p : Addr} (hp : b ≠ p.block) (v : Value) : Mt P k (w.setCell p v) b Ok ek ev D := ⟨h.1.setCell hp v, h.2⟩
omit [DecidableEq α] in
theorem Mt.below (h : Mt P k w b Ok ek ev D) {B : Nat} {w' : World} (hb : Below B w w') (hlt : b < B) : Mt P k w' b Ok ek ev D := ⟨h.1.below hb hlt, h.2⟩
omit [DecidableEq α] in
theorem Mt.nodup (h : Mt P k w b Ok ek ev D) : (D.map (·.1)).Nodup := by
  have := h.1.nodup
  rw [List.map_map] at this
  rw [List.Nodup, List.pairwise_map] at this ⊢
  exact this.imp fun h e => h (by simp [e])
open Classical in
theorem mt_filter (hinj : ∀ x y, Ok x → Ok y → ek x = ek y → x = y) (hD : ∀ p ∈ D, Ok p.1) {a : α} (ha : Ok a) (c : β) :
    putV (ek a) (ev c) (D.map fun p => (ek p.1, ev p.2)) = (mput a c D).map fun p => (ek p.1, ev p.2) := by
  unfold putV mput
  rw [List.map_cons, List.filter_map]
  congr 2
  refine List.filter_congr fun p hp => ?_
  simp only [Function.comp_apply]
  by_cases h : p.1 = a
  · simp [h]
  · have : ek p.1 ≠ ek a := fun e => h (hinj _ _ (hD p hp) ha e)
    simp [h, this]
theorem mput_ok (hD : ∀ p ∈ D, Ok p.1) {a : α} (ha : Ok a) (c : β) : ∀ p ∈ mput a c D, Ok p.1 := by
  intro p hp
  unfold mput at hp
  rcases List.mem_cons.1 hp with rfl | hp
  · exact ha
  · exact hD p (List.mem_filter.1 hp).1
theorem Mt.look (h : Mt P k w b Ok ek ev D) (hinj : ∀ x y, Ok x → Ok y → ek x = ek y → x = y) (K : Keyed P k) (ht : P.underlying t = some (.map k e)) {z : Value} (hz : (zeroValue e).run P w = .ok z w) {a : α} (ha : Ok a) {kl : Lit} (hkey : keyOf P k (ek a) = some kl) (c : Bool) :
    (Instr.lookup t (.map (some b)) (ek a) c).run P w = .ok (if c then .tuple #[((mget D a).map ev).getD z, .bool (mget D a).isSome] else ((mget D a).map ev).getD z) w := by
  rcases h.1.look K ht hz hkey c with ⟨hn, hr⟩ | ⟨v, hm, hr⟩
  · have : mget D a = none := by
      cases hg : mget D a with
      | none => rfl
      | some y => exact absurd (List.mem_map.2 ⟨_, mget_some hg, rfl⟩) (hn (ev y))
    rw [this]
    exact hr
  · obtain ⟨⟨x, y⟩, hx, he⟩ := List.mem_map.1 hm
    injection he with h1 h2
    have hxa := hinj _ _ (h.2 _ hx) ha h1
    dsimp only at hxa h2
    subst hxa
    have : mget D x = some y := by
      cases hg : mget D x with
      | none => exact absurd hx (mget_none hg)
      | some y' => rw [nodup_snd h.nodup (mget_some hg) hx]
    rw [this]
    rw [← h2] at hr
    exact hr
omit [DecidableEq α] in
theorem Mt.len (h : Mt P k w b Ok ek ev D) (ht : P.underlying t = some (.map k e)) (ty : TypeId) : (Builtin.len_ #[t] ty #[.map (some b)]).run P w = .ok (.int .i64 D.length) w := by
  rw [h.1.len ht ty, List.length_map]
theorem Mt.store (h : Mt P k w b Ok ek ev D) (hinj : ∀ x y, Ok x → Ok y → ek x = ek y → x = y) (K : Keyed P k) (ht : P.underlying t = some (.map k e)) {a : α} (ha : Ok a) {kl : Lit} (hkey : keyOf P k (ek a) = some kl) (c : β) :
    ∃ o, (Instr.mapUpdate t (.map (some b)) (ek a) (ev c)).run P w = .ok () (setBlock w b o) ∧ Mt P k (setBlock w b o) b Ok ek ev (mput a c D) := by
  obtain ⟨o, hr, hm⟩ := h.1.store K ht hkey (ev c)
  rw [mt_filter hinj h.2 ha c] at hm
  exact ⟨o, hr, hm, mput_ok h.2 ha c⟩
theorem Mt.entry (h : Mt P k w b Ok ek ev D) (hinj : ∀ x y, Ok x → Ok y → ek x = ek y → x = y) (K : Keyed P k) (ht : P.underlying t = some (.map k e)) {z : Value} (hz : ∀ W : World, (zeroValue e).run P W = .ok z W) {a : α} (ha : Ok a) {kl : Lit} (hkey : keyOf P k (ek a) = some kl) :
    ∃ (o : Obj) (st : Nat), (Instr.mapEntry t (.map (some b)) (ek a)).run P w = .ok (.tuple #[((mget D a).map ev).getD z, .int .i64 (st : Int)]) (setBlock w b o) ∧ b < w.heap.size ∧
      (∀ (W : World), W.heap[b]? = some o → (Instr.lookup t (.map (some b)) (ek a) false).run P W = .ok (((mget D a).map ev).getD z) W) ∧
      ∀ (W : World), W.heap[b]? = some o → ∀ c, ∃ o2, (Instr.entryStore t (.map (some b)) (.int .i64 (st : Int)) (ev c)).run P W = .ok () (setBlock W b o2) ∧ Mt P k (setBlock W b o2) b Ok ek ev (mput a c D) := by
  obtain ⟨o, st, v, hv, hr, hm1, hs⟩ := h.1.entry K ht (hz w) hkey
  have hve : v = ((mget D a).map ev).getD z := by
    rcases hv with ⟨hn, hvz⟩ | hm
    · have : mget D a = none := by
        cases hg : mget D a with
        | none => rfl
        | some y => exact absurd (List.mem_map.2 ⟨_, mget_some hg, rfl⟩) (hn (ev y))
      rw [this, hvz]
      rfl
    · have hl := h.look hinj K ht (hz w) ha hkey false
      rcases h.1.look K ht (hz w) hkey false with ⟨hn, _⟩ | ⟨v2, hm2, hr2⟩
      · exact absurd hm (hn v)
      · have : v2 = v := nodup_snd h.1.nodup hm2 hm
        subst this
        have h9 := hl.symm.trans hr2
        have := congrArg (fun r : Result Value => match r with | .ok v _ => v | .halt _ _ => z) h9
        exact this.symm
  subst hve
  refine ⟨o, st, hr, h.lt, fun W hW => ?_, fun W hW c => ?_⟩
  · have hmW : Mp P k W b (putV (ek a) (((mget D a).map ev).getD z) (D.map fun p => (ek p.1, ev p.2))) := hm1.of_block (hW.trans (setBlock_heap h.lt).symm)
    rcases hmW.look K ht (hz W) hkey false with ⟨hn, _⟩ | ⟨v2, hm2, hr2⟩
    · exact absurd (by unfold putV; exact List.mem_cons_self) (hn (((mget D a).map ev).getD z))
    · rw [nodup_snd hmW.nodup hm2 (by unfold putV; exact List.mem_cons_self)] at hr2
      exact hr2
  · obtain ⟨o2, hr2, hm⟩ := hs W hW (ev c)
    rw [mt_filter hinj h.2 ha c] at hm
    exact ⟨o2, hr2, hm, mput_ok h.2 ha c⟩
end
end Go.Proofs.Ytedjolkkidciiaa

namespace Go.Proofs.Ytedjolkkidciiaa
open Go.RowKit
open Go.ChangeMaps (setBlock)
section
variable {P : Program} {ops : Array Oper} {rest : List Oper} {o : Oper} {a : Act} {w w' : World} {Q : Exit → Act → World → Prop}
theorem wpList_value {v : Value} (hw : Region.wanted o (yielded ops a.tmps) = true) (he : (execOp a.eval o).run P w = .ok (.value v) w') (h : wpList P ops Q rest (a.put o.dst v) w') : wpList P ops Q (o :: rest) a w := by
  unfold wpList
  rw [if_pos hw]
  refine Or.inl ?_
  unfold Oper.wp
  rw [he]
  exact h
theorem wpList_skip (hw : Region.wanted o (yielded ops a.tmps) = true) (he : (execOp a.eval o).run P w = .ok .skip w') (h : wpList P ops Q rest (a.put o.dst undef) w') : wpList P ops Q (o :: rest) a w := by
  unfold wpList
  rw [if_pos hw]
  refine Or.inl ?_
  unfold Oper.wp
  rw [he]
  exact h
theorem wpList_wanted (hw : Region.wanted o (yielded ops a.tmps) = true) (h : ∀ K : Act → World → Prop, (∀ a w, wpList P ops Q rest a w → K a w) → o.wp P a w K Q) : wpList P ops Q (o :: rest) a w := by
  unfold wpList
  rw [if_pos hw]
  exact Or.inl (h _ fun _ _ h => h)
theorem exec_lookup {ρ : Operand → Value} {t : TypeId} {m x : Operand} {c : Bool} {v : Value} (ho : o.op = .lookup t m x c) (h : (Instr.lookup t (ρ m) (ρ x) c).run P w = .ok v w') : (execOp ρ o).run P w = .ok (.value v) w' := by
  unfold execOp; rw [ho]; simp only [Sem.run_bind, h, Result.andThen_ok, Sem.run_pure]
theorem exec_make {ρ : Operand → Value} {t : TypeId} {x y : Operand} {v : Value} (ho : o.op = .makeSlice t x y) (h : (Instr.makeSlice t (ρ x) (ρ y)).run P w = .ok v w') : (execOp ρ o).run P w = .ok (.value v) w' := by
  unfold execOp; rw [ho]; simp only [Sem.run_bind, h, Result.andThen_ok, Sem.run_pure]
theorem exec_entry {ρ : Operand → Value} {t : TypeId} {m x : Operand} {v : Value} (ho : o.op = .mapEntry t m x) (h : (Instr.mapEntry t (ρ m) (ρ x)).run P w = .ok v w') : (execOp ρ o).run P w = .ok (.value v) w' := by
  unfold execOp; rw [ho]; simp only [Sem.run_bind, h, Result.andThen_ok, Sem.run_pure]
theorem exec_update {ρ : Operand → Value} {t : TypeId} {m x y : Operand} (ho : o.op = .mapUpdate t m x y) (h : (Instr.mapUpdate t (ρ m) (ρ x) (ρ y)).run P w = .ok () w') : (execOp ρ o).run P w = .ok .skip w' := by
  unfold execOp; rw [ho]; simp only [Sem.run_bind, h, Result.andThen_ok, Sem.run_pure]
theorem exec_insert {ρ : Operand → Value} {t : TypeId} {m x y : Operand} (ho : o.op = .insert t m x y) (h : (Instr.mapUpdate t (ρ m) (ρ x) (ρ y)).run P w = .ok () w') : (execOp ρ o).run P w = .ok .skip w' := by
  unfold execOp; rw [ho]; simp only [Sem.run_bind, h, Result.andThen_ok, Sem.run_pure]
theorem exec_estore {ρ : Operand → Value} {t : TypeId} {m x y : Operand} (ho : o.op = .entryStore t m x y) (h : (Instr.entryStore t (ρ m) (ρ x) (ρ y)).run P w = .ok () w') : (execOp ρ o).run P w = .ok .skip w' := by
  unfold execOp; rw [ho]; simp only [Sem.run_bind, h, Result.andThen_ok, Sem.run_pure]
end
end Go.Proofs.Ytedjolkkidciiaa

namespace Go.Proofs.Ytedjolkkidciiaa
open Go.RowKit

section
variable {P : Program} {t e : TypeId} {z : Value} {size bytes : Nat}

theorem run_append_keep (w : World) (base : Nat) (ty : TypeId) (E : Elt P t e z size bytes)
    (v : Value) (n : Nat) (xs : List Value) (hown : w.ownsRow base e size v n xs)
    (a : Addr) (m c : Nat) (news : List Value) (hl : news.length = m * size) (hnews : ∀ j u, news[j]? = some u → w.cell? (a.add j) = some u) (h1 : ∀ u ∈ news, u.oneCell' = true)
    (h63 : n + m ≤ maxLen) (hbytes : (n + m) * bytes ≤ 140737488355328) (hbase : base ≤ w.heap.size) :
    ∃ v' w', (Builtin.append_ #[t, t] ty #[v, .slice (some a) m c]).run P w = .ok v' w' ∧ w'.ownsRow base e size v' (n + m) (xs ++ news) ∧ w.grownBy w' v.ownBlock ∧
      w'.ownsRow base e size v n xs ∧ (v'.ownBlock = v.ownBlock ∨ v'.ownBlock = some w.heap.size) := by
  obtain ⟨i, hi, hz, hsize, hby⟩ := info_parts E.info
  have ht := E.ht
  have hzs := E.hzs
  subst hsize
  subst hby
  have hsmall : n + m ≤ 9223372036854775807 := by simp only [maxLen] at h63; omega
  have hlen : (xs ++ news).length = (n + m) * i.size := by rw [List.length_append, hown.1, hl, Nat.add_mul]
  have grown : ∀ (old : Nat), old < n + m → ∀ (row : Option Nat),
      (w.drew.alloc (.cells (xs.toArray ++ news.toArray ++ Builtin.zeroCells z.cells (grownCap w (n + m) old e - (n + m))) e)).ownsRow base e i.size
        (.slice (some ⟨w.heap.size, 0, none⟩) (n + m) (grownCap w (n + m) old e)) (n + m) (xs ++ news) ∧
      w.grownBy (w.drew.alloc (.cells (xs.toArray ++ news.toArray ++ Builtin.zeroCells z.cells (grownCap w (n + m) old e - (n + m))) e)) row := by
    intro old ho row
    have hge := grownCap_ge w (n + m) old e
    have hcm : grownCap w (n + m) old e ≤ maxLen := grownCap_le_maxLen w (n + m) old e h63
    refine ⟨⟨hlen, .inr ⟨w.heap.size, _, _, rfl, hbase, heap_alloc_new w.drew _, hge, hcm, ?_, ?_⟩⟩, ⟨rfl, rfl, rfl, by simp, fun k hk _ => Below.heap_alloc w.drew _ k hk⟩⟩
    · simp only [Array.size_append, List.size_toArray, size_zeroCells, hzs, hown.1, hl, ← Nat.add_mul]
      congr 1
      omega
    · simp only [Array.toList_append, List.append_assoc]
      rw [← List.append_assoc, ← hlen]
      exact List.take_left
  have hownd : w.drew.ownsRow base e i.size v n xs := hown
  rcases hown.2 with ⟨rfl, rfl⟩ | ⟨g, cap, cur, rfl, hbg, hg, hnc, hcm, hcs, htake⟩
  · have hx : xs = [] := List.eq_nil_of_length_eq_zero (by simpa using hown.1)
    subst hx
    by_cases hm : m = 0
    · subst hm
      have hn : news = [] := List.eq_nil_of_length_eq_zero (by simpa using hl)
      subst hn
      refine ⟨.slice none 0 0, w, ?_, World.ownsRow_nil w base e i.size, ⟨rfl, rfl, rfl, Nat.le_refl _, fun _ _ _ => rfl⟩, World.ownsRow_nil w base e i.size, Or.inl rfl⟩
      simp [Builtin.append_, run_underlying ht, sizeOf, typeInfo, hi, Builtin.lenOf, Builtin.firstCells, loadCells, loadCellsFrom]
    · have hr := run_append_nil (P := P) w t ty e i z ht hi hz a m c news hl hnews (by omega) (by omega) (by have hb := hbytes; simp only [Nat.zero_add] at hb; omega)
      have hgr := grown 0 (by omega) (Value.ownBlock (.slice none 0 0))
      simp only [Nat.zero_add, List.nil_append, Array.empty_append] at hgr ⊢
      exact ⟨_, _, hr, hgr.1, hgr.2, World.ownsRow_nil _ base e i.size, Or.inr rfl⟩
  · by_cases hroom : n + m ≤ cap
    · have hfit : n * i.size + news.length ≤ cur.size := by rw [hl, hcs, ← Nat.add_mul]; exact Nat.mul_le_mul_right _ hroom
      have hr := run_append_room (P := P) w t ty e i ht hi g n cap cur hg a m c news hl hnews h1 hroom hfit
      have hsz : (List.take (n * i.size) cur.toList).length = n * i.size := by rw [htake]; exact hown.1
      refine ⟨_, _, hr, ⟨hlen, .inr ⟨g, cap, _, rfl, hbg, setRow_heap w g cur _ e _ hg, hroom, hcm, ?_, ?_⟩⟩, ⟨rfl, rfl, rfl, by simp, fun k _ hk => setRow_other w g k _ (fun e => hk (by simp [Value.ownBlock, e]))⟩,
        ⟨hown.1, .inr ⟨g, cap, _, rfl, hbg, setRow_heap w g cur _ e _ hg, hnc, hcm, ?_, ?_⟩⟩, Or.inl rfl⟩
      · simp only [List.size_toArray, List.length_append, List.length_take, List.length_drop, Array.length_toList]
        omega
      · rw [htake, ← hlen]
        exact List.take_left
      · simp only [List.size_toArray, List.length_append, List.length_take, List.length_drop, Array.length_toList]
        omega
      · rw [htake]
        have := hown.1
        rw [List.append_assoc, ← this]
        exact List.take_left
    · have holds : ∀ j u, xs[j]? = some u → w.cell? ((⟨g, 0, none⟩ : Addr).add j) = some u := hown.cells (g := g) rfl
      have hr := run_append_grow (P := P) w t ty e i z ht hi hz ⟨g, 0, none⟩ n cap xs hown.1 holds a m c news hl hnews (by omega) (by omega) (growslice_fits (by omega) hbytes)
      have hgr := grown cap (by omega) (Value.ownBlock (.slice (some ⟨g, 0, none⟩) n cap))
      exact ⟨_, _, hr, hgr.1, hgr.2, hownd.alloc _, Or.inr rfl⟩

theorem run_append_rdK (E : Elt P t e z size bytes) (w : World) (base : Nat) (ty : TypeId)
    (v : Value) (n : Nat) (xs : List Value) (hown : w.ownsRow base e size v n xs)
    (B : Nat) (A : Option Addr) (m c : Nat) (news : List Value) (hr : Rd w B size A m news) (h1 : ∀ u ∈ news, u.oneCell' = true)
    (hn : (n + m) * bytes ≤ 140737488355328) (h63 : n + m ≤ maxLen) (hbase : base ≤ w.heap.size) :
    ∃ v' w', (Builtin.append_ #[t, t] ty #[v, .slice A m c]).run P w = .ok v' w' ∧ w'.ownsRow base e size v' (n + m) (xs ++ news) ∧ w.grownBy w' v.ownBlock ∧
      w'.ownsRow base e size v n xs ∧ (v'.ownBlock = v.ownBlock ∨ v'.ownBlock = some w.heap.size) := by
  obtain ⟨i, hi, hz, hsize, hby⟩ := info_parts E.info
  rcases A with _ | ad
  · have hm : m = 0 := by
      rcases Nat.eq_zero_or_pos m with h0 | h0
      · exact h0
      · obtain ⟨b, off, h, _⟩ := hr.2.2 h0
        cases h
    subst hm
    have hn : news = [] := List.eq_nil_of_length_eq_zero (by simpa using hr.1)
    subst hn
    exact ⟨v, w, run_append_of_nil w base ty i E.ht hi v n xs hown c, by simpa using hown, World.grownBy.refl w _, hown, .inl rfl⟩
  · have hcells : ∀ j u, news[j]? = some u → w.cell? (ad.add j) = some u := by
      intro j u hu
      rcases Nat.eq_zero_or_pos m with h0 | h0
      · subst h0
        have hn : news = [] := List.eq_nil_of_length_eq_zero (by simpa using hr.1)
        subst hn
        simp at hu
      · obtain ⟨b, off, h, _, hc⟩ := hr.2.2 h0
        injection h with h
        subst h
        rw [add_none]
        exact hc j u hu
    exact run_append_keep w base ty E v n xs hown ad m c news hr.1 hcells h1 h63 hn hbase

theorem wp_appK (E : Elt P t e z size bytes) {o : Oper} {a : Act} {K : Act → World → Prop} {Q : Exit → Act → World → Prop} (s x : Operand)
    (ho : o.op = .call { callee := .builtin .append, args := #[s, x], argTypes := #[t, t] }) {w w0 : World} {base : Nat}
    {v : Value} {n : Nat} {xs : List Value} (hs : a.eval s = v) (hown : w.ownsRow base e size v n xs)
    {B : Nat} {A : Option Addr} {m c : Nat} {news : List Value} (hx : a.eval x = .slice A m c) (hr : Rd w B size A m news) (h1 : ∀ u ∈ news, u.oneCell' = true)
    (hn : (n + m) * bytes ≤ 140737488355328) (h63 : n + m ≤ maxLen) (hb : Below base w0 w) (hB : base ≤ w.heap.size)
    (h : ∀ v' w', w'.ownsRow base e size v' (n + m) (xs ++ news) → w'.ownsRow base e size v n xs → Below base w0 w' → w.grownBy w' v.ownBlock → (v'.ownBlock = v.ownBlock ∨ v'.ownBlock = some w.heap.size) → K (a.put o.dst v') w') : o.wp P a w K Q := by
  obtain ⟨v', w', hrun, h2, h3, h4, h5⟩ := run_append_rdK E w base o.type v n xs hown B A m c news hr h1 hn h63 hB
  unfold Oper.wp execOp
  simp only [ho, resolve, invoke, builtin, Sem.run_bind, Sem.run_pure, Result.andThen_ok, List.map_toArray, List.map_cons, List.map_nil, hs, hx, hrun]
  exact h v' w' h2 h4 (below_of_grown hb hB hown h3) h3 h5

/-- append(out, xs...): the old slice reads on -/
theorem wpList_appK (E : Elt P t e z size bytes) {ops : Array Oper} {rest : List Oper} {o : Oper} {a : Act} {Q : Exit → Act → World → Prop} (hgd : o.guard = none) (s x : Operand)
    (ho : o.op = .call { callee := .builtin .append, args := #[s, x], argTypes := #[t, t] }) {w w0 : World} {base : Nat}
    {v : Value} {n : Nat} {xs : List Value} (hs : a.eval s = v) (hown : w.ownsRow base e size v n xs)
    {B : Nat} {A : Option Addr} {m c : Nat} {news : List Value} (hx : a.eval x = .slice A m c) (hr : Rd w B size A m news) (h1 : ∀ u ∈ news, u.oneCell' = true)
    (hn : (n + m) * bytes ≤ 140737488355328) (h63 : n + m ≤ maxLen) (hb : Below base w0 w) (hB : base ≤ w.heap.size)
    (h : ∀ v' w', w'.ownsRow base e size v' (n + m) (xs ++ news) → w'.ownsRow base e size v n xs → Below base w0 w' → w.grownBy w' v.ownBlock → (v'.ownBlock = v.ownBlock ∨ v'.ownBlock = some w.heap.size) → wpList P ops Q rest (a.put o.dst v') w') : wpList P ops Q (o :: rest) a w :=
  wpList_plain hgd fun _ hK => wp_appK E s x ho hs hown hx hr h1 hn h63 hb hB fun v' w' h2 h3 h4 h5 h6 => hK _ _ (h v' w' h2 h3 h4 h5 h6)

/-- the same at a step of a region that draws its order: for go_region_law -/
theorem step_appK (E : Elt P t e z size bytes) {ops : Array Oper} {o : Oper} {a : Act} {K : Act → World → Prop} {Q : Exit → Act → World → Prop} {F : Prop} (hgd : o.guard = none) (s x : Operand)
    (ho : o.op = .call { callee := .builtin .append, args := #[s, x], argTypes := #[t, t] }) {w w0 : World} {base : Nat}
    {v : Value} {n : Nat} {xs : List Value} (hs : a.eval s = v) (hown : w.ownsRow base e size v n xs)
    {B : Nat} {A : Option Addr} {m c : Nat} {news : List Value} (hx : a.eval x = .slice A m c) (hr : Rd w B size A m news) (h1 : ∀ u ∈ news, u.oneCell' = true)
    (hn : (n + m) * bytes ≤ 140737488355328) (h63 : n + m ≤ maxLen) (hb : Below base w0 w) (hB : base ≤ w.heap.size)
    (h : ∀ v' w', w'.ownsRow base e size v' (n + m) (xs ++ news) → w'.ownsRow base e size v n xs → Below base w0 w' → w.grownBy w' v.ownBlock → (v'.ownBlock = v.ownBlock ∨ v'.ownBlock = some w.heap.size) → K (a.put o.dst v') w') :
    if Region.wanted o (yielded ops a.tmps) = true then Oper.wp P o a w K Q else F := by
  have hw : Region.wanted o (yielded ops a.tmps) = true := by simp [Region.wanted, hgd]
  rw [if_pos hw]
  exact wp_appK E s x ho hs hown hx hr h1 hn h63 hb hB h
end

/-- a slice that owns its row, in a block from base on -/
def Ow (w : World) (base : Nat) (e : TypeId) (size : Nat) (v : Value) (n : Nat) (xs : List Value) : Prop := w.ownsRow base e size v n xs
/-- a slice that reads so, in a block below B; B is not above the heap -/
def RdB (w : World) (B size : Nat) (A : Option Addr) (n : Nat) (xs : List Value) : Prop := Rd w B size A n xs ∧ B ≤ w.heap.size
section
variable {w w' : World} {base B size n c : Nat} {e : TypeId} {v : Value} {A : Option Addr} {xs : List Value}
theorem grown_none (hb : Below w.heap.size w w') : w.grownBy w' none := ⟨hb.os, hb.tape, hb.output, hb.size, fun k hk _ => hb.block k hk⟩
theorem below_none (hg : w.grownBy w' none) : Below w.heap.size w w' := ⟨hg.os, hg.tape, hg.output, hg.size, fun k hk => hg.block k hk (by simp)⟩
theorem Ow.after (h : Ow w base e size v n xs) (hb : Below w.heap.size w w') : Ow w' base e size v n xs :=
  World.ownsRow.kept h (grown_none hb) (by cases hv : v.ownBlock <;> simp)
theorem Ow.alloc (h : Ow w base e size v n xs) (o : Obj) : Ow (w.alloc o) base e size v n xs := World.ownsRow.alloc h o
theorem Ow.rd (h : Ow w base e size (.slice A n c) n xs) : Rd w w.heap.size size A n xs := Rd.of_own h
/-- another row is written, which lies below this one's base -/
theorem Ow.grown (h : Ow w base e size v n xs) {row : Option Nat} (hg : w.grownBy w' row) (hr : ∀ g, row = some g → g < base) : Ow w' base e size v n xs :=
  World.ownsRow.kept h hg (by
    cases hv : v.ownBlock with
    | none => exact .inl rfl
    | some g =>
      right
      intro e'
      have := hr g e'.symm
      have := (World.ownsRow.lt h g hv).1
      omega)
theorem RdB.after (h : RdB w B size A n xs) (hb : Below w.heap.size w w') : RdB w' B size A n xs := ⟨h.1.below hb h.2, Nat.le_trans h.2 hb.size⟩
theorem RdB.alloc (h : RdB w B size A n xs) (o : Obj) : RdB (w.alloc o) B size A n xs := ⟨h.1.alloc h.2 o, by have := h.2; simp; omega⟩
theorem RdB.rd (h : RdB w B size A n xs) : Rd w w.heap.size size A n xs := h.1.more h.2
theorem RdB.grown (h : RdB w B size A n xs) {row : Option Nat} (hg : w.grownBy w' row) (hr : ∀ g, row = some g → B ≤ g) : RdB w' B size A n xs := ⟨h.1.grown hg h.2 hr, Nat.le_trans h.2 hg.size⟩
theorem Rd.toB (h : Rd w w.heap.size size A n xs) : RdB w w.heap.size size A n xs := ⟨h, Nat.le_refl _⟩
/-- where a row's block lies -/
theorem Ow.lo (h : Ow w base e size v n xs) : ∀ g, v.ownBlock = some g → base ≤ g := fun g hg => (World.ownsRow.lt h g hg).1
theorem Ow.hi (h : Ow w base e size v n xs) : ∀ g, v.ownBlock = some g → g < w.heap.size := fun g hg => (World.ownsRow.lt h g hg).2
end
/-- a literal row that has just been laid is the call's own -/
theorem own_lit (w : World) (B : Nat) (e : TypeId) (cs : Array Value) (n size : Nat) (h : cs.size = n * size) (hB : B ≤ w.heap.size) (hn : n ≤ maxLen) : (w.alloc (.cells cs e)).ownsRow B e size (.slice (some ⟨w.heap.size, 0, none⟩) n n) n cs.toList :=
  ⟨by simpa using h, .inr ⟨w.heap.size, n, cs, rfl, hB, heap_alloc_new w _, Nat.le_refl _, hn, h, List.take_of_length_le (by simp [h])⟩⟩

/-- s[k:] -/
theorem Rd.drop {w : World} {B size n : Nat} {b off : Nat} {xs : List Value} (h : Rd w B size (some ⟨b, off, none⟩) n xs) {k : Nat} (hk : k ≤ n) : Rd w B size (some ⟨b, off + k * size, none⟩) (n - k) (xs.drop (k * size)) := by
  refine ⟨by rw [List.length_drop, h.1, Nat.sub_mul], by have := h.2.1; omega, fun h0 => ?_⟩
  obtain ⟨b', off', e, hb, hc⟩ := h.2.2 (by omega)
  injection e with e
  injection e with e1 e2
  subst e1; subst e2
  exact ⟨b, off + k * size, rfl, hb, fun j u hu => by rw [Nat.add_assoc]; exact hc _ u (by rw [← hu, List.getElem?_drop])⟩
end Go.Proofs.Ytedjolkkidciiaa

namespace Go.Proofs.Ytedjolkkidciiaa
open Go.RowKit
theorem own_cap {w : World} {base : Nat} {e : TypeId} {size : Nat} {v : Value} {n : Nat} {xs : List Value} (h : w.ownsRow base e size v n xs) : ∃ A c, v = .slice A n c ∧ n ≤ c := by
  rcases h.2 with ⟨rfl, rfl⟩ | ⟨g, cap, cur, rfl, hb, hh, hnc, hcm, _⟩
  · exact ⟨_, _, rfl, Nat.le_refl _⟩
  · exact ⟨_, _, rfl, hnc⟩
theorem own_ptr {w : World} {base : Nat} {e : TypeId} {size : Nat} {v : Value} {n : Nat} {xs : List Value} (h : w.ownsRow base e size v n xs) (h0 : 0 < n) : ∃ g c, v = .slice (some ⟨g, 0, none⟩) n c ∧ n ≤ c ∧ base ≤ g := by
  rcases h.2 with ⟨rfl, rfl⟩ | ⟨g, cap, cur, rfl, hb, hh, hnc, hcm, hs, ht⟩
  · exact absurd h0 (by omega)
  · exact ⟨g, cap, rfl, hnc, hb⟩
theorem own_low {w : World} {base base' : Nat} {e : TypeId} {size : Nat} {v : Value} {n : Nat} {xs : List Value} (h : w.ownsRow base e size v n xs) (hb : base' ≤ base) : w.ownsRow base' e size v n xs :=
  ⟨h.1, h.2.imp id fun ⟨g, cap, cur, hv, hbg, r⟩ => ⟨g, cap, cur, hv, Nat.le_trans hb hbg, r⟩⟩
theorem own_take {w : World} {base : Nat} {e : TypeId} {size n c : Nat} {A : Option Addr} {xs : List Value} (h : w.ownsRow base e size (.slice A n c) n xs) (h0 : 0 < n) {k : Nat} (hk : k ≤ n) : w.ownsRow base e size (.slice A k c) k (xs.take (k * size)) := by
  have hle : k * size ≤ n * size := Nat.mul_le_mul_right _ hk
  rcases h.2 with ⟨hv, rfl⟩ | ⟨g, cap, cur, hv, hb, hh, hnc, hcm, hs, ht⟩
  · omega
  · injection hv with hA hn hc
    subst hA
    subst hc
    refine ⟨by rw [List.length_take, h.1]; omega, .inr ⟨g, c, cur, rfl, hb, hh, by omega, hcm, hs, ?_⟩⟩
    rw [← ht, List.take_take, Nat.min_eq_left hle]
theorem Rd.btake {w : World} {B n : Nat} {A : Option Addr} {l : List UInt8} (h : Rd w B 1 A n (bcells l)) {k : Nat} (hk : k ≤ n) : Rd w B 1 A k (bcells (l.take k)) := by
  have := h.take hk
  rw [Nat.mul_one] at this
  unfold bcells at *
  rw [List.map_take]
  exact this
theorem own_lit1 (w : World) {B : Nat} (e : TypeId) (cs : Array Value) (n : Nat) (hB : B ≤ w.heap.size) (hn : cs.size = n) (hm : n ≤ maxLen) : (w.alloc (.cells cs e)).ownsRow B e 1 (.slice (some ⟨w.heap.size, 0, none⟩) n n) n cs.toList :=
  ⟨by simpa using hn, .inr ⟨w.heap.size, n, cs, rfl, hB, heap_alloc_new w _, Nat.le_refl _, hm, by omega, by rw [Nat.mul_one, List.take_of_length_le (by simp; omega)]⟩⟩
/-- a literal row of bytes that has just been laid -/
theorem bcell_rd {w : World} {g n : Nat} {t : TypeId} {l : List UInt8} {cs : Array Value} (h : Blk w g t cs) (hl : cs.toList = bcells l) (hn : cs.size = n) (hm : n ≤ maxLen) : Rd w w.heap.size 1 (some ⟨g, 0, none⟩) n (bcells l) := by
  rw [← hl]
  exact h.rd (by omega) hm
end Go.Proofs.Ytedjolkkidciiaa

namespace Go.Proofs.Ytedjolkkidciiaa
open Go.RowKit

theorem btake_eq (l : List UInt8) (k : Nat) : (bcells l).take k = bcells (l.take k) := by unfold bcells; rw [List.map_take]
set_option maxRecDepth 10000 in
theorem run_low (W : World) {b off n c k : Nat} (hk : k ≤ n) (_hc : n ≤ c) : (Instr.sliceAt 22 (.slice (some ⟨b, off, none⟩) n c) (some (.int .i64 (k : Int))) none none).run Try.prog W = .ok (.slice (if c = k then some ⟨b, off, none⟩ else some ⟨b, off + k, none⟩) (n - k) (c - k)) W := by
  have e2 : (sizeOf (Try.prog.elem 22)).run Try.prog W = .ok 1 W := run_sizeOf W (i := (Try.prog.info? 5).get!) (by kernel_rfl)
  rw [run_sliceAt_slice W _ _ _ _ _ (by kernel_rfl), run_slice_l W 22 _ _ _ (by kernel_rfl) .i64 (k : Int) (by omega) (by omega), e2]
  simp only [Result.andThen, sliced, Int.toNat_natCast]
  by_cases h : c = k
  · simp [h]
  · simp [h, add_none]
theorem Rd.bdrop {w : World} {B n b off : Nat} {l : List UInt8} (h : Rd w B 1 (some ⟨b, off, none⟩) n (bcells l)) {k : Nat} (hk : k ≤ n) : Rd w B 1 (some ⟨b, off + k, none⟩) (n - k) (bcells (l.drop k)) := by
  have := h.drop hk
  unfold bcells at this ⊢
  rw [Nat.mul_one] at this
  rw [List.map_drop]
  exact this

end Go.Proofs.Ytedjolkkidciiaa

namespace Go.Proofs.Ytedjolkkidciiaa
open Go.RowKit

/-- where b[i:..] begins -/
def cutA (A : Option Addr) (c i : Nat) : Option Addr := if c = i then A else A.map (·.add (i * 1))
set_option maxRecDepth 10000 in
theorem run_lh (W : World) {A : Option Addr} {n c i k : Nat} (hi : i ≤ k) (hk : k ≤ c) (I K : Int) (eI : I = (i : Int)) (eK : K = (k : Int)) : (Instr.sliceAt 22 (.slice A n c) (some (.int .i64 I)) (some (.int .i64 K)) none).run Try.prog W = .ok (.slice (cutA A c i) (k - i) (c - i)) W := by
  subst eI; subst eK
  have e2 : (sizeOf (Try.prog.elem 22)).run Try.prog W = .ok 1 W := run_sizeOf W (i := (Try.prog.info? 5).get!) (by kernel_rfl)
  rw [run_sliceAt_slice W _ _ _ _ _ (by kernel_rfl), run_slice_lh W 22 _ _ _ (by kernel_rfl) .i64 .i64 (i : Int) (k : Int) (by omega) (by omega) (by omega), e2]
  simp only [Result.andThen, sliced, Int.toNat_natCast]
  rfl
theorem Rd.cut {w : World} {B n c : Nat} {A : Option Addr} {l : List UInt8} (h : Rd w B 1 A n (bcells l)) (hnc : n ≤ c) {i k : Nat} (hi : i ≤ k) (hk : k ≤ n) : Rd w B 1 (cutA A c i) (k - i) (bcells ((l.take k).drop i)) := by
  have hln := h.1
  rw [bcells_len, Nat.mul_one] at hln
  have h1 : Rd w B 1 A k (bcells (l.take k)) := by
    have := h.take hk
    rwa [Nat.mul_one, btake_eq] at this
  by_cases hki : k = i
  · subst hki
    have e : (l.take k).drop k = [] := by rw [List.drop_eq_nil_of_le]; rw [List.length_take]; omega
    rw [e, Nat.sub_self]
    exact ⟨rfl, by unfold maxLen; omega, fun h => absurd h (by omega)⟩
  · obtain ⟨b, off, rfl, _, _⟩ := h1.2.2 (by omega)
    have h2 := h1.bdrop (k := i) hi
    have e : cutA (some ⟨b, off, none⟩) c i = some ⟨b, off + i, none⟩ := by
      unfold cutA
      rw [if_neg (by omega), Nat.mul_one]
      simp [add_none]
    rw [e]
    exact h2
end Go.Proofs.Ytedjolkkidciiaa

namespace Go.Proofs.Ytedjolkkidciiaa
open Go.RowKit

section
variable {w w' : World} {g base B size size' n n' : Nat} {t e : TypeId} {cs : Array Value} {u v : Value} {xs ys : List Value}
theorem own_blk_ne (h : Blk w g t cs) (ho : Ow w base e size v n xs) (hne : t ≠ e) : some g ≠ v.ownBlock := by
  rcases ho.2 with ⟨rfl, _⟩ | ⟨k, cap, cur, rfl, _, hh, _⟩
  · intro h; cases h
  · intro he
    injection he with he
    subst he
    unfold Blk at h
    rw [hh] at h
    injection h with h
    injection h with _ h
    exact hne h.symm
theorem own_own_ne (h : Ow w base e size v n xs) (h' : Ow w B t size' u n' ys) (hne : t ≠ e) : u.ownBlock = none ∨ u.ownBlock ≠ v.ownBlock := by
  rcases h'.2 with ⟨rfl, _⟩ | ⟨k, cap, cur, rfl, _, hh, _⟩
  · exact .inl rfl
  · right
    intro he
    rcases h.2 with ⟨rfl, _⟩ | ⟨k', cap', cur', rfl, _, hh', _⟩
    · cases he
    · injection he with he
      dsimp only at he
      subst he
      rw [hh] at hh'
      injection hh' with hh'
      injection hh' with _ hh'
      exact hne hh'
theorem Blk.grownT (h : Blk w g t cs) (ho : Ow w base e size v n xs) (hne : t ≠ e) (hg : w.grownBy w' v.ownBlock) : Blk w' g t cs := (hg.block g h.lt (own_blk_ne h ho hne)).trans h
theorem Ow.grownT (h : Ow w B t size' u n' ys) (ho : Ow w base e size v n xs) (hne : t ≠ e) (hg : w.grownBy w' v.ownBlock) : Ow w' B t size' u n' ys := World.ownsRow.kept h hg (own_own_ne ho h hne)
theorem grown_set (w : World) (p : Addr) (x : Value) : w.grownBy (w.setCell p x) (some p.block) :=
  ⟨rfl, rfl, rfl, by simp [World.setCell], fun k _ hne => by
    simp only [World.setCell, Array.getElem?_modify]
    rw [if_neg]
    intro e
    subst e
    exact hne rfl⟩
theorem Ow.setT (h : Ow w B e size v n xs) (hb : Blk w g t cs) (hne : t ≠ e) (i : Nat) (x : Value) : Ow (w.setCell ⟨g, i, none⟩ x) B e size v n xs :=
  World.ownsRow.kept h (grown_set w ⟨g, i, none⟩ x) (by
    right
    intro h'
    exact own_blk_ne hb h hne h'.symm)
theorem Ow.cell {A : Option Addr} {c : Nat} (h : Ow w B e size (.slice A n c) n xs) {b off : Nat} (hA : A = some ⟨b, off, none⟩) (hn : 0 < n) {j : Nat} {x : Value} (hu : xs[j]? = some x) : w.cell? ⟨b, off + j, none⟩ = some x := (Ow.rd h).cell hA hn hu
end
theorem exec_nil {P : Program} {w : World} {ρ : Operand → Value} {o : Oper} {x : Operand} {p : Addr} (ho : o.op = .nilCheck x) (hx : ρ x = .pointer (some p)) : (execOp ρ o).run P w = .ok (.value (.pointer (some p))) w := by
  unfold execOp
  rw [ho]
  simp only [hx]
  rfl
end Go.Proofs.Ytedjolkkidciiaa

namespace Go.Proofs.Ytedjolkkidciiaa
open Go.RowKit
section
variable {P : Program} {w : World}
/-- the cells cs lie in block b from o on -/
def At (w : World) (b o : Nat) (cs : List Value) : Prop := ∀ j v, cs[j]? = some v → w.cell? ⟨b, o + j, none⟩ = some v
theorem At.after {b o : Nat} {cs : List Value} (h : At w b o cs) (hl : b < w.heap.size) {w' : World} (hb : Below w.heap.size w w') : At w' b o cs := fun j v hv => (hb.cell (p := ⟨b, o + j, none⟩) hl).trans (h j v hv)
theorem exec_load_mid {ρ : Operand → Value} {o : Oper} {t : TypeId} {x : Operand} {b off : Nat} {cs : List Value} {d : TypeDesc} (ho : o.op = .load t x) (hx : ρ x = .pointer (some ⟨b, off, none⟩)) (hc : At w b off cs)
    (hu : P.underlying t = some d) (hd : (match d with | .struct _ | .array _ _ => true | _ => false) = true) (hi : (P.info? t).map (·.size) = some cs.length) : (execOp ρ o).run P w = .ok (.value (.agg cs.toArray)) w := by
  have hl : (loadCells ⟨b, off, none⟩ cs.length).run P w = .ok cs.toArray w := run_loadCells_list (P := P) w ⟨b, off, none⟩ cs (fun j v hv => by rw [add_none]; exact hc j v hv)
  obtain ⟨i, hi1, hi2⟩ : ∃ i, P.info? t = some i ∧ i.size = cs.length := by
    cases hc : P.info? t with
    | none => rw [hc] at hi; cases hi
    | some i => rw [hc] at hi; exact ⟨i, rfl, by simpa using hi⟩
  have hs : (sizeOf t).run P w = .ok cs.length w := by
    have := run_sizeOf w hi1
    rw [this]
    congr 1
    simp [Program.cellsOf, hi1, hi2]
  have ha : (isAgg t).run P w = .ok true w := by
    unfold isAgg
    rw [Sem.run_bind, run_underlying hu]
    cases d <;> first | rfl | exact absurd hd (by simp)
  unfold execOp
  rw [ho]
  simp only [hx, Instr.loadAt, Instr.sureAddr, Sem.run_bind, Sem.run_pure, Result.andThen_ok, loadVar, ha, if_true, hs, hl]
end
end Go.Proofs.Ytedjolkkidciiaa

namespace Go.Proofs.Ytedjolkkidciiaa
open Go.RowKit

section
variable {P : Program} {fn : Func} {tmps : Array Value} {w : World} {a : Tmp} {t e : TypeId} {g : Nat} {cs : Array Value} {d : TypeDesc}
theorem res_load (hb : Blk w g e cs) (hu : P.underlying t = some d) (hd : (match d with | .struct _ | .array _ _ => true | _ => false) = true) (hi : (P.info? t).map (·.size) = some cs.size) :
    (loadVar t ⟨g, 0, none⟩).run P w = .ok (.agg cs) w := run_loadVar_row w g e t cs (0, 0) d hb hu hd hi
theorem res_addr {v : Value} {p : Addr} (h : v = .pointer (some p)) : (asAddr v).run P w = .ok p w := by subst h; rfl
theorem results_cell1 (h : fn.results = #[.cell a t]) (ha : tmps.getD a undef = .pointer (some ⟨g, 0, none⟩)) (hl : (loadVar t ⟨g, 0, none⟩).run P w = .ok (.agg cs) w) :
    (results fn tmps).run P w = .ok (.agg cs) w := by
  have ha' := res_addr (P := P) (w := w) ha
  rw [Array.getD_eq_getD_getElem?] at ha'
  simp [results, h, ha', hl]
theorem results_cell2 {u : Tmp} (h : fn.results = #[.cell a t, .tmp u]) (ha : tmps.getD a undef = .pointer (some ⟨g, 0, none⟩)) (hl : (loadVar t ⟨g, 0, none⟩).run P w = .ok (.agg cs) w) :
    (results fn tmps).run P w = .ok (.tuple #[.agg cs, tmps.getD u undef]) w := by
  have ha' := res_addr (P := P) (w := w) ha
  rw [Array.getD_eq_getD_getElem?] at ha'
  simp [results, h, ha', hl]
theorem results_cell3 {u v : Tmp} (h : fn.results = #[.cell a t, .tmp u, .tmp v]) (ha : tmps.getD a undef = .pointer (some ⟨g, 0, none⟩)) (hl : (loadVar t ⟨g, 0, none⟩).run P w = .ok (.agg cs) w) :
    (results fn tmps).run P w = .ok (.tuple #[.agg cs, tmps.getD u undef, tmps.getD v undef]) w := by
  have ha' := res_addr (P := P) (w := w) ha
  rw [Array.getD_eq_getD_getElem?] at ha'
  simp [results, h, ha', hl]
end
end Go.Proofs.Ytedjolkkidciiaa

namespace Go.Proofs.Ytedjolkkidciiaa
open Go.RowKit
/-- behind a panic: what holds, whatever the frame -/
def thr (X : List PanicEntry → World → Prop) : Exit → Act → World → Prop
  | .panic c, a, w => a.defers = [] ∧ X c w
  | _, _, _ => False
theorem put_defs (a : Act) (d : Option Tmp) (v : Value) : (a.put d v).defers = a.defers := by cases d <;> rfl
section
variable {P : Program} {ops : Array Oper} {Q : Exit → Act → World → Prop} {I : World → Prop} {X : List PanicEntry → World → Prop}
def PlanP (P : Program) (ops : Array Oper) (I : World → Prop) (X : List PanicEntry → World → Prop) (R : List Nat) (K : Act → World → Prop) : Tree → Act → World → Prop
  | .done, a, w => K a w
  | .calms l σ, a, w => wpList P ops (Exit.then (fun a w => PlanP P ops I X R K σ a w) fun _ _ _ => False) (calmRow ops l) a w
  | .read i σ, a, w => match ops[i]? with | some o => ∃ v, YieldsI P ops I o v a ∧ PlanP P ops I X R K σ (a.put o.dst v) w | none => False
  | .act i σ, a, w => match ops[i]? with | some o => wpList P ops (Exit.then (owes ops I R i (fun a w => PlanP P ops I X R K σ a w)) (thr X)) [o] a w | none => False
  | .fork i σ j τ, a, w => (match ops[i]? with | some o => wpList P ops (Exit.then (owes ops I R i (fun a w => PlanP P ops I X R K σ a w)) (thr X)) [o] a w | none => False) ∧
    (match ops[j]? with | some o => wpList P ops (Exit.then (owes ops I R j (fun a w => PlanP P ops I X R K τ a w)) (thr X)) [o] a w | none => False)
  | .fork3 i σ j τ k υ, a, w => (match ops[i]? with | some o => wpList P ops (Exit.then (owes ops I R i (fun a w => PlanP P ops I X R K σ a w)) (thr X)) [o] a w | none => False) ∧ (match ops[j]? with | some o => wpList P ops (Exit.then (owes ops I R j (fun a w => PlanP P ops I X R K τ a w)) (thr X)) [o] a w | none => False) ∧ (match ops[k]? with | some o => wpList P ops (Exit.then (owes ops I R k (fun a w => PlanP P ops I X R K υ a w)) (thr X)) [o] a w | none => False)
theorem wpAnyI_calmsP {R : List Nat} (hsel : Region.noSelect ops = true) {K : Act → World → Prop} {fuel : Nat} : ∀ (l : List Nat) (listed : Array Bool) (a : Act) (w : World), Down ops listed → (opened R listed → I w) → calmFits P ops listed l = true →
    wpList P ops (Exit.then K fun _ _ _ => False) (calmRow ops l) a w → (∀ a, Down ops (taken listed l) → (opened R (taken listed l) → I w) → K a w → wpAnyI P ops (Exit.then (fun a w => Q .normal a w) (thr X)) I R fuel (taken listed l) a w) → wpAnyI P ops (Exit.then (fun a w => Q .normal a w) (thr X)) I R (fuel + l.length) listed a w
  | [], _, _, _, hD, hI, _, h, hk => hk _ hD hI h
  | i :: l, listed, a, w, hD, hI, hf, h, hk => by
    unfold calmFits at hf
    unfold calmRow at h
    cases ho : ops[i]? with
    | none => rw [ho] at hf; cases hf
    | some o =>
      rw [ho] at hf h
      simp only [Bool.and_eq_true] at hf h
      obtain ⟨⟨⟨hr, hfr⟩, hc⟩, hf2⟩ := hf
      have hr' : i ∈ Region.ready .any ops listed := by simpa using hr
      have hQo : ¬ LetsOut (Exit.then K fun _ _ _ => False) := fun ⟨_, _, h⟩ => h
      have go : ∀ v, Yields P ops o v a → wpList P ops (Exit.then K fun _ _ _ => False) (calmRow ops l) (a.put o.dst v) w → wpAnyI P ops (Exit.then (fun a w => Q .normal a w) (thr X)) I R (fuel + (i :: l).length) listed a w := fun v hy h2 =>
        wpAnyI_first (J := fun _ => True) ho (Region.noSelect_spec hsel) (fun c a w h => ⟨(put_defs a _ _).symm.trans h.1, h.2⟩) (fun _ _ _ _ => trivial) (fuel + l.length) listed a w hD hI (Region.free_spec ho hfr) hr'
          (hy.imp (fun h => ⟨h.1, fun w _ => h.2 w⟩) id) (wpAnyI_calmsP hsel l (listed.setIfInBounds i true) (a.put o.dst v) w (down_ready hD hr') (fun h => hI (opened_less h)) hf2 h2 hk)
      by_cases hw : Region.wanted o (yielded ops a.tmps) = true
      · obtain ⟨hn, h⟩ := chk_list hQo hw _ h
        unfold wpList at h
        rw [if_pos hw] at h
        rcases h with h | ⟨_, h⟩
        · unfold Oper.wp at h
          rcases calmX_run hc a.eval hn with ⟨v, hv⟩ | hv
          · rw [hv w] at h
            exact go v (.inl ⟨hw, hv⟩) h
          · obtain ⟨e, w', he⟩ := hv w
            rw [he] at h
            cases e <;> exact h.elim
        · exact absurd h hQo
      · have h := chk_skip hw _ h
        unfold wpList at h
        rw [if_neg hw] at h
        exact go undef (.inr ⟨by simpa using hw, rfl⟩) h

/-- one of those that come up, acting -/
theorem wpAnyI_stepP {R : List Nat} {K : Act → World → Prop} {i fuel : Nat} {o : Oper} {listed : Array Bool} {a : Act} {w : World} (ho : ops[i]? = some o) (hD : Down ops listed) (hr' : i ∈ Region.ready .any ops listed)
    (h : wpList P ops (Exit.then (owes ops I R i K) (thr X)) [o] a w)
    (hk : ∀ a' w', (opened R (listed.setIfInBounds i true) → I w') → K a' w' → wpAnyI P ops (Exit.then (fun a w => Q .normal a w) (thr X)) I R fuel (listed.setIfInBounds i true) a' w') :
    wpOp P ops (Exit.then (fun a w => Q .normal a w) (thr X)) i (fun a' w' => (needI ops R i = true → I w → I w') ∧ wpAnyI P ops (Exit.then (fun a w => Q .normal a w) (thr X)) I R fuel (listed.setIfInBounds i true) a' w') a w := by
  have key : ∀ a' w', owes ops I R i K a' w' → (needI ops R i = true → I w → I w') ∧ wpAnyI P ops (Exit.then (fun a w => Q .normal a w) (thr X)) I R fuel (listed.setIfInBounds i true) a' w' := fun a' w' h => by
    unfold owes at h
    cases hn : needI ops R i with
    | true =>
      rw [hn] at h
      exact ⟨fun _ _ => h.1, hk a' w' (fun _ => h.1) h.2⟩
    | false =>
      rw [hn] at h
      exact ⟨fun h => absurd h (by decide), hk a' w' (fun ho => absurd (opened_less ho) (ready_closed hD hr' hn)) h⟩
  unfold wpOp
  rw [ho]
  unfold wpList at h
  simp only
  split
  · rename_i hw
    rw [if_pos hw] at h
    refine .inl ?_
    rcases h with h | ⟨_, _, _, h⟩
    · refine Oper.wp_mono (fun a w h => key a w h) ?_
      unfold Oper.wp at h ⊢
      generalize (execOp a.eval o).run P w = r at *
      cases r with
      | ok n w' =>
        cases n <;> simp only [Oper.upon] at h ⊢ <;> first | exact h | (exact Calls.mono h fun e w'' he => by cases e <;> exact he) | (exact Rows.mono h fun _ _ he => he)
      | halt x w' => cases x <;> simp only [Oper.upon] at h ⊢ <;> exact h
    · exact h.elim
  · rename_i hw
    rw [if_neg hw] at h
    exact key _ _ h

theorem wpAnyI_planP {R : List Nat} (hsel : Region.noSelect ops = true) : ∀ (σ : Tree) (listed : Array Bool) (a : Act) (w : World), Down ops listed → (opened R listed → I w) → planFits P ops R listed σ = true →
    PlanP P ops I X R (fun a w => Q .normal a w) σ a w → wpAnyI P ops (Exit.then (fun a w => Q .normal a w) (thr X)) I R (planLen σ) listed a w
  | .done, listed, a, w, _, _, hf, h => by
    unfold planFits at hf
    exact ⟨List.isEmpty_iff.1 hf, h⟩
  | .calms l σ, listed, a, w, hD, hI, hf, h => by
    unfold planFits at hf
    rw [Bool.and_eq_true] at hf
    exact wpAnyI_calmsP hsel l listed a w hD hI hf.1 h fun a hD hI h => wpAnyI_planP hsel σ _ a w hD hI hf.2 h
  | .read i σ, listed, a, w, hD, hI, hf, h => by
    unfold planFits at hf
    simp only [Bool.and_eq_true] at hf
    obtain ⟨⟨⟨hR, hr⟩, hfr⟩, hf2⟩ := hf
    have hr' : i ∈ Region.ready .any ops listed := by simpa using hr
    have hR' : i ∈ R := by simpa using hR
    unfold PlanP at h
    split at h
    · rename_i o ho
      obtain ⟨v, hy, h⟩ := h
      exact wpAnyI_first ho (Region.noSelect_spec hsel) (fun c a w h => ⟨(put_defs a _ _).symm.trans h.1, h.2⟩) (fun listed w hl h => h ⟨i, hR', hl⟩) _ listed a w hD hI (Region.free_spec ho hfr) hr' hy (wpAnyI_planP hsel σ _ _ w (down_ready hD hr') (fun h => hI (opened_less h)) hf2 h)
    · exact h.elim
  | .act i σ, listed, a, w, hD, hI, hf, h => by
    unfold planFits at hf
    simp only [Bool.and_eq_true, beq_iff_eq] at hf
    obtain ⟨hr, hf2⟩ := hf
    unfold PlanP at h
    split at h
    · rename_i o ho
      have hr' : i ∈ Region.ready .any ops listed := by rw [hr]; simp
      refine ⟨fun h0 => (by rw [hr] at h0; cases h0), fun j hj => ?_⟩
      rw [hr, List.mem_singleton] at hj
      subst hj
      exact wpAnyI_stepP ho hD hr' h fun a' w' hI h => wpAnyI_planP hsel σ _ a' w' (down_ready hD hr') hI hf2 h
    · exact h.elim
  | .fork i σ j τ, listed, a, w, hD, hI, hf, h => by
    unfold planFits at hf
    simp only [Bool.and_eq_true, beq_iff_eq] at hf
    obtain ⟨⟨⟨hr, hf2⟩, hf3⟩, hlen⟩ := hf
    unfold PlanP at h
    obtain ⟨h1, h2⟩ := h
    refine ⟨fun h0 => (by rw [hr] at h0; cases h0), fun k hk => ?_⟩
    have hk' := hk
    rw [hr] at hk
    simp only [List.mem_cons, List.not_mem_nil, or_false] at hk
    rcases hk with rfl | rfl
    · split at h1
      · rename_i o ho
        exact wpAnyI_stepP ho hD hk' h1 fun a' w' hI h => wpAnyI_planP hsel σ _ a' w' (down_ready hD hk') hI hf2 h
      · exact h1.elim
    · split at h2
      · rename_i o ho
        rw [← hlen]
        exact wpAnyI_stepP ho hD hk' h2 fun a' w' hI h => wpAnyI_planP hsel τ _ a' w' (down_ready hD hk') hI hf3 h
      · exact h2.elim
  | .fork3 i σ j τ k υ, listed, a, w, hD, hI, hf, h => by
    unfold planFits at hf
    simp only [Bool.and_eq_true, beq_iff_eq] at hf
    obtain ⟨⟨⟨⟨⟨hr, hf2⟩, hf3⟩, hf4⟩, hlen⟩, hlen2⟩ := hf
    unfold PlanP at h
    obtain ⟨h1, h2, h3⟩ := h
    refine ⟨fun h0 => (by rw [hr] at h0; cases h0), fun x hx => ?_⟩
    have hx' := hx
    rw [hr] at hx
    simp only [List.mem_cons, List.not_mem_nil, or_false] at hx
    rcases hx with rfl | rfl | rfl
    · split at h1
      · rename_i o ho
        exact wpAnyI_stepP ho hD hx' h1 fun a' w' hI h => wpAnyI_planP hsel σ _ a' w' (down_ready hD hx') hI hf2 h
      · exact h1.elim
    · split at h2
      · rename_i o ho
        rw [← hlen]
        exact wpAnyI_stepP ho hD hx' h2 fun a' w' hI h => wpAnyI_planP hsel τ _ a' w' (down_ready hD hx') hI hf3 h
      · exact h2.elim
    · split at h3
      · rename_i o ho
        rw [← hlen2]
        exact wpAnyI_stepP ho hD hx' h3 fun a' w' hI h => wpAnyI_planP hsel υ _ a' w' (down_ready hD hx') hI hf4 h
      · exact h3.elim

/-- THE LAW: a region that draws its order, walked by a plan, which may be a tree -/
theorem wp_region_treeP {id : Nat} {a : Act} {w : World} (I : World → Prop) (σ : Tree) (hm : P.follows .mixedOrders = true) (hs : planLen σ = ops.size) (hsel : Region.noSelect ops = true)
    (hf : planFits P ops (readsOf σ) (Array.replicate ops.size false) σ = true) (hX : ∀ c a w, a.defers = [] → X c w → Q (.panic c) a w) (hI : I w.drew) (h : PlanP P ops I X (readsOf σ) (fun a w => Q .normal a w) σ a w.drew) : (Code.region id ops true).wp P Q a w :=
  Code.wp_mono (Q := Exit.then (fun a w => Q .normal a w) (thr X)) (fun e a w he => by
    cases e <;> first | exact he | exact he.elim | exact hX _ _ _ he.1 he.2) (wp_region_any hm (by
    rw [← hs]
    exact wpAnyI.to _ _ _ _ (wpAnyI_planP hsel σ _ a _ (fun k o _ hk => by
      rcases Nat.lt_or_ge k ops.size with h' | h'
      · simp [hs, h'] at hk
      · simp [hs, h'] at hk) (fun _ => hI) (by rw [hs]; exact hf) h)))
theorem wp_region_planP {id : Nat} {a : Act} {w : World} (I : World → Prop) (σ : List Leg) (hm : P.follows .mixedOrders = true) (hs : planLen (row σ .done) = ops.size) (hsel : Region.noSelect ops = true)
    (hf : planFits P ops (readsOf (row σ .done)) (Array.replicate ops.size false) (row σ .done) = true) (hX : ∀ c a w, a.defers = [] → X c w → Q (.panic c) a w) (hI : I w.drew) (h : PlanP P ops I X (readsOf (row σ .done)) (fun a w => Q .normal a w) (row σ .done) a w.drew) : (Code.region id ops true).wp P Q a w :=
  wp_region_treeP I (row σ .done) hm hs hsel hf hX hI h

/-! ### a plan's steps, one by one -/
variable {K : Act → World → Prop} {R : List Nat} {σ τ : Tree} {a : Act} {w : World}
theorem plan_endP (h : K a w) : PlanP P ops I X R K .done a w := h
theorem plan_calmsP {l : List Nat} {r : List Oper} (hl : calmRow ops l = r) (h : wpList P ops (Exit.then (fun a w => PlanP P ops I X R K σ a w) fun _ _ _ => False) r a w) : PlanP P ops I X R K (.calms l σ) a w := by subst hl; exact h
theorem wpOne_monoP {K K' : Act → World → Prop} {o : Oper} (hk : ∀ a w, K a w → K' a w) (h : wpList P ops (Exit.then K (thr X)) [o] a w) : wpList P ops (Exit.then K' (thr X)) [o] a w := by
  unfold wpList at h ⊢
  split at h
  · rename_i hw
    rw [if_pos hw]
    rcases h with h | ⟨_, _, _, h⟩
    · refine .inl (Oper.wp_mono (fun a w h => hk a w h) (show Oper.wp P o a w K (Exit.then K' (thr X)) from ?_))
      unfold Oper.wp at h ⊢
      generalize (execOp a.eval o).run P w = r at *
      cases r with
      | ok n w' =>
        cases n <;> simp only [Oper.upon] at h ⊢ <;> first | exact h | (exact Calls.mono h fun e w'' he => by cases e <;> exact he) | (exact Rows.mono h fun _ _ he => he)
      | halt x w' => cases x <;> simp only [Oper.upon] at h ⊢ <;> exact h
    · exact h.elim
  · rename_i hw
    rw [if_neg hw]
    exact hk _ _ h
theorem plan_actP {i : Nat} {o : Oper} (ho : ops[i]? = some o) (h : wpList P ops (Exit.then (fun a w => I w ∧ PlanP P ops I X R K σ a w) (thr X)) [o] a w) : PlanP P ops I X R K (.act i σ) a w := by
  unfold PlanP owes; rw [ho]
  cases hn : needI ops R i
  · exact wpOne_monoP (fun _ _ h => h.2) h
  · exact h
/-- an act behind all reads -/
theorem plan_lastP {i : Nat} {o : Oper} (ho : ops[i]? = some o) (hn : needI ops R i = false) (h : wpList P ops (Exit.then (fun a w => PlanP P ops I X R K σ a w) (thr X)) [o] a w) : PlanP P ops I X R K (.act i σ) a w := by
  unfold PlanP owes; rw [ho, hn]; exact h
/-- two come up: whichever goes first -/
theorem plan_forkP {i j : Nat} {o o' : Oper} (ho : ops[i]? = some o) (ho' : ops[j]? = some o') (h : wpList P ops (Exit.then (fun a w => I w ∧ PlanP P ops I X R K σ a w) (thr X)) [o] a w)
    (h' : wpList P ops (Exit.then (fun a w => I w ∧ PlanP P ops I X R K τ a w) (thr X)) [o'] a w) : PlanP P ops I X R K (.fork i σ j τ) a w := by
  unfold PlanP owes; rw [ho, ho']
  constructor
  · cases hn : needI ops R i
    · exact wpOne_monoP (fun _ _ h => h.2) h
    · exact h
  · cases hn : needI ops R j
    · exact wpOne_monoP (fun _ _ h => h.2) h'
    · exact h'
/-- the same, where no read is still to come -/
theorem plan_fork'P {i j : Nat} {o o' : Oper} (ho : ops[i]? = some o) (ho' : ops[j]? = some o') (hn : needI ops R i = false) (hn' : needI ops R j = false) (h : wpList P ops (Exit.then (fun a w => PlanP P ops I X R K σ a w) (thr X)) [o] a w)
    (h' : wpList P ops (Exit.then (fun a w => PlanP P ops I X R K τ a w) (thr X)) [o'] a w) : PlanP P ops I X R K (.fork i σ j τ) a w := by
  unfold PlanP owes; rw [ho, ho', hn, hn']
  exact ⟨h, h'⟩
/-- three come up, no read is still to come -/
theorem plan_fork3'P {υ : Tree} {i j k : Nat} {o o' o'' : Oper} (ho : ops[i]? = some o) (ho' : ops[j]? = some o') (ho'' : ops[k]? = some o'') (hn : needI ops R i = false) (hn' : needI ops R j = false) (hn'' : needI ops R k = false)
    (h : wpList P ops (Exit.then (fun a w => PlanP P ops I X R K σ a w) (thr X)) [o] a w) (h' : wpList P ops (Exit.then (fun a w => PlanP P ops I X R K τ a w) (thr X)) [o'] a w)
    (h'' : wpList P ops (Exit.then (fun a w => PlanP P ops I X R K υ a w) (thr X)) [o''] a w) : PlanP P ops I X R K (.fork3 i σ j τ k υ) a w := by
  unfold PlanP owes; rw [ho, ho', ho'', hn, hn', hn'']
  exact ⟨h, h', h''⟩
theorem plan_fork3P {υ : Tree} {i j k : Nat} {o o' o'' : Oper} (ho : ops[i]? = some o) (ho' : ops[j]? = some o') (ho'' : ops[k]? = some o'')
    (h : wpList P ops (Exit.then (fun a w => I w ∧ PlanP P ops I X R K σ a w) (thr X)) [o] a w) (h' : wpList P ops (Exit.then (fun a w => I w ∧ PlanP P ops I X R K τ a w) (thr X)) [o'] a w)
    (h'' : wpList P ops (Exit.then (fun a w => I w ∧ PlanP P ops I X R K υ a w) (thr X)) [o''] a w) : PlanP P ops I X R K (.fork3 i σ j τ k υ) a w := by
  unfold PlanP owes; rw [ho, ho', ho'']
  refine ⟨?_, ?_, ?_⟩
  · cases hn : needI ops R i
    · exact wpOne_monoP (fun _ _ h => h.2) h
    · exact h
  · cases hn : needI ops R j
    · exact wpOne_monoP (fun _ _ h => h.2) h'
    · exact h'
  · cases hn : needI ops R k
    · exact wpOne_monoP (fun _ _ h => h.2) h''
    · exact h''
/-- behind an act that owes nothing -/
theorem plan_doneP (h : PlanP P ops I X R K σ a w) : wpList P ops (Exit.then (fun a w => PlanP P ops I X R K σ a w) (thr X)) [] a w := h
/-- behind an act -/
theorem plan_nextP (hI : I w) (h : PlanP P ops I X R K σ a w) : wpList P ops (Exit.then (fun a w => I w ∧ PlanP P ops I X R K σ a w) (thr X)) [] a w := ⟨hI, h⟩
theorem plan_readP {i : Nat} {o : Oper} (ho : ops[i]? = some o) (v : Value) (hw : Region.wanted o (yielded ops a.tmps) = true) (hy : ∀ w, I w → (execOp a.eval o).run P w = .ok (.value v) w) (h : PlanP P ops I X R K σ (a.put o.dst v) w) : PlanP P ops I X R K (.read i σ) a w := by
  unfold PlanP; rw [ho]; exact ⟨v, .inl ⟨hw, hy⟩, h⟩
theorem plan_skipP {i : Nat} {o : Oper} (ho : ops[i]? = some o) (hw : Region.wanted o (yielded ops a.tmps) = false) (h : PlanP P ops I X R K σ (a.put o.dst undef) w) : PlanP P ops I X R K (.read i σ) a w := by
  unfold PlanP; rw [ho]; exact ⟨undef, .inr ⟨hw, rfl⟩, h⟩
end
end Go.Proofs.Ytedjolkkidciiaa

namespace Go.Proofs.Ytedjolkkidciiaa
open Go.RowKit
attribute [local go_sem] Oper.semAt_some

def nameB (n : Nat) : Bool := decide (1 ≤ n) && decide (n ≤ 32)
theorem mayName_any (s : ByteArray) (n : Nat) (hs : s.size = n) (w : World) (hn : n ≤ 1000000000000) : Calls Try.prog 32 #[.string s] w fun e w' => e = .returned (.bool (nameB n)) ∧ w = w' := by
  by_cases h1 : 1 ≤ n
  · by_cases h2 : n ≤ 32
    · have e : nameB n = true := by unfold nameB; simp; omega
      rw [e]
      go_enter Try.func32, Try.ntmps32
      go_wp2
      go_ret
      exact ⟨by simp <;> omega, rfl⟩
    · have e : nameB n = false := by unfold nameB; simp; omega
      rw [e]
      go_enter Try.func32, Try.ntmps32
      go_wp2
      go_ret
      exact ⟨by simp <;> omega, rfl⟩
  · have e : nameB n = false := by unfold nameB; simp; omega
    rw [e]
    go_enter Try.func32, Try.ntmps32
    go_wp2
    go_ret
    exact ⟨rfl, rfl⟩
end Go.Proofs.Ytedjolkkidciiaa

namespace Go.Proofs.Ytedjolkkidciiaa
open Go.RowKit
section
variable {P : Program} {t e : TypeId} {z : Value} {size bytes : Nat}
theorem run_append_full (E : Elt P t e z size bytes) (w : World) (base : Nat) (ty : TypeId) (s : Addr) (n : Nat) (xs : List Value) (hx : xs.length = n * size) (hxs : ∀ j u, xs[j]? = some u → w.cell? (s.add j) = some u)
    (a : Addr) (m c : Nat) (news : List Value) (hl : news.length = m * size) (hnews : ∀ j u, news[j]? = some u → w.cell? (a.add j) = some u) (hm : 0 < m)
    (h63 : n + m ≤ maxLen) (hbytes : (n + m) * bytes ≤ 140737488355328) (hbase : base ≤ w.heap.size) :
    ∃ v' w', (Builtin.append_ #[t, t] ty #[.slice (some s) n n, .slice (some a) m c]).run P w = .ok v' w' ∧ w'.ownsRow base e size v' (n + m) (xs ++ news) ∧ Below w.heap.size w w' := by
  obtain ⟨i, hi, hz, hsize, hby⟩ := info_parts E.info
  have ht := E.ht
  have hzs := E.hzs
  subst hsize
  subst hby
  have hsmall : n + m ≤ 9223372036854775807 := by simp only [maxLen] at h63; omega
  have hlen : (xs ++ news).length = (n + m) * i.size := by rw [List.length_append, hx, hl, Nat.add_mul]
  have hr := run_append_grow (P := P) w t ty e i z ht hi hz s n n xs hx hxs a m c news hl hnews (by omega) (by omega) (growslice_fits (by omega) hbytes)
  have hge := grownCap_ge w (n + m) n e
  have hcm : grownCap w (n + m) n e ≤ maxLen := grownCap_le_maxLen w (n + m) n e h63
  refine ⟨_, _, hr, ⟨hlen, .inr ⟨w.heap.size, _, _, rfl, hbase, heap_alloc_new w.drew _, hge, hcm, ?_, ?_⟩⟩, ?_⟩
  · simp only [Array.size_append, List.size_toArray, size_zeroCells, hzs, hx, hl, ← Nat.add_mul]
    congr 1
    omega
  · simp only [Array.toList_append, List.append_assoc]
    rw [← List.append_assoc, ← hlen]
    exact List.take_left
  · have := (Below.refl w.heap.size w.drew).alloc (Nat.le_refl _) (.cells (xs.toArray ++ news.toArray ++ Builtin.zeroCells z.cells (grownCap w (n + m) n e - (n + m))) e)
    exact ⟨this.os, this.tape, this.output, this.size, this.block⟩

/-- append(s, x), s full: x has just been laid in a block of its own -/
theorem wpList_pushFull (E : Elt P t e z size bytes) {ops : Array Oper} {rest : List Oper} {o : Oper} {a : Act} {Q : Exit → Act → World → Prop} (hgd : o.guard = none) (s x : Operand)
    (ho : o.op = .call { callee := .builtin .append, args := #[s, x], argTypes := #[t, t] }) {W : World} {ad : Addr} {n B : Nat} {xs : List Value}
    (hs : a.eval s = .slice (some ad) n n) {cs : Array Value} {c : Nat} (hr : Rd W B size (some ad) n xs) (hn0 : 0 < n) (hB : B ≤ W.heap.size)
    (hx : a.eval x = .slice (some ⟨W.heap.size, 0, none⟩) 1 c) (hcs : cs.size = size)
    (hn : (n + 1) * bytes ≤ 140737488355328) (h63 : n + 1 ≤ maxLen)
    (h : ∀ v' w', w'.ownsRow W.heap.size e size v' (n + 1) (xs ++ cs.toList) → Below W.heap.size W w' → wpList P ops Q rest (a.put o.dst v') w') :
    wpList P ops Q (o :: rest) a (W.alloc (.cells cs e)) := by
  obtain ⟨b, off, hA, hb, hc⟩ := (hr.alloc hB (.cells cs e)).2.2 hn0
  injection hA with hA
  subst hA
  obtain ⟨v', w', hrun, h2, h3⟩ := run_append_full E (W.alloc (.cells cs e)) W.heap.size o.type ⟨b, off, none⟩ n xs hr.1 (fun j u hu => by rw [add_none]; exact hc j u hu)
    ⟨W.heap.size, 0, none⟩ 1 c cs.toList (by simp [hcs]) (fun j u hu => by rw [add_none, Nat.zero_add, cell_new, ← hu, Array.getElem?_toList]) (by omega) h63 hn (by simp)
  have h3' : Below W.heap.size W w' := ((Below.refl _ _).alloc (Nat.le_refl _) (.cells cs e)).trans (h3.mono (by simp))
  refine wpList_plain hgd fun K hK => ?_
  unfold Oper.wp execOp
  simp only [ho, resolve, invoke, builtin, Sem.run_bind, Sem.run_pure, Result.andThen_ok, List.map_toArray, List.map_cons, List.map_nil, hs, hx, hrun]
  exact hK _ _ (h v' w' h2 h3')
/-- append(s, x...), s full, x a row that has just been laid -/
theorem wpList_appFull (E : Elt P t e z size bytes) {ops : Array Oper} {rest : List Oper} {o : Oper} {a : Act} {Q : Exit → Act → World → Prop} (hgd : o.guard = none) (s x : Operand)
    (ho : o.op = .call { callee := .builtin .append, args := #[s, x], argTypes := #[t, t] }) {W : World} {ad : Addr} {n m B : Nat} {xs : List Value}
    (hs : a.eval s = .slice (some ad) n n) {cs : Array Value} {c : Nat} (hr : Rd W B size (some ad) n xs) (hn0 : 0 < n) (hm0 : 0 < m) (hB : B ≤ W.heap.size)
    (hx : a.eval x = .slice (some ⟨W.heap.size, 0, none⟩) m c) (hcs : cs.size = m * size)
    (hn : (n + m) * bytes ≤ 140737488355328) (h63 : n + m ≤ maxLen)
    (h : ∀ v' w', w'.ownsRow W.heap.size e size v' (n + m) (xs ++ cs.toList) → Below W.heap.size W w' → wpList P ops Q rest (a.put o.dst v') w') :
    wpList P ops Q (o :: rest) a (W.alloc (.cells cs e)) := by
  obtain ⟨b, off, hA, hb, hc⟩ := (hr.alloc hB (.cells cs e)).2.2 hn0
  injection hA with hA
  subst hA
  obtain ⟨v', w', hrun, h2, h3⟩ := run_append_full E (W.alloc (.cells cs e)) W.heap.size o.type ⟨b, off, none⟩ n xs hr.1 (fun j u hu => by rw [add_none]; exact hc j u hu)
    ⟨W.heap.size, 0, none⟩ m c cs.toList (by simp [hcs]) (fun j u hu => by rw [add_none, Nat.zero_add, cell_new, ← hu, Array.getElem?_toList]) hm0 h63 hn (by simp)
  have h3' : Below W.heap.size W w' := ((Below.refl _ _).alloc (Nat.le_refl _) (.cells cs e)).trans (h3.mono (by simp))
  refine wpList_plain hgd fun K hK => ?_
  unfold Oper.wp execOp
  simp only [ho, resolve, invoke, builtin, Sem.run_bind, Sem.run_pure, Result.andThen_ok, List.map_toArray, List.map_cons, List.map_nil, hs, hx, hrun]
  exact hK _ _ (h v' w' h2 h3')
end
end Go.Proofs.Ytedjolkkidciiaa
