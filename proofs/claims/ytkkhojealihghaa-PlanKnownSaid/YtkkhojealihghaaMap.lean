/- Maps as rows of pairs, for every key type that 'Keyed' knows: lookup, store, entry, len. Plain laws. -/
import Derived.Maps.OwnSet
import Derived.DeepKeys4
import Derived.Test.YtkkhojealihghaaBlk
namespace Go.Proofs.Ytkkhojealihghaa
open Go.RowKit Go.MapKept Go.Maps
open Go.ChangeMaps (setBlock modify_eq_set)

/-- what a map's block holds: pairs, in no order -/
def Mp (P : Program) (k : TypeId) (w : World) (b : Nat) (L : List (Value × Value)) : Prop :=
  ∃ es clock, w.heap[b]? = some (.map es clock) ∧ Stamped es clock ∧ (∀ x ∈ es.toList, ∃ l, keyOf P k x.key = some l) ∧ (es.toList.map fun x => (x.key, x.val)).Perm L

open Classical in
noncomputable def putV (key val : Value) (L : List (Value × Value)) : List (Value × Value) := (key, val) :: L.filter (fun p => decide (p.1 ≠ key))

theorem nodup_snd {γ δ : Type} : ∀ {D : List (γ × δ)}, (D.map (·.1)).Nodup → ∀ {x : γ} {y y' : δ}, (x, y) ∈ D → (x, y') ∈ D → y = y'
  | [], _, _, _, _, h, _ => by simp at h
  | p :: D, hn, x, y, y', h, h' => by
    rw [List.map_cons, List.nodup_cons] at hn
    rcases List.mem_cons.1 h with rfl | g
    · rcases List.mem_cons.1 h' with g' | g'
      · exact (Prod.mk.inj g').2.symm
      · exact absurd (List.mem_map.2 ⟨(x, y'), g', rfl⟩) hn.1
    · rcases List.mem_cons.1 h' with e | g'
      · subst e; exact absurd (List.mem_map.2 ⟨(x, y), g, rfl⟩ : x ∈ D.map (·.1)) hn.1
      · exact nodup_snd hn.2 g g'
section
variable {P : Program} {k t e : TypeId} {w : World} {b : Nat} {L : List (Value × Value)}

theorem Mp.new (w : World) (P : Program) (k : TypeId) : Mp P k (w.alloc (.map #[] 0)) w.heap.size [] :=
  ⟨#[], 0, (MapKept.heap_alloc w _).1, stamped_empty 0, by simp, by simp⟩
theorem Mp.lt (h : Mp P k w b L) : b < w.heap.size := by
  obtain ⟨es, c, hb, _⟩ := h
  exact (Array.getElem?_eq_some_iff.1 hb).1
theorem Mp.perm (h : Mp P k w b L) {L' : List (Value × Value)} (hp : L.Perm L') : Mp P k w b L' := by
  obtain ⟨es, c, hb, hs, hk, hl⟩ := h
  exact ⟨es, c, hb, hs, hk, hl.trans hp⟩
theorem Mp.of_block {w' : World} (h : Mp P k w b L) (hb : w'.heap[b]? = w.heap[b]?) : Mp P k w' b L := by
  obtain ⟨es, c, hb', hs⟩ := h
  exact ⟨es, c, hb.trans hb', hs⟩
theorem Mp.alloc (h : Mp P k w b L) (o : Obj) : Mp P k (w.alloc o) b L := h.of_block (Below.heap_alloc _ _ _ h.lt)
theorem Mp.setCell (h : Mp P k w b L) {p : Addr} (hp : b ≠ p.block) (v : Value) : Mp P k (w.setCell p v) b L := h.of_block (Below.heap_setCell _ _ _ _ hp)
theorem Mp.below (h : Mp P k w b L) {B : Nat} {w' : World} (hb : Below B w w') (hlt : b < B) : Mp P k w' b L := h.of_block (hb.block b hlt)
theorem Mp.nodup (h : Mp P k w b L) : (L.map (·.1)).Nodup := by
  obtain ⟨es, c, _, hs, _, hl⟩ := h
  have := hs.2.2
  refine (hl.map (·.1)).nodup_iff.1 ?_
  simpa [List.map_map, Function.comp_def] using this
theorem setBlock_heap {w : World} {b : Nat} {o : Obj} (h : b < w.heap.size) : (setBlock w b o).heap[b]? = some o := by
  simp [setBlock, h]
theorem setBlock_other {w : World} {b j : Nat} {o : Obj} (h : j ≠ b) : (setBlock w b o).heap[j]? = w.heap[j]? := by
  simp [setBlock, h.symm]
theorem setBlock_size (w : World) (b : Nat) (o : Obj) : (setBlock w b o).heap.size = w.heap.size := by simp [setBlock]
theorem setBlock_below {w0 w : World} {B b : Nat} (h : Below B w0 w) (hB : B ≤ b) (o : Obj) : Below B w0 (setBlock w b o) :=
  h.trans ⟨rfl, rfl, rfl, by simp [setBlock], fun j hj => setBlock_other (by omega)⟩
theorem setBlock_same {w : World} {b : Nat} {o : Obj} (h : w.heap[b]? = some o) : setBlock w b o = w := by
  unfold setBlock
  obtain ⟨hl, he⟩ := Array.getElem?_eq_some_iff.1 h
  have : w.heap.setIfInBounds b o = w.heap := by
    apply Array.ext (by simp)
    intro i h1 h2
    rw [Array.getElem_setIfInBounds]
    split
    · rename_i e; subst e; exact he.symm
    · rfl
  rw [this]

/-- a lookup -/
theorem Mp.look (h : Mp P k w b L) (K : Keyed P k) (ht : P.underlying t = some (.map k e)) {z : Value} (hz : (zeroValue e).run P w = .ok z w) {key : Value} {kl : Lit} (hkey : keyOf P k key = some kl) (c : Bool) :
    ((∀ v, (key, v) ∉ L) ∧ (Instr.lookup t (.map (some b)) key c).run P w = .ok (if c then .tuple #[z, .bool false] else z) w) ∨
    ∃ v, (key, v) ∈ L ∧ (Instr.lookup t (.map (some b)) key c).run P w = .ok (if c then .tuple #[v, .bool true] else v) w := by
  obtain ⟨es, clock, hb, hs, hk, hl⟩ := h
  rcases K.find w hkey es.toList hk with ⟨h1, h2⟩ | ⟨j, e0, h1, h2, h3⟩
  · refine Or.inl ⟨fun v hv => ?_, by simp [Instr.lookup, run_underlying ht, MapKept.run_getObj_map hb, K.check w _ hkey, h1, hz, Result.andThen]⟩
    obtain ⟨x, hx, he⟩ := List.mem_map.1 (hl.mem_iff.2 hv)
    injection he with he _
    exact h2 x hx he
  · refine Or.inr ⟨e0.val, hl.mem_iff.1 (List.mem_map.2 ⟨e0, List.mem_of_getElem? h2, by rw [h3]⟩), by simp [Instr.lookup, run_underlying ht, MapKept.run_getObj_map hb, K.check w _ hkey, h1, Result.andThen]⟩

theorem Mp.len (h : Mp P k w b L) (ht : P.underlying t = some (.map k e)) (ty : TypeId) : (Builtin.len_ #[t] ty #[.map (some b)]).run P w = .ok (.int .i64 L.length) w := by
  obtain ⟨es, clock, hb, hs, hk, hl⟩ := h
  have : es.size = L.length := by rw [← hl.length_eq]; simp
  rw [← this]
  simp [Builtin.len_, run_underlying ht, MapKept.run_getObj_map hb, Result.andThen]
  rfl

open Classical in
theorem putV_nodup {key val : Value} (h : (L.map (·.1)).Nodup) : ((putV key val L).map (·.1)).Nodup := by
  unfold putV
  rw [List.map_cons, List.nodup_cons]
  refine ⟨?_, h.sublist (List.filter_sublist.map _)⟩
  intro hm
  obtain ⟨p, hp, he⟩ := List.mem_map.1 hm
  have := (List.mem_filter.1 hp).2
  simp at this
  exact this he

open Classical in
theorem pairs_set {es : Array MapEntry} {clock : Nat} (hs : Stamped es clock) {j : Nat} {e0 e1 : MapEntry} (hj : es.toList[j]? = some e0) :
    ((es.toList.set j e1).map fun x => (x.key, x.val)).Perm ((e1.key, e1.val) :: (es.toList.map fun x => (x.key, x.val)).filter (fun p => decide (p.1 ≠ e0.key))) := by
  have hjl : j < es.toList.length := (List.getElem?_eq_some_iff.1 hj).1
  have h1 : (es.toList.map fun x => (x.key, x.val)).filter (fun p => decide (p.1 ≠ e0.key)) = (es.toList.eraseIdx j).map fun x => (x.key, x.val) := by
    rw [List.filter_map]
    congr 1
    have hn := hs.2.2
    have he : e0 = es.toList[j] := by rw [List.getElem?_eq_getElem hjl] at hj; injection hj with hj; exact hj.symm
    generalize es.toList = l at *
    clear hj hs
    induction l generalizing j with
    | nil => simp at hjl
    | cons x r ih =>
      rw [List.map_cons, List.nodup_cons] at hn
      cases j with
      | zero =>
        simp only [List.getElem_cons_zero] at he
        subst he
        rw [List.filter_cons]
        simp only [Function.comp_apply, ne_eq, not_true_eq_false, decide_false, Bool.false_eq_true, if_false, List.eraseIdx_cons_zero]
        refine List.filter_eq_self.2 fun y hy => ?_
        simp only [Function.comp_apply, decide_eq_true_eq]
        intro e
        exact hn.1 (List.mem_map.2 ⟨y, hy, e⟩)
      | succ j =>
        simp only [List.getElem_cons_succ] at he
        rw [List.filter_cons, List.eraseIdx_cons_succ]
        have : x.key ≠ e0.key := by
          intro e
          refine hn.1 (List.mem_map.2 ⟨e0, ?_, e.symm⟩)
          rw [he]
          exact List.getElem_mem _
        rw [if_pos (by simpa using this)]
        congr 1
        exact ih (by simpa using hjl) hn.2 he
  rw [h1, ← List.map_cons (f := fun x : MapEntry => (x.key, x.val))]
  exact (List.Perm.map _ (ChangeMaps.set_perm _ _ hjl e1))

open Classical in
/-- a store -/
theorem Mp.store (h : Mp P k w b L) (K : Keyed P k) (ht : P.underlying t = some (.map k e)) {key : Value} {kl : Lit} (hkey : keyOf P k key = some kl) (val : Value) :
    ∃ o, (Instr.mapUpdate t (.map (some b)) key val).run P w = .ok () (setBlock w b o) ∧ Mp P k (setBlock w b o) b (putV key val L) := by
  have hlt := h.lt
  obtain ⟨es, clock, hb, hs, hk, hl⟩ := h
  rcases K.find w hkey es.toList hk with ⟨h1, h2⟩ | ⟨j, e0, h1, h2, h3⟩
  · refine ⟨.map (es.push ⟨key, val, clock⟩) (clock + 1), by simp [Instr.mapUpdate, run_underlying ht, MapKept.run_getObj_map hb, K.check w false hkey, h1, MapKept.run_setObj_map _ hb, Result.andThen, setBlock], _, _, setBlock_heap hlt, stamped_push hs h2, ?_, ?_⟩
    · intro x hx
      simp only [Array.toList_push, List.mem_append, List.mem_singleton] at hx
      rcases hx with hx | rfl
      · exact hk x hx
      · exact ⟨_, hkey⟩
    · rw [Array.toList_push, List.map_append, List.map_singleton]
      refine (List.perm_append_singleton _ _).trans (List.Perm.cons _ ?_)
      rw [List.filter_eq_self.2]
      · exact hl
      · intro p hp
        obtain ⟨x, hx, he⟩ := List.mem_map.1 (hl.mem_iff.2 hp)
        have := h2 x hx
        rw [← he]
        simpa using this
  · have hj : es[j]? = some e0 := by simpa using h2
    have hlist : (es.modify j (fun e' => { e' with key := key, val := val })).toList = es.toList.set j { e0 with key := key, val := val } := by rw [Array.toList_modify, modify_eq_set _ _ _ _ h2]
    refine ⟨.map (es.modify j (fun e' => { e' with key := key, val := val })) clock, by simp [Instr.mapUpdate, run_underlying ht, MapKept.run_getObj_map hb, K.check w false hkey, h1, hj, h3, K.stays w hkey, MapKept.run_setObj_map _ hb, Result.andThen, setBlock], _, _, setBlock_heap hlt,
      stamped_modify hs _ _ (fun _ _ => rfl) (fun e' _ he' => by rw [hj] at he'; cases he'; exact h3.symm), ?_, ?_⟩
    · intro x hx
      rw [hlist] at hx
      rcases List.mem_or_eq_of_mem_set hx with hx | rfl
      · exact hk x hx
      · exact ⟨_, hkey⟩
    · rw [hlist]
      refine (pairs_set hs h2).trans ?_
      unfold putV
      rw [h3]
      exact List.Perm.cons _ (hl.filter _)

open Classical in
/-- an entry: what it holds (nought where it was not there), then what is stored there, in any world in which the block is as it was left -/
theorem Mp.entry (h : Mp P k w b L) (K : Keyed P k) (ht : P.underlying t = some (.map k e)) {z : Value} (hz : (zeroValue e).run P w = .ok z w) {key : Value} {kl : Lit} (hkey : keyOf P k key = some kl) :
    ∃ (o : Obj) (st : Nat) (v : Value), (((∀ v, (key, v) ∉ L) ∧ v = z) ∨ (key, v) ∈ L) ∧ (Instr.mapEntry t (.map (some b)) key).run P w = .ok (.tuple #[v, .int .i64 (st : Int)]) (setBlock w b o) ∧
      (Mp P k (setBlock w b o) b (putV key v L)) ∧
      ∀ (W : World), W.heap[b]? = some o → ∀ x, ∃ o2, (Instr.entryStore t (.map (some b)) (.int .i64 (st : Int)) x).run P W = .ok () (setBlock W b o2) ∧ Mp P k (setBlock W b o2) b (putV key x L) := by
  have hlt := h.lt
  obtain ⟨es, clock, hb, hs, hk, hl⟩ := h
  -- what a store at a stamp does
  have fin : ∀ (es1 : Array MapEntry) (clock1 : Nat), Stamped es1 clock1 → (∀ x ∈ es1.toList, ∃ l, keyOf P k x.key = some l) → ∀ (j : Nat) (e0 : MapEntry), es1.toList[j]? = some e0 → e0.key = key →
      (∀ p ∈ es1.toList.map (fun x => (x.key, x.val)), p.1 ≠ key → p ∈ L) → ((es1.toList.map fun x => (x.key, x.val)).filter (fun p => decide (p.1 ≠ key))).Perm (L.filter (fun p => decide (p.1 ≠ key))) →
      ∀ (W : World), W.heap[b]? = some (.map es1 clock1) → ∀ x, ∃ o2, (Instr.entryStore t (.map (some b)) (.int .i64 (e0.born : Int)) x).run P W = .ok () (setBlock W b o2) ∧ Mp P k (setBlock W b o2) b (putV key x L) := by
    intro es1 clock1 hs1 hk1 j e0 hj h3 _ hp W hW x
    have hjl : j < es1.toList.length := (List.getElem?_eq_some_iff.1 hj).1
    have hja : es1[j]? = some e0 := by simpa using hj
    have hfi : es1.findIdx? (fun e => (e.born : Int) == (e0.born : Int)) = some j := by
      rw [Array.findIdx?_eq_some_iff_getElem]
      have hjs : j < es1.size := by simpa using hjl
      have hej : es1[j] = e0 := by rw [Array.getElem?_eq_getElem hjs] at hja; injection hja
      refine ⟨hjs, by simp [hej], fun i hi => ?_⟩
      intro hbn
      have hn := hs1.2.1
      have hi2 : i < es1.toList.length := by omega
      rw [List.Nodup, List.pairwise_map, List.pairwise_iff_getElem] at hn
      have := hn i j hi2 hjl hi
      simp only [Array.getElem_toList] at this
      rw [hej] at this
      simp at hbn
      exact this (by exact_mod_cast hbn)
    have hlist : (es1.modify j (fun e' => { e' with val := x })).toList = es1.toList.set j { e0 with val := x } := by rw [Array.toList_modify, modify_eq_set _ _ _ _ hj]
    refine ⟨.map (es1.modify j (fun e' => { e' with val := x })) clock1, by simp [Instr.entryStore, MapKept.run_getObj_map hW, hfi, asInt, asIntOf, MapKept.run_setObj_map _ hW, Result.andThen, setBlock], _, _, setBlock_heap (Array.getElem?_eq_some_iff.1 hW).1,
      stamped_modify hs1 _ _ (fun _ _ => rfl) (fun _ _ _ => rfl), ?_, ?_⟩
    · intro y hy
      rw [hlist] at hy
      rcases List.mem_or_eq_of_mem_set hy with hy | rfl
      · exact hk1 y hy
      · exact ⟨_, by rw [h3]; exact hkey⟩
    · rw [hlist]
      refine (pairs_set hs1 hj).trans ?_
      unfold putV
      rw [h3]
      exact List.Perm.cons _ hp
  rcases K.find w hkey es.toList hk with ⟨h1, h2⟩ | ⟨j, e0, h1, h2, h3⟩
  · have hkeys : ∀ x ∈ (es.push ⟨key, z, clock⟩).toList, ∃ l, keyOf P k x.key = some l := by
      intro x hx
      simp only [Array.toList_push, List.mem_append, List.mem_singleton] at hx
      rcases hx with hx | rfl
      · exact hk x hx
      · exact ⟨_, hkey⟩
    have hself : L.filter (fun p => decide (p.1 ≠ key)) = L := by
      refine List.filter_eq_self.2 fun p hp => ?_
      obtain ⟨x, hx, he⟩ := List.mem_map.1 (hl.mem_iff.2 hp)
      have := h2 x hx
      rw [← he]
      simpa using this
    have hself2 : (es.toList.map fun x => (x.key, x.val)).filter (fun p => decide (p.1 ≠ key)) = es.toList.map fun x => (x.key, x.val) := by
      refine List.filter_eq_self.2 fun p hp => ?_
      obtain ⟨x, hx, he⟩ := List.mem_map.1 hp
      have := h2 x hx
      rw [← he]
      simpa using this
    refine ⟨.map (es.push ⟨key, z, clock⟩) (clock + 1), clock, z, Or.inl ⟨fun v hv => ?_, rfl⟩, by simp [Instr.mapEntry, run_underlying ht, MapKept.run_getObj_map hb, K.check w false hkey, h1, hz, MapKept.run_setObj_map _ hb, Result.andThen, setBlock, goInt], ⟨_, _, setBlock_heap hlt, stamped_push hs h2, hkeys, ?_⟩, ?_⟩
    · obtain ⟨x, hx, he⟩ := List.mem_map.1 (hl.mem_iff.2 hv)
      injection he with he _
      exact h2 x hx he
    · rw [Array.toList_push, List.map_append, List.map_singleton]
      refine (List.perm_append_singleton _ _).trans (List.Perm.cons _ ?_)
      rw [hself]
      exact hl
    · intro W hW x
      refine fin _ _ (stamped_push hs h2) hkeys es.toList.length ⟨key, z, clock⟩ (by simp) rfl ?_ ?_ W hW x
      · intro p hp hne
        simp only [Array.toList_push, List.map_append, List.map_singleton, List.mem_append, List.mem_singleton] at hp
        rcases hp with hp | rfl
        · exact hl.mem_iff.1 hp
        · exact absurd rfl hne
      · rw [Array.toList_push, List.map_append, List.map_singleton, List.filter_append, hself2, hself]
        simpa using hl
  · have hj : es[j]? = some e0 := by simpa using h2
    have hmod : es.modify j (fun e' => { e' with key := key }) = es := by
      apply Array.toList_inj.1
      rw [Array.toList_modify, modify_eq_set _ _ _ _ h2]
      have : ({ e0 with key := key } : MapEntry) = e0 := by rw [← h3]
      rw [this]
      exact List.ext_getElem? fun i => by
        rw [List.getElem?_set]
        split
        · rename_i e; subst e
          rw [if_pos (List.getElem?_eq_some_iff.1 h2).1, h2]
        · rfl
    have hm : (key, e0.val) ∈ L := hl.mem_iff.1 (List.mem_map.2 ⟨e0, List.mem_of_getElem? h2, by rw [h3]⟩)
    refine ⟨.map es clock, e0.born, e0.val, Or.inr hm, ?_, ?_, ?_⟩
    · have := hmod
      simp [Instr.mapEntry, run_underlying ht, MapKept.run_getObj_map hb, K.check w false hkey, h1, hj, h3, K.stays w hkey, MapKept.run_setObj_map _ hb, Result.andThen, setBlock, goInt, this]
    · rw [setBlock_same hb]
      refine Mp.perm ⟨es, clock, hb, hs, hk, hl⟩ ?_
      have hid : es.toList.set j e0 = es.toList := List.ext_getElem? fun i => by
        rw [List.getElem?_set]
        split
        · rename_i e; subst e
          rw [if_pos (List.getElem?_eq_some_iff.1 h2).1, h2]
        · rfl
      have := pairs_set (e1 := e0) hs h2
      rw [hid] at this
      refine hl.symm.trans (this.trans ?_)
      unfold putV
      rw [h3]
      exact List.Perm.cons _ (hl.filter _)
    · intro W hW x
      exact fin _ _ hs hk j e0 h2 h3 (fun p hp _ => hl.mem_iff.1 hp) (hl.filter _) W hW x
end

/-! ### maps of plain data: keys of type α, which ek writes as values (one to one on those that are Ok), values of type β -/
section
variable {α β : Type} [DecidableEq α]
def mput (a : α) (c : β) (D : List (α × β)) : List (α × β) := (a, c) :: D.filter (fun p => decide (p.1 ≠ a))
def mget (D : List (α × β)) (a : α) : Option β := (D.find? (fun p => decide (p.1 = a))).map (·.2)
theorem mget_put (a x : α) (c : β) (D : List (α × β)) : mget (mput a c D) x = if x = a then some c else mget D x := by
  unfold mget mput
  rw [List.find?_cons]
  by_cases h : x = a
  · subst h; simp
  · rw [if_neg h]
    have : decide (a = x) = false := by simpa using fun e => h e.symm
    rw [this]
    show Option.map _ ((D.filter fun p => decide (p.1 ≠ a)).find? fun p => decide (p.1 = x)) = _
    rw [List.find?_filter]
    congr 2
    funext p
    by_cases hp : p.1 = x
    · simp [hp, h]
    · simp [hp]
theorem mget_nil (a : α) : mget ([] : List (α × β)) a = none := rfl
theorem mget_some {D : List (α × β)} {a : α} {c : β} (h : mget D a = some c) : (a, c) ∈ D := by
  unfold mget at h
  cases hf : D.find? (fun p => decide (p.1 = a)) with
  | none => rw [hf] at h; cases h
  | some p =>
    rw [hf] at h
    have h1 := List.find?_some hf
    have h2 := List.mem_of_find?_eq_some hf
    simp only [decide_eq_true_eq] at h1
    simp only [Option.map_some, Option.some.injEq] at h
    obtain ⟨x, y⟩ := p
    subst h1; subst h
    exact h2
theorem mget_none {D : List (α × β)} {a : α} (h : mget D a = none) {c : β} : (a, c) ∉ D := by
  intro hm
  unfold mget at h
  cases hf : D.find? (fun p => decide (p.1 = a)) with
  | none => exact absurd (List.find?_eq_none.1 hf _ hm) (by simp)
  | some p => rw [hf] at h; cases h
theorem mem_mput {D : List (α × β)} {a x : α} {c y : β} : (x, y) ∈ mput a c D ↔ (x = a ∧ y = c) ∨ (x ≠ a ∧ (x, y) ∈ D) := by
  unfold mput
  simp only [List.mem_cons, Prod.mk.injEq, List.mem_filter, decide_eq_true_eq]
  exact ⟨fun h => h.elim .inl fun h => .inr ⟨h.2, h.1⟩, fun h => h.elim .inl fun h => .inr ⟨h.2, h.1⟩⟩
theorem mput_len (a : α) (c : β) (D : List (α × β)) : (mput a c D).length ≤ D.length + 1 := by
  unfold mput
  have := List.length_filter_le (fun p : α × β => decide (p.1 ≠ a)) D
  simp only [List.length_cons]
  omega

def Mt (P : Program) (k : TypeId) (w : World) (b : Nat) (Ok : α → Prop) (ek : α → Value) (ev : β → Value) (D : List (α × β)) : Prop := Mp P k w b (D.map fun p => (ek p.1, ev p.2)) ∧ ∀ p ∈ D, Ok p.1

variable {P : Program} {k t e : TypeId} {w : World} {b : Nat} {D : List (α × β)} {Ok : α → Prop} {ek : α → Value} {ev : β → Value}
omit [DecidableEq α] in
theorem Mt.new (w : World) (P : Program) (k : TypeId) : Mt P k (w.alloc (.map #[] 0)) w.heap.size Ok ek ev ([] : List (α × β)) := ⟨Mp.new w P k, by simp⟩
omit [DecidableEq α] in
theorem Mt.of_block {w' : World} (h : Mt P k w b Ok ek ev D) (hb : w'.heap[b]? = w.heap[b]?) : Mt P k w' b Ok ek ev D := ⟨h.1.of_block hb, h.2⟩
omit [DecidableEq α] in
theorem Mt.lt (h : Mt P k w b Ok ek ev D) : b < w.heap.size := h.1.lt
omit [DecidableEq α] in
theorem Mt.alloc (h : Mt P k w b Ok ek ev D) (o : Obj) : Mt P k (w.alloc o) b Ok ek ev D := ⟨h.1.alloc o, h.2⟩
omit [DecidableEq α] in
theorem Mt.setCell (h : Mt P k w b Ok ek ev D) {p : Addr} (hp : b ≠ p.block) (v : Value) : Mt P k (w.setCell p v) b Ok ek ev D := ⟨h.1.setCell hp v, h.2⟩
omit [DecidableEq α] in
theorem Mt.below (h : Mt P k w b Ok ek ev D) {B : Nat} {w' : World} (hb : Below B w w') (hlt : b < B) : Mt P k w' b Ok ek ev D := ⟨h.1.below hb hlt, h.2⟩
omit [DecidableEq α] in
theorem Mt.nodup (h : Mt P k w b Ok ek ev D) : (D.map (·.1)).Nodup := by
  have := h.1.nodup
  rw [List.map_map] at this
  rw [List.Nodup, List.pairwise_map] at this ⊢
  exact this.imp fun h e => h (by simp [e])
open Classical in
theorem mt_filter (hinj : ∀ x y, Ok x → Ok y → ek x = ek y → x = y) (hD : ∀ p ∈ D, Ok p.1) {a : α} (ha : Ok a) (c : β) :
    putV (ek a) (ev c) (D.map fun p => (ek p.1, ev p.2)) = (mput a c D).map fun p => (ek p.1, ev p.2) := by
  unfold putV mput
  rw [List.map_cons, List.filter_map]
  congr 2
  refine List.filter_congr fun p hp => ?_
  simp only [Function.comp_apply]
  by_cases h : p.1 = a
  · simp [h]
  · have : ek p.1 ≠ ek a := fun e => h (hinj _ _ (hD p hp) ha e)
    simp [h, this]
theorem mput_ok (hD : ∀ p ∈ D, Ok p.1) {a : α} (ha : Ok a) (c : β) : ∀ p ∈ mput a c D, Ok p.1 := by
  intro p hp
  unfold mput at hp
  rcases List.mem_cons.1 hp with rfl | hp
  · exact ha
  · exact hD p (List.mem_filter.1 hp).1
theorem Mt.look (h : Mt P k w b Ok ek ev D) (hinj : ∀ x y, Ok x → Ok y → ek x = ek y → x = y) (K : Keyed P k) (ht : P.underlying t = some (.map k e)) {z : Value} (hz : (zeroValue e).run P w = .ok z w) {a : α} (ha : Ok a) {kl : Lit} (hkey : keyOf P k (ek a) = some kl) (c : Bool) :
    (Instr.lookup t (.map (some b)) (ek a) c).run P w = .ok (if c then .tuple #[((mget D a).map ev).getD z, .bool (mget D a).isSome] else ((mget D a).map ev).getD z) w := by
  rcases h.1.look K ht hz hkey c with ⟨hn, hr⟩ | ⟨v, hm, hr⟩
  · have : mget D a = none := by
      cases hg : mget D a with
      | none => rfl
      | some y => exact absurd (List.mem_map.2 ⟨_, mget_some hg, rfl⟩) (hn (ev y))
    rw [this]
    exact hr
  · obtain ⟨⟨x, y⟩, hx, he⟩ := List.mem_map.1 hm
    injection he with h1 h2
    have hxa := hinj _ _ (h.2 _ hx) ha h1
    dsimp only at hxa h2
    subst hxa
    have : mget D x = some y := by
      cases hg : mget D x with
      | none => exact absurd hx (mget_none hg)
      | some y' => rw [nodup_snd h.nodup (mget_some hg) hx]
    rw [this]
    rw [← h2] at hr
    exact hr
omit [DecidableEq α] in
theorem Mt.len (h : Mt P k w b Ok ek ev D) (ht : P.underlying t = some (.map k e)) (ty : TypeId) : (Builtin.len_ #[t] ty #[.map (some b)]).run P w = .ok (.int .i64 D.length) w := by
  rw [h.1.len ht ty, List.length_map]
theorem Mt.store (h : Mt P k w b Ok ek ev D) (hinj : ∀ x y, Ok x → Ok y → ek x = ek y → x = y) (K : Keyed P k) (ht : P.underlying t = some (.map k e)) {a : α} (ha : Ok a) {kl : Lit} (hkey : keyOf P k (ek a) = some kl) (c : β) :
    ∃ o, (Instr.mapUpdate t (.map (some b)) (ek a) (ev c)).run P w = .ok () (setBlock w b o) ∧ Mt P k (setBlock w b o) b Ok ek ev (mput a c D) := by
  obtain ⟨o, hr, hm⟩ := h.1.store K ht hkey (ev c)
  rw [mt_filter hinj h.2 ha c] at hm
  exact ⟨o, hr, hm, mput_ok h.2 ha c⟩
theorem Mt.entry (h : Mt P k w b Ok ek ev D) (hinj : ∀ x y, Ok x → Ok y → ek x = ek y → x = y) (K : Keyed P k) (ht : P.underlying t = some (.map k e)) {z : Value} (hz : ∀ W : World, (zeroValue e).run P W = .ok z W) {a : α} (ha : Ok a) {kl : Lit} (hkey : keyOf P k (ek a) = some kl) :
    ∃ (o : Obj) (st : Nat), (Instr.mapEntry t (.map (some b)) (ek a)).run P w = .ok (.tuple #[((mget D a).map ev).getD z, .int .i64 (st : Int)]) (setBlock w b o) ∧ b < w.heap.size ∧
      (∀ (W : World), W.heap[b]? = some o → (Instr.lookup t (.map (some b)) (ek a) false).run P W = .ok (((mget D a).map ev).getD z) W) ∧
      ∀ (W : World), W.heap[b]? = some o → ∀ c, ∃ o2, (Instr.entryStore t (.map (some b)) (.int .i64 (st : Int)) (ev c)).run P W = .ok () (setBlock W b o2) ∧ Mt P k (setBlock W b o2) b Ok ek ev (mput a c D) := by
  obtain ⟨o, st, v, hv, hr, hm1, hs⟩ := h.1.entry K ht (hz w) hkey
  have hve : v = ((mget D a).map ev).getD z := by
    rcases hv with ⟨hn, hvz⟩ | hm
    · have : mget D a = none := by
        cases hg : mget D a with
        | none => rfl
        | some y => exact absurd (List.mem_map.2 ⟨_, mget_some hg, rfl⟩) (hn (ev y))
      rw [this, hvz]
      rfl
    · have hl := h.look hinj K ht (hz w) ha hkey false
      rcases h.1.look K ht (hz w) hkey false with ⟨hn, _⟩ | ⟨v2, hm2, hr2⟩
      · exact absurd hm (hn v)
      · have : v2 = v := nodup_snd h.1.nodup hm2 hm
        subst this
        have h9 := hl.symm.trans hr2
        have := congrArg (fun r : Result Value => match r with | .ok v _ => v | .halt _ _ => z) h9
        exact this.symm
  subst hve
  refine ⟨o, st, hr, h.lt, fun W hW => ?_, fun W hW c => ?_⟩
  · have hmW : Mp P k W b (putV (ek a) (((mget D a).map ev).getD z) (D.map fun p => (ek p.1, ev p.2))) := hm1.of_block (hW.trans (setBlock_heap h.lt).symm)
    rcases hmW.look K ht (hz W) hkey false with ⟨hn, _⟩ | ⟨v2, hm2, hr2⟩
    · exact absurd (by unfold putV; exact List.mem_cons_self) (hn (((mget D a).map ev).getD z))
    · rw [nodup_snd hmW.nodup hm2 (by unfold putV; exact List.mem_cons_self)] at hr2
      exact hr2
  · obtain ⟨o2, hr2, hm⟩ := hs W hW (ev c)
    rw [mt_filter hinj h.2 ha c] at hm
    exact ⟨o2, hr2, hm, mput_ok h.2 ha c⟩
end
end Go.Proofs.Ytkkhojealihghaa
