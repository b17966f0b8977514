/- A range over a map that its rounds leave as it is: what is left, as a list of pairs. Plain laws, for every map. -/
import Derived.Test.YtkkhojealihghaaMap
import Derived.Test.YtkkhojealihghaaFoot
import Derived.Test.YtkkhojealihghaaExec
import Derived.Maps.RangeWalk
namespace Go.Proofs.Ytkkhojealihghaa
open Go.RowKit
open Go.ChangeMaps (setBlock)
open Go.Maps (Keyed)

section
variable {α β : Type} {P : Program} {k t e : TypeId} {w w' : World} {b r : Nat} {Ok : α → Prop} {ek : α → Value} {ev : β → Value} {D T : List (α × β)}
/-- a range under way: T is left -/
def Rg (w : World) (b r : Nat) (ek : α → Value) (ev : β → Value) (T : List (α × β)) : Prop :=
  ∃ es clock since seen c0, w.heap[b]? = some (.map es clock) ∧ w.heap[r]? = some (.mapIter (some b) since seen c0) ∧ (∀ x ∈ es.toList, x.born < since) ∧ since ≤ c0 ∧ since ≤ clock ∧ (es.toList.map (·.born)).Nodup ∧
    ((leftOf es seen).toList.map fun x => (x.key, x.val)).Perm (T.map fun p => (ek p.1, ev p.2))
theorem Rg.ne (h : Rg w b r ek ev T) : r ≠ b := by
  obtain ⟨es, clock, since, seen, c0, hb, hr, _⟩ := h
  intro e
  rw [e, hb] at hr
  cases hr
theorem Rg.lt (h : Rg w b r ek ev T) : r < w.heap.size := by
  obtain ⟨es, clock, since, seen, c0, hb, hr, _⟩ := h
  exact (Array.getElem?_eq_some_iff.1 hr).1
theorem Rg.ltb (h : Rg w b r ek ev T) : b < w.heap.size := by
  obtain ⟨es, clock, since, seen, c0, hb, hr, _⟩ := h
  exact (Array.getElem?_eq_some_iff.1 hb).1
theorem Rg.of_blocks (h : Rg w b r ek ev T) (hb : w'.heap[b]? = w.heap[b]?) (hr : w'.heap[r]? = w.heap[r]?) : Rg w' b r ek ev T := by
  obtain ⟨es, clock, since, seen, c0, h1, h2, h3⟩ := h
  exact ⟨es, clock, since, seen, c0, hb.trans h1, hr.trans h2, h3⟩
theorem Rg.kp {s : List (Option Nat)} (h : Rg w b r ek ev T) (k : Kp s w w') (hb : some b ∉ s) (hr : some r ∉ s) : Rg w' b r ek ev T := h.of_blocks (k.block b h.ltb hb) (k.block r h.lt hr)
theorem Rg.after (h : Rg w b r ek ev T) (hb : Below w.heap.size w w') : Rg w' b r ek ev T := h.of_blocks (hb.block b h.ltb) (hb.block r h.lt)
theorem Rg.left_eq (h : Rg w b r ek ev T) : w.rangeLeft b r = T.length := by
  obtain ⟨es, clock, since, seen, c0, hb, hr, _, _, _, _, hp⟩ := h
  have := hp.length_eq
  rw [List.length_map, List.length_map] at this
  simp only [World.rangeLeft, hb, hr]
  rw [← this]
  simp
theorem Rg.ne_own {B n size : Nat} {e : TypeId} {v : Value} {xs : List Value} (h : Rg w b r ek ev T) (ho : Ow w B e size v n xs) : some r ≠ v.ownBlock := by
  obtain ⟨es, clock, since, seen, c0, hb, hr, _⟩ := h
  rcases ho.2 with ⟨rfl, _⟩ | ⟨k, cap, cur, rfl, _, hh, _⟩
  · intro h; cases h
  · intro he
    injection he with he
    dsimp only at he
    subst he
    rw [hh] at hr
    cases hr
theorem Rg.ne_blk {g : Nat} {t : TypeId} {cs : Array Value} (h : Rg w b r ek ev T) (hq : Blk w g t cs) : r ≠ g := by
  obtain ⟨es, clock, since, seen, c0, hb, hr, _⟩ := h
  intro he
  subst he
  unfold Blk at hq
  rw [hq] at hr
  cases hr
theorem Rg.bne_own {B n size : Nat} {e : TypeId} {v : Value} {xs : List Value} (h : Rg w b r ek ev T) (ho : Ow w B e size v n xs) : some b ≠ v.ownBlock := by
  obtain ⟨es, clock, since, seen, c0, hb, hr, _⟩ := h
  rcases ho.2 with ⟨rfl, _⟩ | ⟨k, cap, cur, rfl, _, hh, _⟩
  · intro h; cases h
  · intro he
    injection he with he
    dsimp only at he
    subst he
    rw [hh] at hb
    cases hb
theorem Rg.grown {B n size : Nat} {e : TypeId} {v : Value} {xs : List Value} (h : Rg w b r ek ev T) (ho : Ow w B e size v n xs) (hg : w.grownBy w' v.ownBlock) : Rg w' b r ek ev T := h.kp (Kp.grown hg) (fun hm => h.bne_own ho (List.mem_singleton.1 hm)) fun hm => h.ne_own ho (List.mem_singleton.1 hm)
theorem Rg.owns_ne {g : Nat} {t : TypeId} {cs : Array Value} (h : Rg w b r ek ev T) (hq : Blk w g t cs) : b ≠ g := by
  obtain ⟨es, clock, since, seen, c0, hb, hr, _⟩ := h
  intro he
  subst he
  unfold Blk at hq
  rw [hq] at hb
  cases hb
theorem Rg.ne_map {k' : TypeId} {b' : Nat} {L : List (Value × Value)} (h : Rg w b r ek ev T) (hm : Mp P k' w b' L) : r ≠ b' := by
  obtain ⟨es, clock, since, seen, c0, hb, hr, _⟩ := h
  obtain ⟨es', c', hb', _⟩ := hm
  intro he
  subst he
  rw [hb'] at hr
  cases hr
/-- a range begins -/
theorem Mt.range (h : Mt P k w b Ok ek ev D) (ht : P.underlying t = some (.map k e)) :
    ∃ w', (Instr.range t (.map (some b))).run P w = .ok (.pointer (some ⟨w.heap.size, 0, none⟩)) w' ∧ Rg w' b w.heap.size ek ev D ∧ Below w.heap.size w w' ∧ w'.heap.size = w.heap.size + 1 := by
  have hlt := h.lt
  obtain ⟨⟨es, clock, hb, hs, hk, hp⟩, _⟩ := h
  refine ⟨_, run_range_map w t k e b es clock ht hb, ⟨es, clock, clock, #[], clock, ((MapKept.heap_alloc w _).2 b hlt).trans hb, (MapKept.heap_alloc w _).1, hs.1, Nat.le_refl _, Nat.le_refl _, hs.2.1, ?_⟩, belowAlloc (Below.refl _ _) _, by simp⟩
  unfold leftOf
  rw [Array.toList_filter, List.filter_eq_self.2 (fun _ _ => by simp)]
  exact hp
theorem left_push {es : Array MapEntry} {seen : Array Nat} {x : MapEntry} (hn : (es.toList.map (·.born)).Nodup) (hx : x ∈ (leftOf es seen).toList) :
    (leftOf es seen).toList.Perm (x :: (leftOf es (seen.push x.born)).toList) := by
  unfold leftOf at hx ⊢
  rw [Array.toList_filter] at hx ⊢
  rw [Array.toList_filter]
  obtain ⟨A, B, hAB⟩ := List.append_of_mem hx
  have hs : (es.toList.filter fun e => !(seen.push x.born).contains e.born) = (es.toList.filter fun e => !seen.contains e.born).filter fun e => decide (e.born ≠ x.born) := by
    rw [List.filter_filter]
    refine List.filter_congr fun y _ => ?_
    rw [contains_push]
    by_cases h : y.born = x.born
    · simp [h]
    · simp [h]
  have hnd : (((es.toList.filter fun e => !seen.contains e.born)).map (·.born)).Nodup := hn.sublist ((List.filter_sublist (p := fun e : MapEntry => !seen.contains e.born) (l := es.toList)).map (fun x : MapEntry => x.born))
  rw [hs, hAB]
  rw [hAB, List.map_append, List.map_cons, List.nodup_append] at hnd
  obtain ⟨h1, h2, h3⟩ := hnd
  rw [List.nodup_cons] at h2
  have fA : A.filter (fun e => decide (e.born ≠ x.born)) = A := List.filter_eq_self.2 fun y hy => decide_eq_true fun e => h3 _ (List.mem_map.2 ⟨y, hy, rfl⟩) _ (List.mem_cons_self ..) e
  have fB : B.filter (fun e => decide (e.born ≠ x.born)) = B := List.filter_eq_self.2 fun y hy => decide_eq_true fun e => h2.1 (List.mem_map.2 ⟨y, hy, e⟩)
  rw [List.filter_append, List.filter_cons, fA, fB]
  simp
theorem next_ty (v : Value) (ty ty' : TypeId) : Instr.next v false ty = Instr.next v false ty' := rfl
/-- the step -/
theorem Rg.next (h : Rg w b r ek ev T) (ty : TypeId) :
    (T = [] ∧ (Instr.next (.pointer (some ⟨r, 0, none⟩)) false ty).run P w = .ok (.tuple #[.bool false]) w) ∨
    ∃ p T' w1, p ∈ T ∧ T.Perm (p :: T') ∧ (Instr.next (.pointer (some ⟨r, 0, none⟩)) false ty).run P w = .ok (.tuple #[.bool true, ek p.1, ev p.2]) w1 ∧ Rg w1 b r ek ev T' ∧ Kp [some r] w w1 ∧ w1.heap.size = w.heap.size ∧
      ∀ W : World, W.heap[b]? = w1.heap[b]? → W.heap[r]? = w1.heap[r]? → (Instr.entry (.pointer (some ⟨r, 0, none⟩))).run P W = .ok (.tuple #[ek p.1, ev p.2]) W := by
  have hne := h.ne
  obtain ⟨es, clock, since, seen, c0, hb, hr, hold, hsc, hsk, hn, hp⟩ := h
  rcases run_next_at (P := P) w ty r b since c0 seen es clock hr hb hold hsc with ⟨h0, hrun⟩ | ⟨x, hx, w1, hal, hrun⟩
  · refine Or.inl ⟨?_, hrun⟩
    have := hp.length_eq
    rw [List.length_map, List.length_map, Array.length_toList, h0] at this
    exact List.eq_nil_of_length_eq_zero this.symm
  · right
    have hm : (x.key, x.val) ∈ T.map fun p => (ek p.1, ev p.2) := hp.mem_iff.1 (List.mem_map.2 ⟨x, hx, rfl⟩)
    obtain ⟨p, hpT, he⟩ := List.mem_map.1 hm
    injection he with he1 he2
    obtain ⟨T1, T2, rfl⟩ := List.append_of_mem hpT
    have hr1 : w1.heap[r]? = some (.mapIter (some b) since seen c0) := by rcases hal with rfl | rfl <;> exact hr
    have hb1 : w1.heap[b]? = some (.map es clock) := by rcases hal with rfl | rfl <;> exact hb
    have hs1 : w1.heap.size = w.heap.size := by rcases hal with rfl | rfl <;> rfl
    have hrl : r < w1.heap.size := (Array.getElem?_eq_some_iff.1 hr1).1
    have hk1 : Kp [some r] w w1 := by
      rcases hal with rfl | rfl
      · exact Kp.refl _ _
      · exact Kp.drew _ _
    have hb2 : (setBlock w1 r (.mapIter (some b) since (seen.push x.born) clock)).heap[b]? = some (.map es clock) := (setBlock_other (fun e => hne e.symm)).trans hb1
    have hr2 : (setBlock w1 r (.mapIter (some b) since (seen.push x.born) clock)).heap[r]? = some (.mapIter (some b) since (seen.push x.born) clock) := setBlock_heap hrl
    refine ⟨p, T1 ++ T2, _, hpT, List.perm_middle, by rw [he1, he2]; exact hrun, ⟨es, clock, since, seen.push x.born, clock, hb2, hr2, hold, hsk, hsk, hn, ?_⟩, hk1.same (Kp.setBlock _ _ _), by rw [setBlock_size, hs1], fun W h1 h2 => ?_⟩
    · have h1 := ((left_push hn hx).map fun x => (x.key, x.val)).symm.trans hp
      rw [List.map_cons] at h1
      have h2 := h1.trans ((List.perm_middle (a := p) (l₁ := T1) (l₂ := T2)).map fun p => (ek p.1, ev p.2))
      rw [List.map_cons, he1, he2] at h2
      exact h2.cons_inv
    · rw [he1, he2]
      exact run_entry_at W r b since seen es clock x (h2.trans hr2) (h1.trans hb2) (mem_left hx).1 hn
end
section
variable {α β : Type} {P : Program} {ops : Array Oper} {rest : List Oper} {o : Oper} {a : Act} {w w' : World} {Q : Exit → Act → World → Prop} {b r : Nat} {ek : α → Value} {ev : β → Value} {T : List (α × β)}
theorem exec_range {ρ : Operand → Value} {t : TypeId} {m : Operand} {v : Value} (ho : o.op = .range t m) (h : (Instr.range t (ρ m)).run P w = .ok v w') : (execOp ρ o).run P w = .ok (.value v) w' := by
  unfold execOp; rw [ho]; simp only [Sem.run_bind, h, Result.andThen_ok, Sem.run_pure]
theorem exec_next {ρ : Operand → Value} {it : Operand} {v : Value} (ho : o.op = .next it false) (h : (Instr.next (ρ it) false o.type).run P w = .ok v w') : (execOp ρ o).run P w = .ok (.value v) w' := by
  unfold execOp; rw [ho]; simp only [Sem.run_bind, h, Result.andThen_ok, Sem.run_pure]
theorem exec_ent {ρ : Operand → Value} {it : Operand} {v : Value} (ho : o.op = .entry it) (h : (Instr.entry (ρ it)).run P w = .ok v w') : (execOp ρ o).run P w = .ok (.value v) w' := by
  unfold execOp; rw [ho]; simp only [Sem.run_bind, h, Result.andThen_ok, Sem.run_pure]
/-- the step, at the operation -/
theorem wpList_nextR (hw : Region.wanted o (yielded ops a.tmps) = true) (it : Operand) (ho : o.op = .next it false) (hit : a.eval it = .pointer (some ⟨r, 0, none⟩)) (h : Rg w b r ek ev T)
    (h0 : T = [] → wpList P ops Q rest (a.put o.dst (.tuple #[.bool false])) w)
    (h1 : ∀ p T' w1, p ∈ T → T.Perm (p :: T') → Rg w1 b r ek ev T' → Kp [some r] w w1 → w1.heap.size = w.heap.size → (∀ W : World, W.heap[b]? = w1.heap[b]? → W.heap[r]? = w1.heap[r]? → (Instr.entry (.pointer (some ⟨r, 0, none⟩))).run P W = .ok (.tuple #[ek p.1, ev p.2]) W) → wpList P ops Q rest (a.put o.dst (.tuple #[.bool true, ek p.1, ev p.2])) w1) :
    wpList P ops Q (o :: rest) a w := by
  rcases h.next (P := P) o.type with ⟨ht, hr⟩ | ⟨p, T', w1, hp, hT, hr, hg, hk, hs, he⟩
  · exact wpList_value hw (exec_next ho (by rw [hit]; exact hr)) (h0 ht)
  · exact wpList_value hw (exec_next ho (by rw [hit]; exact hr)) (h1 p T' w1 hp hT hg hk hs he)
end
end Go.Proofs.Ytkkhojealihghaa
