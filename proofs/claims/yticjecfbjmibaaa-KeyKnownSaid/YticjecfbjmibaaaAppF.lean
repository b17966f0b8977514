/- append onto a slice that is full (its length is its capacity): the row is laid anew. Plain laws, no condition of their own. -/
import Derived.Test.YticjecfbjmibaaaAppK
namespace Go.Proofs.Yticjecfbjmibaaa
open Go.RowKit
section
variable {P : Program} {t e : TypeId} {z : Value} {size bytes : Nat}
theorem run_append_full (E : Elt P t e z size bytes) (w : World) (base : Nat) (ty : TypeId) (s : Addr) (n : Nat) (xs : List Value) (hx : xs.length = n * size) (hxs : ∀ j u, xs[j]? = some u → w.cell? (s.add j) = some u)
    (a : Addr) (m c : Nat) (news : List Value) (hl : news.length = m * size) (hnews : ∀ j u, news[j]? = some u → w.cell? (a.add j) = some u) (hm : 0 < m)
    (h63 : n + m ≤ maxLen) (hbytes : (n + m) * bytes ≤ 140737488355328) (hbase : base ≤ w.heap.size) :
    ∃ v' w', (Builtin.append_ #[t, t] ty #[.slice (some s) n n, .slice (some a) m c]).run P w = .ok v' w' ∧ w'.ownsRow base e size v' (n + m) (xs ++ news) ∧ Below w.heap.size w w' := by
  obtain ⟨i, hi, hz, hsize, hby⟩ := info_parts E.info
  have ht := E.ht
  have hzs := E.hzs
  subst hsize
  subst hby
  have hsmall : n + m ≤ 9223372036854775807 := by simp only [maxLen] at h63; omega
  have hlen : (xs ++ news).length = (n + m) * i.size := by rw [List.length_append, hx, hl, Nat.add_mul]
  have hr := run_append_grow (P := P) w t ty e i z ht hi hz s n n xs hx hxs a m c news hl hnews (by omega) (by omega) (growslice_fits (by omega) hbytes)
  have hge := grownCap_ge w (n + m) n e
  have hcm : grownCap w (n + m) n e ≤ maxLen := grownCap_le_maxLen w (n + m) n e h63
  refine ⟨_, _, hr, ⟨hlen, .inr ⟨w.heap.size, _, _, rfl, hbase, heap_alloc_new w.drew _, hge, hcm, ?_, ?_⟩⟩, ?_⟩
  · simp only [Array.size_append, List.size_toArray, size_zeroCells, hzs, hx, hl, ← Nat.add_mul]
    congr 1
    omega
  · simp only [Array.toList_append, List.append_assoc]
    rw [← List.append_assoc, ← hlen]
    exact List.take_left
  · have := (Below.refl w.heap.size w.drew).alloc (Nat.le_refl _) (.cells (xs.toArray ++ news.toArray ++ Builtin.zeroCells z.cells (grownCap w (n + m) n e - (n + m))) e)
    exact ⟨this.os, this.tape, this.output, this.size, this.block⟩

/-- append(s, x), s full: x has just been laid in a block of its own -/
theorem wpList_pushFull (E : Elt P t e z size bytes) {ops : Array Oper} {rest : List Oper} {o : Oper} {a : Act} {Q : Exit → Act → World → Prop} (hgd : o.guard = none) (s x : Operand)
    (ho : o.op = .call { callee := .builtin .append, args := #[s, x], argTypes := #[t, t] }) {W : World} {ad : Addr} {n B : Nat} {xs : List Value}
    (hs : a.eval s = .slice (some ad) n n) {cs : Array Value} {c : Nat} (hr : Rd W B size (some ad) n xs) (hn0 : 0 < n) (hB : B ≤ W.heap.size)
    (hx : a.eval x = .slice (some ⟨W.heap.size, 0, none⟩) 1 c) (hcs : cs.size = size)
    (hn : (n + 1) * bytes ≤ 140737488355328) (h63 : n + 1 ≤ maxLen)
    (h : ∀ v' w', w'.ownsRow W.heap.size e size v' (n + 1) (xs ++ cs.toList) → Below W.heap.size W w' → wpList P ops Q rest (a.put o.dst v') w') :
    wpList P ops Q (o :: rest) a (W.alloc (.cells cs e)) := by
  obtain ⟨b, off, hA, hb, hc⟩ := (hr.alloc hB (.cells cs e)).2.2 hn0
  injection hA with hA
  subst hA
  obtain ⟨v', w', hrun, h2, h3⟩ := run_append_full E (W.alloc (.cells cs e)) W.heap.size o.type ⟨b, off, none⟩ n xs hr.1 (fun j u hu => by rw [add_none]; exact hc j u hu)
    ⟨W.heap.size, 0, none⟩ 1 c cs.toList (by simp [hcs]) (fun j u hu => by rw [add_none, Nat.zero_add, cell_new, ← hu, Array.getElem?_toList]) (by omega) h63 hn (by simp)
  have h3' : Below W.heap.size W w' := ((Below.refl _ _).alloc (Nat.le_refl _) (.cells cs e)).trans (h3.mono (by simp))
  refine wpList_plain hgd fun K hK => ?_
  unfold Oper.wp execOp
  simp only [ho, resolve, invoke, builtin, Sem.run_bind, Sem.run_pure, Result.andThen_ok, List.map_toArray, List.map_cons, List.map_nil, hs, hx, hrun]
  exact hK _ _ (h v' w' h2 h3')
/-- append(s, x...), s full, x a row that has just been laid -/
theorem wpList_appFull (E : Elt P t e z size bytes) {ops : Array Oper} {rest : List Oper} {o : Oper} {a : Act} {Q : Exit → Act → World → Prop} (hgd : o.guard = none) (s x : Operand)
    (ho : o.op = .call { callee := .builtin .append, args := #[s, x], argTypes := #[t, t] }) {W : World} {ad : Addr} {n m B : Nat} {xs : List Value}
    (hs : a.eval s = .slice (some ad) n n) {cs : Array Value} {c : Nat} (hr : Rd W B size (some ad) n xs) (hn0 : 0 < n) (hm0 : 0 < m) (hB : B ≤ W.heap.size)
    (hx : a.eval x = .slice (some ⟨W.heap.size, 0, none⟩) m c) (hcs : cs.size = m * size)
    (hn : (n + m) * bytes ≤ 140737488355328) (h63 : n + m ≤ maxLen)
    (h : ∀ v' w', w'.ownsRow W.heap.size e size v' (n + m) (xs ++ cs.toList) → Below W.heap.size W w' → wpList P ops Q rest (a.put o.dst v') w') :
    wpList P ops Q (o :: rest) a (W.alloc (.cells cs e)) := by
  obtain ⟨b, off, hA, hb, hc⟩ := (hr.alloc hB (.cells cs e)).2.2 hn0
  injection hA with hA
  subst hA
  obtain ⟨v', w', hrun, h2, h3⟩ := run_append_full E (W.alloc (.cells cs e)) W.heap.size o.type ⟨b, off, none⟩ n xs hr.1 (fun j u hu => by rw [add_none]; exact hc j u hu)
    ⟨W.heap.size, 0, none⟩ m c cs.toList (by simp [hcs]) (fun j u hu => by rw [add_none, Nat.zero_add, cell_new, ← hu, Array.getElem?_toList]) hm0 h63 hn (by simp)
  have h3' : Below W.heap.size W w' := ((Below.refl _ _).alloc (Nat.le_refl _) (.cells cs e)).trans (h3.mono (by simp))
  refine wpList_plain hgd fun K hK => ?_
  unfold Oper.wp execOp
  simp only [ho, resolve, invoke, builtin, Sem.run_bind, Sem.run_pure, Result.andThen_ok, List.map_toArray, List.map_cons, List.map_nil, hs, hx, hrun]
  exact hK _ _ (h v' w' h2 h3')
end
end Go.Proofs.Yticjecfbjmibaaa
