/- Links in memory: what the stores of Add leave. Plain laws over worlds. -/
import Derived.Test.YtnkkieiofpplgaaLk2b
namespace Go.Proofs.Ytnkkieiofpplgaa
open Go.RowKit
open Go.ChangeMaps (setBlock)

section
variable {w w' : World} {B g bh ba : Nat} {v v' : Value} {S : LS}
theorem mp_own_ne {P : Program} {k : TypeId} {b n size : Nat} {e : TypeId} {xs : List Value} {L : List (Value × Value)} (hm : Mp P k w b L) (ho : Ow w B e size v n xs) : some b ≠ v.ownBlock := by
  obtain ⟨es, c, hb, _⟩ := hm
  rcases ho.2 with ⟨rfl, _⟩ | ⟨k, cap, cur, rfl, _, hh, _⟩
  · intro h; cases h
  · intro he
    injection he with he
    dsimp only at he
    subst he
    rw [hb] at hh
    cases hh
theorem mp_blk_ne {P : Program} {k t : TypeId} {b : Nat} {cs : Array Value} {L : List (Value × Value)} (hm : Mp P k w b L) (hq : Blk w g t cs) : b ≠ g := by
  obtain ⟨es, c, hb, _⟩ := hm
  intro e
  subst e
  unfold Blk at hq
  rw [hb] at hq
  cases hq
theorem Lk.push (h : Lk w B g bh ba v S) (a : Nat × Nat) (hg : w.grownBy w' v.ownBlock) (ho : Ow w' B 34 2 v' (S.wrong.length + 1) (lcs S.wrong ++ [.int .u32 (a.1 : Int), .int .u32 (a.2 : Int)])) :
    Lk (w'.setCell ⟨g, 2, none⟩ v') B g bh ba v' ⟨S.heads, S.ahead, S.wrong ++ [a], S.last⟩ ∧ Kp (lkF g bh ba v) w (w'.setCell ⟨g, 2, none⟩ v') := by
  obtain ⟨h1, h2, h3, h4, q, mh, ma, o⟩ := h
  have k1 := Kp.grown hg
  have q1 : Blk w' g 71 _ := q.kp k1 (by simpa using own_blk_ne q o (by decide))
  have mh1 := mh.kp k1 (by simpa using mp_own_ne mh.1 o)
  have ma1 := ma.kp k1 (by simpa using mp_own_ne ma.1 o)
  have k2 := Kp.set w' ⟨g, 2, none⟩ v'
  have q2 := q1.set_ 2 v'
  refine ⟨⟨h1, h2, h3, h4, q2, mh1.kp k2 (by simpa using mp_blk_ne mh1.1 q1), ma1.kp k2 (by simpa using mp_blk_ne ma1.1 q1), ?_⟩, ?_⟩
  · rw [lcs_snoc, List.length_append]
    exact Ow.kp ho k2 fun j hj => by
      have := own_blk_ne q1 ho (by decide)
      rw [hj] at this
      simpa [eq_comm] using this
  · refine (k1.more fun j hj => ?_).same (k2.more fun j hj => ?_)
    · simp only [List.mem_singleton] at hj; simp [lkF, hj]
    · simp only [List.mem_singleton, Option.some.injEq] at hj; subst hj; simp [lkF]
theorem Lk.setLast (h : Lk w B g bh ba v S) (q : Nat) : Lk (w.setCell ⟨g, 3, none⟩ (.int .u64 (q : Int))) B g bh ba v ⟨S.heads, S.ahead, S.wrong, q⟩ ∧ Kp (lkF g bh ba v) w (w.setCell ⟨g, 3, none⟩ (.int .u64 (q : Int))) := by
  obtain ⟨h1, h2, h3, h4, qg, mh, ma, o⟩ := h
  have k2 := Kp.set w ⟨g, 3, none⟩ (.int .u64 (q : Int))
  refine ⟨⟨h1, h2, h3, h4, qg.set_ 3 (.int .u64 (q : Int)), mh.kp k2 (by simpa using mp_blk_ne mh.1 qg), ma.kp k2 (by simpa using mp_blk_ne ma.1 qg), ?_⟩, k2.more fun j hj => ?_⟩
  · exact Ow.kp o k2 fun j hj => by
      have := own_blk_ne qg o (by decide)
      rw [hj] at this
      simpa [eq_comm] using this
  · simp only [List.mem_singleton, Option.some.injEq] at hj; subst hj; simp [lkF]
theorem Lk.setAhead (h : Lk w B g bh ba v S) (a b : Nat × Nat) (ha : LOk a) : ∃ o, (Instr.mapUpdate 69 (.map (some ba)) (locP a) (locP b)).run Try.prog w = .ok () (setBlock w ba o) ∧ Lk (setBlock w ba o) B g bh ba v ⟨S.heads, mput a b S.ahead, S.wrong, S.last⟩ ∧ Kp (lkF g bh ba v) w (setBlock w ba o) := by
  obtain ⟨h1, h2, h3, h4, q, mh, ma, o⟩ := h
  obtain ⟨o2, hr, m2⟩ := ma.store locP_inj loc_keyed Try.underlying69 ha (loc_key ha).choose_spec b
  have k := Kp.setBlock w ba o2
  refine ⟨o2, hr, ⟨h1, h2, h3, h4, q.kp k (by simpa using (mp_blk_ne ma.1 q).symm), mh.kp k (by simpa using h4), m2, ?_⟩, k.more fun j hj => ?_⟩
  · exact Ow.kp o k fun j hj => by
      have := mp_own_ne ma.1 o
      rw [hj] at this
      simpa [eq_comm] using this
  · simp only [List.mem_singleton, Option.some.injEq] at hj; subst hj; simp [lkF]
theorem Lk.setHead (h : Lk w B g bh ba v S) (l : List UInt8) (hd : Nat × Nat × Nat × Int) (hl : KOk l) : ∃ o, (Instr.mapUpdate 68 (.map (some bh)) (kpv l) (hdV hd)).run Try.prog w = .ok () (setBlock w bh o) ∧ Lk (setBlock w bh o) B g bh ba v ⟨mput l hd S.heads, S.ahead, S.wrong, S.last⟩ ∧ Kp (lkF g bh ba v) w (setBlock w bh o) := by
  obtain ⟨h1, h2, h3, h4, q, mh, ma, o⟩ := h
  obtain ⟨o2, hr, m2⟩ := mh.store kpv_inj print_keyed Try.underlying68 hl (kpv_key hl).choose_spec hd
  have k := Kp.setBlock w bh o2
  refine ⟨o2, hr, ⟨h1, h2, h3, h4, q.kp k (by simpa using (mp_blk_ne mh.1 q).symm), m2, ma.kp k (by simpa using fun e => h4 e.symm), ?_⟩, k.more fun j hj => ?_⟩
  · exact Ow.kp o k fun j hj => by
      have := mp_own_ne mh.1 o
      rw [hj] at this
      simpa [eq_comm] using this
  · simp only [List.mem_singleton, Option.some.injEq] at hj; subst hj; simp [lkF]
theorem Lk.blkA (h : Lk w B g bh ba v S) {g' : Nat} {t : TypeId} {cs : Array Value} (q : Blk w g' t cs) (o : Obj) : Blk (setBlock w ba o) g' t cs := q.kp (Kp.setBlock w ba o) (by simpa using (mp_blk_ne h.2.2.2.2.2.2.1.1 q).symm)
theorem Lk.blkH (h : Lk w B g bh ba v S) {g' : Nat} {t : TypeId} {cs : Array Value} (q : Blk w g' t cs) (o : Obj) : Blk (setBlock w bh o) g' t cs := q.kp (Kp.setBlock w bh o) (by simpa using (mp_blk_ne h.2.2.2.2.2.1.1 q).symm)
theorem lkF_step {w0 : World} (k : Kp (lkF g bh ba v) w0 w) (hx : ∀ j, v'.ownBlock = some j → v.ownBlock = some j ∨ w0.heap.size ≤ j) (k2 : Kp (lkF g bh ba v') w w') : Kp (lkF g bh ba v) w0 w' :=
  k.trans k2 fun j hj => by
    simp only [lkF, List.mem_cons, List.not_mem_nil, or_false] at hj ⊢
    rcases hj with hj | hj | hj | hj
    · exact .inl (.inl hj)
    · exact .inl (.inr (.inl hj))
    · exact .inl (.inr (.inr (.inl hj)))
    · rcases hx j hj.symm with h | h
      · exact .inl (.inr (.inr (.inr h.symm)))
      · exact .inr h
end
end Go.Proofs.Ytnkkieiofpplgaa
