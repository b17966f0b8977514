/- Two links and what lies beside them: laws that LinkHeads and LinkChains use. -/
import Derived.Test.YtnkkieiofpplgaaLkGd
import Derived.Test.YtnkkieiofpplgaaLkCh
namespace Go.Proofs.Ytnkkieiofpplgaa
open Go.RowKit

section
variable {w0 W W' : World} {g bh ba : Nat} {v : Value} {S S1 : LS} {g' bh' ba' : Nat} {v' : Value} {S' : LS}
theorem Two.addk {cd : Nat} {e : Ending} (h : Two w0 W g bh ba v S g' bh' ba' v' S') (r : RetAdd W w0.heap.size g bh ba v S1 cd e W') :
    ∃ v1, e = .returned (.int .i64 (cd : Int)) ∧ Two w0 W' g bh ba v1 S1 g' bh' ba' v' S' ∧ Kp (lkF g bh ba v) W W' := by
  obtain ⟨v1, he, hl, hk, hx⟩ := r
  exact ⟨v1, he, ⟨hl, h.snd.kp hk h.dj.symm, lkF_new h.dj h.snd.lt hx, h.low.trans (hk.below h.fst.lo h.low.size)⟩, hk⟩
theorem set_size (w : World) (p : Addr) (x : Value) : (w.setCell p x).heap.size = w.heap.size := by simp [World.setCell]
theorem Below.both {B : Nat} {w w' : World} (h : Below B w w') (p : Addr) (x : Value) : Below B (w.setCell p x) (w'.setCell p x) :=
  ⟨h.os, h.tape, h.output, by rw [set_size, set_size]; exact h.size, fun j hj => by
    have h1 := h.block j hj
    simp only [World.setCell, Array.getElem?_modify, h1]⟩
theorem Two.setLow (h : Two w0 W g bh ba v S g' bh' ba' v' S') {p : Addr} (hp : p.block < w0.heap.size) (x : Value) : Two (w0.setCell p x) (W.setCell p x) g bh ba v S g' bh' ba' v' S' := by
  refine ⟨?_, ?_, h.dj, ?_⟩
  · rw [set_size]
    exact h.fst.kp (Kp.set W p x) fun j hj hm => by
      have h1 := h.fst.lo j hj
      have h2 : j = p.block := by simpa using hm
      omega
  · rw [set_size]
    exact h.snd.kp (Kp.set W p x) fun j hj hm => by
      have h1 := h.snd.lo j hj
      have h2 : j = p.block := by simpa using hm
      omega
  · rw [set_size]
    exact Below.both h.low p x
theorem Two.setHi (h : Two w0 W g bh ba v S g' bh' ba' v' S') {p : Addr} (hp : w0.heap.size ≤ p.block) (h1 : some p.block ∉ lkF g bh ba v) (h2 : some p.block ∉ lkF g' bh' ba' v') (x : Value) : Two w0 (W.setCell p x) g bh ba v S g' bh' ba' v' S' :=
  ⟨h.fst.kp (Kp.set W p x) fun j hj hm => h1 (by rw [← List.mem_singleton.1 hm]; exact hj), h.snd.kp (Kp.set W p x) fun j hj hm => h2 (by rw [← List.mem_singleton.1 hm]; exact hj), h.dj, h.low.setCell hp x⟩
theorem Two.fresh (h : Two w0 W g bh ba v S g' bh' ba' v' S') {j : Nat} (hj : W.heap.size ≤ j) : some j ∉ lkF g bh ba v ∧ some j ∉ lkF g' bh' ba' v' :=
  ⟨fun hm => by have := h.fst.lt j hm; omega, fun hm => by have := h.snd.lt j hm; omega⟩
theorem lkF_keep {v1 : Value} {n j : Nat} (hx : ∀ j, v1.ownBlock = some j → v.ownBlock = some j ∨ n ≤ j) (hj : j < n) (h : some j ∉ lkF g bh ba v) : some j ∉ lkF g bh ba v1 := fun hm =>
  lkF_new (s := [some j]) (fun i hi hm => h (by rw [← List.mem_singleton.1 hm]; exact hi)) (fun i hi => by simp at hi; omega) hx j hm (by simp)
theorem Two.addf {cd : Nat} {e : Ending} (h : Two w0 W g bh ba v S g' bh' ba' v' S') (r : RetAdd W w0.heap.size g bh ba v S1 cd e W') {j : Nat} (hj : j < W.heap.size) (hn : some j ∉ lkF g bh ba v) :
    ∃ v1, e = .returned (.int .i64 (cd : Int)) ∧ Two w0 W' g bh ba v1 S1 g' bh' ba' v' S' ∧ W'.heap[j]? = W.heap[j]? ∧ some j ∉ lkF g bh ba v1 := by
  obtain ⟨v1, he, hl, hk, hx⟩ := r
  exact ⟨v1, he, ⟨hl, h.snd.kp hk h.dj.symm, lkF_new h.dj h.snd.lt hx, h.low.trans (hk.below h.fst.lo h.low.size)⟩, hk.block j hj hn, lkF_keep hx hj hn⟩
end
theorem KB.ne_blk {w : World} {g g' : Nat} {l : List UInt8} {t : TypeId} {cs : Array Value} (h : KB w g l) (hq : Blk w g' t cs) (hne : 5 ≠ t) : g ≠ g' := by
  obtain ⟨cs', fr, h1, h2⟩ := h
  intro e
  subst e
  unfold Blk at hq
  rw [h1] at hq
  injection hq with hq
  injection hq with _ hq
  exact hne hq
theorem locsOf_mem {d : List LR} {c : UInt8} : locsOf d c ≠ [] ↔ ∃ r ∈ d, r.c = c := by
  constructor
  · intro h
    obtain ⟨a, ha⟩ := List.exists_mem_of_ne_nil _ h
    unfold locsOf at ha
    obtain ⟨r, hr, -⟩ := List.mem_map.1 ha
    have := List.mem_filter.1 hr
    exact ⟨r, this.1, by simpa using this.2⟩
  · rintro ⟨r, hr, hc⟩ h
    have : r.at_ ∈ locsOf d c := by
      unfold locsOf
      exact List.mem_map.2 ⟨r, List.mem_filter.2 ⟨hr, by simpa using hc⟩, rfl⟩
    rw [h] at this
    cases this
/-- links have as many heads as there are keys -/
theorem heads_len {S : LS} {d : List LR} {wr : List (Nat × Nat)} {D : List (UInt8 × (Value × List (Nat × Nat)))} (h : Is S d wr) (hn : (S.heads.map (·.1)).Nodup) (hD : (D.map (·.1)).Nodup) (hh : Holds D d) (hne : ∀ p ∈ D, p.2.2 ≠ []) : S.heads.length = D.length := by
  have hp : (S.heads.map (·.1)).Perm ((D.map (·.1)).map fun c => [c]) := by
    have h2 : ((D.map (·.1)).map fun c => [c]).Nodup := by
      refine List.Pairwise.map _ (fun a b hab e => hab ?_) hD
      injection e
    refine (List.perm_ext_iff_of_nodup hn h2).2 fun k => ?_
    constructor
    · intro hk
      obtain ⟨q, hq, rfl⟩ := List.mem_map.1 hk
      obtain ⟨c, hc, hr⟩ := h.only q hq
      have h3 : locsOf d c ≠ [] := locsOf_mem.2 hr
      rw [← hh c] at h3
      unfold curD at h3
      cases hg : mget D c with
      | none => rw [hg] at h3; exact absurd rfl h3
      | some p => exact List.mem_map.2 ⟨c, List.mem_map.2 ⟨(c, p), mget_some hg, rfl⟩, hc.symm⟩
    · intro hk
      obtain ⟨c, hc, rfl⟩ := List.mem_map.1 hk
      obtain ⟨⟨c', p⟩, hp, rfl⟩ := List.mem_map.1 hc
      have h3 := hne _ hp
      have h4 := hh c'
      unfold curD at h4
      rw [mget_mem hD hp] at h4
      have h5 : locsOf d c' ≠ [] := by rw [← h4]; exact h3
      have h6 : (locsOf d c').getLast? ≠ none := by simpa using h5
      rw [locs_last] at h6
      have h7 := h.heads c'
      cases hl : lastOf d c' with
      | none => rw [hl] at h6; exact absurd rfl h6
      | some r =>
        rw [hl] at h7
        exact List.mem_map.2 ⟨_, mget_some h7, rfl⟩
  have := hp.length_eq
  simpa using this
theorem rowAt {l : List LX} {w : World} {p off j : Nat} {x : LX} (hc : ∀ k u, (lxCells l)[k]? = some u → w.cell? ⟨p, off + k, none⟩ = some u) (hx : l[j]? = some x) : At w p (off + j * 9) x.cells := fun k u hu => by
  have hk : k < 9 := (List.getElem?_eq_some_iff.1 hu).1
  have := flatMap_get LX.cells 9 (fun _ => rfl) l j k hk
  rw [Nat.add_assoc]
  refine hc _ _ ?_
  unfold lxCells
  rw [this, hx]
  exact hu
end Go.Proofs.Ytnkkieiofpplgaa
