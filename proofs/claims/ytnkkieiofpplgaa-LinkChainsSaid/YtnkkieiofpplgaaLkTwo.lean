/- Two links beside each other: what is added to the one leaves the other. Plain laws over worlds. -/
import Derived.Test.YtnkkieiofpplgaaLk3
namespace Go.Proofs.Ytnkkieiofpplgaa
open Go.RowKit

structure Two (w0 W : World) (g bh ba : Nat) (v : Value) (S : LS) (g' bh' ba' : Nat) (v' : Value) (S' : LS) : Prop where
  fst : Lk W w0.heap.size g bh ba v S
  snd : Lk W w0.heap.size g' bh' ba' v' S'
  dj : Dj (lkF g bh ba v) (lkF g' bh' ba' v')
  low : Below w0.heap.size w0 W
section
variable {w0 W W' : World} {g bh ba : Nat} {v : Value} {S S1 : LS} {g' bh' ba' : Nat} {v' : Value} {S' : LS}
theorem Two.swap (h : Two w0 W g bh ba v S g' bh' ba' v' S') : Two w0 W g' bh' ba' v' S' g bh ba v S := ⟨h.snd, h.fst, h.dj.symm, h.low⟩
theorem Two.after (h : Two w0 W g bh ba v S g' bh' ba' v' S') (hb : Below W.heap.size W W') : Two w0 W' g bh ba v S g' bh' ba' v' S' := ⟨h.fst.after hb, h.snd.after hb, h.dj, belowGo h.low hb⟩
theorem lkF_new {n : Nat} {v1 : Value} {s : List (Option Nat)} (d : Dj (lkF g bh ba v) s) (hs : ∀ j, some j ∈ s → j < n) (hx : ∀ j, v1.ownBlock = some j → v.ownBlock = some j ∨ n ≤ j) : Dj (lkF g bh ba v1) s := fun j hj hm => by
  have h1 := hs j hm
  simp only [lkF, List.mem_cons, List.not_mem_nil, or_false] at hj
  rcases hj with hj | hj | hj | hj
  · exact d j (by simp [lkF, hj]) hm
  · exact d j (by simp [lkF, hj]) hm
  · exact d j (by simp [lkF, hj]) hm
  · rcases hx j hj.symm with h2 | h2
    · exact d j (by simp [lkF, h2]) hm
    · omega
theorem Two.add {cd : Nat} {e : Ending} (h : Two w0 W g bh ba v S g' bh' ba' v' S') (r : RetAdd W w0.heap.size g bh ba v S1 cd e W') : ∃ v1, e = .returned (.int .i64 (cd : Int)) ∧ Two w0 W' g bh ba v1 S1 g' bh' ba' v' S' := by
  obtain ⟨v1, he, hl, hk, hx⟩ := r
  exact ⟨v1, he, hl, h.snd.kp hk h.dj.symm, lkF_new h.dj h.snd.lt hx, h.low.trans (hk.below h.fst.lo h.low.size)⟩
theorem Two.addq {cd : Nat} {e : Ending} (h : Two w0 W g bh ba v S g' bh' ba' v' S') (r : RetAdd W w0.heap.size g bh ba v S1 cd e W') {g5 : Nat} {t : TypeId} {cs : Array Value} (q : Blk W g5 t cs) (hn : ∀ j, some j ∈ lkF g bh ba v → j ≠ g5) :
    ∃ v1, e = .returned (.int .i64 (cd : Int)) ∧ Two w0 W' g bh ba v1 S1 g' bh' ba' v' S' ∧ Blk W' g5 t cs ∧ ∀ j, some j ∈ lkF g bh ba v1 → j ≠ g5 := by
  obtain ⟨v1, he, hl, hk, hx⟩ := r
  refine ⟨v1, he, ⟨hl, h.snd.kp hk h.dj.symm, lkF_new h.dj h.snd.lt hx, h.low.trans (hk.below h.fst.lo h.low.size)⟩, q.kp hk fun hm => hn _ hm rfl, fun j hj e => ?_⟩
  subst e
  exact lkF_new (s := [some j]) (fun i hi hm => hn i hi (by simpa using hm)) (fun i hi => by have := q.lt; simp at hi; omega) hx j hj (by simp)
theorem Two.new {w1 w2 : World} (h1 : Lk w1 w0.heap.size g bh ba v S) (b1 : Below w0.heap.size w0 w1) (h2 : Lk w2 w1.heap.size g' bh' ba' v' S') (b2 : Below w1.heap.size w1 w2) : Two w0 w2 g bh ba v S g' bh' ba' v' S' :=
  ⟨h1.after b2, h2.low b1.size, fun j hj hj' => by
    have := h1.lt j hj
    have := h2.lo j hj'
    omega, belowGo b1 b2⟩
theorem Kp.setRow (w : World) (g : Nat) (cs : Array Value) : Kp [some g] w (w.setRow g cs) := ⟨rfl, rfl, rfl, by rw [row_size]; exact Nat.le_refl _, fun j _ hn => row_other (by simpa using hn) cs⟩
theorem Two.setRow {n : Nat} (h : Two w0 W g bh ba v S g' bh' ba' v' S') (h1 : ∀ j, some j ∈ lkF g bh ba v → j ≠ n) (h2 : ∀ j, some j ∈ lkF g' bh' ba' v' → j ≠ n) (hn : w0.heap.size ≤ n) (cs : Array Value) : Two w0 (W.setRow n cs) g bh ba v S g' bh' ba' v' S' :=
  ⟨h.fst.kp (Kp.setRow W n cs) fun j hj hm => h1 j hj (by simpa using hm), h.snd.kp (Kp.setRow W n cs) fun j hj hm => h2 j hj (by simpa using hm), h.dj, row_below h.low hn cs⟩
end
end Go.Proofs.Ytnkkieiofpplgaa
