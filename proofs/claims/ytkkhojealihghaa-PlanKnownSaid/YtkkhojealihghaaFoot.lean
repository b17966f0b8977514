/- What a call may change: the blocks of a list, and new ones. Plain laws, no condition. -/
import Derived.Test.YtkkhojealihghaaTyped
import Derived.Test.YtkkhojealihghaaMap
import Derived.Test.YtkkhojealihghaaPlan
namespace Go.Proofs.Ytkkhojealihghaa
open Go.RowKit

/-- all that was there stands, but for the blocks of a list -/
structure Kp (s : List (Option Nat)) (w w' : World) : Prop where
  os : w'.os = w.os
  tape : w'.tape = w.tape
  output : w'.output = w.output
  size : w.heap.size ≤ w'.heap.size
  block : ∀ j, j < w.heap.size → some j ∉ s → w'.heap[j]? = w.heap[j]?
section
variable {s s' : List (Option Nat)} {w w1 w' : World}
theorem Kp.refl (s : List (Option Nat)) (w : World) : Kp s w w := ⟨rfl, rfl, rfl, Nat.le_refl _, fun _ _ _ => rfl⟩
theorem Kp.of_below {B : Nat} (h : Below B w w') (hB : ∀ j, j < w.heap.size → some j ∉ s → j < B) : Kp s w w' := ⟨h.os, h.tape, h.output, h.size, fun j hj hn => h.block j (hB j hj hn)⟩
theorem Kp.of_new (h : Below w.heap.size w w') : Kp s w w' := Kp.of_below h fun _ hj _ => hj
theorem Kp.trans (h : Kp s w w1) (h' : Kp s' w1 w') (hs : ∀ j, some j ∈ s' → some j ∈ s ∨ w.heap.size ≤ j) : Kp s w w' :=
  ⟨h'.os.trans h.os, h'.tape.trans h.tape, h'.output.trans h.output, Nat.le_trans h.size h'.size, fun j hj hn =>
    (h'.block j (Nat.lt_of_lt_of_le hj h.size) fun hm => (hs j hm).elim hn fun hl => by omega).trans (h.block j hj hn)⟩
theorem Kp.same (h : Kp s w w1) (h' : Kp s w1 w') : Kp s w w' := h.trans h' fun _ hj => .inl hj
theorem Kp.go (h : Kp s w w1) (h' : Below w1.heap.size w1 w') : Kp s w w' := h.same (Kp.of_new h')
theorem Kp.more (h : Kp s w w') (hs : ∀ j, some j ∈ s → some j ∈ s') : Kp s' w w' := ⟨h.os, h.tape, h.output, h.size, fun j hj hn => h.block j hj fun hm => hn (hs j hm)⟩
theorem Kp.below (h : Kp s w w') {B : Nat} (hs : ∀ j, some j ∈ s → B ≤ j) (hB : B ≤ w.heap.size) : Below B w w' :=
  ⟨h.os, h.tape, h.output, h.size, fun j hj => h.block j (by omega) fun hm => by have := hs j hm; omega⟩
theorem Kp.set (w : World) (p : Addr) (v : Value) : Kp [some p.block] w (w.setCell p v) := by
  have g := grown_set w p v
  exact ⟨g.os, g.tape, g.output, g.size, fun j hj hn => g.block j hj (by simpa using hn)⟩
theorem Kp.grown {r : Option Nat} (g : w.grownBy w' r) : Kp [r] w w' := ⟨g.os, g.tape, g.output, g.size, fun j hj hn => g.block j hj (by simpa using hn)⟩
theorem Kp.setBlock (w : World) (b : Nat) (o : Obj) : Kp [some b] w (ChangeMaps.setBlock w b o) :=
  ⟨rfl, rfl, rfl, by rw [setBlock_size]; exact Nat.le_refl _, fun j _ hn => setBlock_other (by simpa using hn)⟩
theorem Kp.drew (s : List (Option Nat)) (w : World) : Kp s w w.drew := ⟨rfl, rfl, rfl, Nat.le_refl _, fun _ _ _ => rfl⟩
theorem Blk.kp {g : Nat} {t : TypeId} {cs : Array Value} (h : Blk w g t cs) (k : Kp s w w') (hn : some g ∉ s) : Blk w' g t cs := (k.block g h.lt hn).trans h
theorem Ow.of_block {B n size : Nat} {e : TypeId} {v : Value} {xs : List Value} (h : Ow w B e size v n xs) (hb : ∀ k, v.ownBlock = some k → w'.heap[k]? = w.heap[k]?) : Ow w' B e size v n xs := by
  refine ⟨h.1, ?_⟩
  rcases h.2 with hn | ⟨g, cap, cur, rfl, hB, hg, rest⟩
  · exact .inl hn
  · exact .inr ⟨g, cap, cur, rfl, hB, (hb g rfl).trans hg, rest⟩
theorem Ow.kp {B n size : Nat} {e : TypeId} {v : Value} {xs : List Value} (h : Ow w B e size v n xs) (k : Kp s w w') (hn : ∀ j, v.ownBlock = some j → some j ∉ s) : Ow w' B e size v n xs := h.of_block fun j hj => k.block j (Ow.hi h j hj) (hn j hj)
theorem Mt.kp {α β : Type} {P : Program} {t : TypeId} {b : Nat} {Ok : α → Prop} {ek : α → Value} {ev : β → Value} {D : List (α × β)} (h : Mt P t w b Ok ek ev D) (k : Kp s w w') (hn : some b ∉ s) : Mt P t w' b Ok ek ev D := h.of_block (k.block b h.lt hn)
/-- two lists of blocks that have none in common -/
def Dj (s s' : List (Option Nat)) : Prop := ∀ j, some j ∈ s → some j ∉ s'
theorem Dj.symm (h : Dj s s') : Dj s' s := fun j hj hj' => h j hj' hj
end
theorem plan_skipA {P : Program} {ops : Array Oper} {I : World → Prop} {R : List Nat} {K : Act → World → Prop} {σ : Tree} {a : Act} {w : World} {i : Nat} {o : Oper} (d : Option Tmp) (ho : ops[i]? = some o) (hd : o.dst = d) (hw : Region.wanted o (yielded ops a.tmps) = false) (hI : I w) (h : Plan P ops I R K σ (a.put d undef) w) : Plan P ops I R K (.act i σ) a w := by
  subst hd
  refine plan_act ho ?_
  unfold wpList
  rw [if_neg (by rw [hw]; decide)]
  exact ⟨hI, h⟩
theorem plan_skipS {P : Program} {ops : Array Oper} {I : World → Prop} {R : List Nat} {K : Act → World → Prop} {σ : Tree} {a : Act} {w : World} {i : Nat} {o : Oper} (d : Option Tmp) (ho : ops[i]? = some o) (hd : o.dst = d) (hw : Region.wanted o (yielded ops a.tmps) = false) (h : Plan P ops I R K σ (a.put d undef) w) : Plan P ops I R K (.read i σ) a w := by
  subst hd
  exact plan_skip ho hw h
end Go.Proofs.Ytkkhojealihghaa
