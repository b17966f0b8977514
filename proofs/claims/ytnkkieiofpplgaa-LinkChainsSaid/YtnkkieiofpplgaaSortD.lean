/- Rows of rows of bytes, sorted: what is said of them. -/
import Derived.Test.YtnkkieiofpplgaaGB
import Derived.Test.YtnkkieiofpplgaaByt
import Derived.Test.YtnkkieiofpplgaaOwn
namespace Go.Proofs.Ytnkkieiofpplgaa
open Go.RowKit

/-- a row of bytes as an element -/
structure KV where
  l : List UInt8
  v : Value
def KV.ok (x : KV) (w : World) : Prop := Ow w 0 5 1 x.v x.l.length (bcells x.l) ∧ x.l.length ≤ 1000000
theorem KV.ok.kp {s : List (Option Nat)} {x : KV} {w w' : World} (h : x.ok w) (k : Kp s w w') (hn : ∀ j, x.v.ownBlock = some j → some j ∉ s) : x.ok w' := ⟨h.1.kp k hn, h.2⟩
def RetSort (X : List KV) (B : Nat) (v : Value) (w : World) (e : Ending) (w' : World) : Prop :=
  e = .returned (.tuple #[]) ∧ ∃ Y : List KV, Y.Perm X ∧ (Y.map KV.l).Pairwise (fun a b => ¬ b < a) ∧ Ow w' B 36 1 v X.length (Y.map KV.v) ∧ w.grownBy w' v.ownBlock
/-- elements of blocks of their own -/
def KVs (X : List KV) (B : Nat) (w : World) : Prop := (∀ x ∈ X, x.ok w ∧ ∃ j, x.v.ownBlock = some j ∧ B ≤ j) ∧ X.Pairwise fun a b => a.v.ownBlock ≠ b.v.ownBlock
theorem KVs.kp {X : List KV} {B : Nat} {w w' : World} {s : List (Option Nat)} (h : KVs X B w) (k : Kp s w w') (hn : ∀ x ∈ X, ∀ j, x.v.ownBlock = some j → some j ∉ s) : KVs X B w' := ⟨fun x hx => ⟨(h.1 x hx).1.kp k (hn x hx), (h.1 x hx).2⟩, h.2⟩
theorem KVs.after {X : List KV} {B : Nat} {w w' : World} (h : KVs X B w) (hb : Below w.heap.size w w') : KVs X B w' := h.kp (s := []) (Kp.of_new hb) fun _ _ _ _ => by simp
theorem KVs.nil (B : Nat) (w : World) : KVs [] B w := ⟨fun x hx => (by cases hx), .nil⟩
theorem KVs.perm {X Y : List KV} {B : Nat} {w : World} (h : KVs X B w) (hp : Y.Perm X) : KVs Y B w := ⟨fun x hx => h.1 x (hp.mem_iff.1 hx), (hp.pairwise_iff fun {_ _} hne => Ne.symm hne).2 h.2⟩
theorem KVs.grown {X : List KV} {B base n size : Nat} {w w' : World} {e : TypeId} {v : Value} {xs : List Value} (h : KVs X B w) (ho : Ow w base e size v n xs) (hne : 5 ≠ e) (hg : w.grownBy w' v.ownBlock) : KVs X B w' := h.kp (Kp.grown hg) fun x hx j hj hm => by
  rcases own_own_ne ho (h.1 x hx).1.1 hne with h1 | h1
  · rw [h1] at hj; cases hj
  · exact h1 (hj.trans (List.mem_singleton.1 hm))
/-- one more, in a block that was not there -/
theorem KVs.snoc {X : List KV} {B b : Nat} {w0 w : World} (h : KVs X B w) (hX : ∀ x ∈ X, ∀ j, x.v.ownBlock = some j → j < w0.heap.size) {x : KV} (hx : x.ok w) (hb : x.v.ownBlock = some b) (hB : B ≤ b) (h0 : w0.heap.size ≤ b) : KVs (X ++ [x]) B w := by
  refine ⟨fun y hy => ?_, ?_⟩
  · rcases List.mem_append.1 hy with h1 | h1
    · exact h.1 y h1
    · rw [List.mem_singleton.1 h1]; exact ⟨hx, b, hb, hB⟩
  · rw [List.pairwise_append]
    refine ⟨h.2, List.pairwise_singleton _ _, fun y hy z hz he => ?_⟩
    rw [List.mem_singleton.1 hz, hb] at he
    have := hX y hy b he
    omega
theorem KVs.lt {X : List KV} {B : Nat} {w : World} (h : KVs X B w) : ∀ x ∈ X, ∀ j, x.v.ownBlock = some j → j < w.heap.size := fun x hx j hj => Ow.hi (h.1 x hx).1.1 j hj
end Go.Proofs.Ytnkkieiofpplgaa
