/- A slice cut at its end; rows of equal pieces. Plain laws, no condition. -/
import Derived.Test.YtkkhojealihghaaBlk
namespace Go.Proofs.Ytkkhojealihghaa
open Go.RowKit
theorem flatMap_take {α β : Type} (g : α → List β) (size : Nat) (hg : ∀ x, (g x).length = size) : ∀ (l : List α) (k : Nat), (l.take k).flatMap g = (l.flatMap g).take (k * size)
  | [], k => by simp
  | x :: l, 0 => by simp
  | x :: l, k + 1 => by
    rw [List.take_succ_cons, List.flatMap_cons, List.flatMap_cons, flatMap_take g size hg l k, List.take_append, List.take_of_length_le (l := g x) (by rw [hg, Nat.add_mul]; omega), hg, show (k + 1) * size - size = k * size by rw [Nat.add_mul]; omega]
theorem Rd.take {w : World} {B size n : Nat} {A : Option Addr} {xs : List Value} (h : Rd w B size A n xs) {k : Nat} (hk : k ≤ n) : Rd w B size A k (xs.take (k * size)) := by
  have hle : k * size ≤ n * size := Nat.mul_le_mul_right _ hk
  refine ⟨by rw [List.length_take, h.1]; omega, Nat.le_trans hk h.2.1, fun h0 => ?_⟩
  obtain ⟨b, off, e, hb, hc⟩ := h.2.2 (by omega)
  exact ⟨b, off, e, hb, fun j u hu => hc j u (by rw [List.getElem?_take] at hu; split at hu; exact hu; cases hu)⟩
/-- min(len, m), as the walk spells it -/
theorem min_toNat (n m : Nat) {M : Int} (hM : M = (m : Int)) : (if M < (n : Int) then M else (n : Int)).toNat = min n m := by
  subst hM; split <;> omega
/-- the world ahead may have drawn in between -/
theorem below_of (a' : World) {a b : World} (h : Below a.heap.size a b) (h1 : a.heap = a'.heap := by rfl) (h2 : a.os = a'.os := by rfl) (h3 : a.tape = a'.tape := by rfl) (h4 : a.output = a'.output := by rfl) : Below a'.heap.size a' b :=
  ⟨h.os.trans h2, h.tape.trans h3, h.output.trans h4, by rw [← h1]; exact h.size, fun k hk => by rw [← h1]; exact h.block k (by rw [h1]; exact hk)⟩
theorem min_int (n m : Nat) {M : Int} (hM : M = (m : Int)) : (if M < (n : Int) then M else (n : Int)) = ((min n m : Nat) : Int) := by
  subst hM; split <;> omega
end Go.Proofs.Ytkkhojealihghaa
