/- Small laws on rows of the call's own. No condition. -/
import Derived.Test.YtkkhojealihghaaAppK
import Derived.Test.YtkkhojealihghaaByt
namespace Go.Proofs.Ytkkhojealihghaa
open Go.RowKit
theorem own_cap {w : World} {base : Nat} {e : TypeId} {size : Nat} {v : Value} {n : Nat} {xs : List Value} (h : w.ownsRow base e size v n xs) : ∃ A c, v = .slice A n c ∧ n ≤ c := by
  rcases h.2 with ⟨rfl, rfl⟩ | ⟨g, cap, cur, rfl, hb, hh, hnc, hcm, _⟩
  · exact ⟨_, _, rfl, Nat.le_refl _⟩
  · exact ⟨_, _, rfl, hnc⟩
theorem own_ptr {w : World} {base : Nat} {e : TypeId} {size : Nat} {v : Value} {n : Nat} {xs : List Value} (h : w.ownsRow base e size v n xs) (h0 : 0 < n) : ∃ g c, v = .slice (some ⟨g, 0, none⟩) n c ∧ n ≤ c ∧ base ≤ g := by
  rcases h.2 with ⟨rfl, rfl⟩ | ⟨g, cap, cur, rfl, hb, hh, hnc, hcm, hs, ht⟩
  · exact absurd h0 (by omega)
  · exact ⟨g, cap, rfl, hnc, hb⟩
theorem own_low {w : World} {base base' : Nat} {e : TypeId} {size : Nat} {v : Value} {n : Nat} {xs : List Value} (h : w.ownsRow base e size v n xs) (hb : base' ≤ base) : w.ownsRow base' e size v n xs :=
  ⟨h.1, h.2.imp id fun ⟨g, cap, cur, hv, hbg, r⟩ => ⟨g, cap, cur, hv, Nat.le_trans hb hbg, r⟩⟩
theorem own_take {w : World} {base : Nat} {e : TypeId} {size n c : Nat} {A : Option Addr} {xs : List Value} (h : w.ownsRow base e size (.slice A n c) n xs) (h0 : 0 < n) {k : Nat} (hk : k ≤ n) : w.ownsRow base e size (.slice A k c) k (xs.take (k * size)) := by
  have hle : k * size ≤ n * size := Nat.mul_le_mul_right _ hk
  rcases h.2 with ⟨hv, rfl⟩ | ⟨g, cap, cur, hv, hb, hh, hnc, hcm, hs, ht⟩
  · omega
  · injection hv with hA hn hc
    subst hA
    subst hc
    refine ⟨by rw [List.length_take, h.1]; omega, .inr ⟨g, c, cur, rfl, hb, hh, by omega, hcm, hs, ?_⟩⟩
    rw [← ht, List.take_take, Nat.min_eq_left hle]
theorem Rd.btake {w : World} {B n : Nat} {A : Option Addr} {l : List UInt8} (h : Rd w B 1 A n (bcells l)) {k : Nat} (hk : k ≤ n) : Rd w B 1 A k (bcells (l.take k)) := by
  have := h.take hk
  rw [Nat.mul_one] at this
  unfold bcells at *
  rw [List.map_take]
  exact this
theorem own_lit1 (w : World) {B : Nat} (e : TypeId) (cs : Array Value) (n : Nat) (hB : B ≤ w.heap.size) (hn : cs.size = n) (hm : n ≤ maxLen) : (w.alloc (.cells cs e)).ownsRow B e 1 (.slice (some ⟨w.heap.size, 0, none⟩) n n) n cs.toList :=
  ⟨by simpa using hn, .inr ⟨w.heap.size, n, cs, rfl, hB, heap_alloc_new w _, Nat.le_refl _, hm, by omega, by rw [Nat.mul_one, List.take_of_length_le (by simp; omega)]⟩⟩
/-- a literal row of bytes that has just been laid -/
theorem bcell_rd {w : World} {g n : Nat} {t : TypeId} {l : List UInt8} {cs : Array Value} (h : Blk w g t cs) (hl : cs.toList = bcells l) (hn : cs.size = n) (hm : n ≤ maxLen) : Rd w w.heap.size 1 (some ⟨g, 0, none⟩) n (bcells l) := by
  rw [← hl]
  exact h.rd (by omega) hm
end Go.Proofs.Ytkkhojealihghaa
