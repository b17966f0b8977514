/- Bytes: how a slice of them reads; bytes.Equal, bytes.Clone by the kit's contracts. No condition of their own. -/
import Derived.Test.YtkkhojealihghaaRows
import Derived.Test.YtkkhojealihghaaApp
import Derived.Test.YtkkhojealihghaaTake
import Derived.Test.YtkkhojealihghaaShelf
import Derived.Lib.Bytes
import Derived.Shelf.Bytes.SlClone
import Derived.Shelf.Bytes.SlEqualAll
namespace Go.Proofs.Ytkkhojealihghaa
open Go.RowKit

def bnum (l : List UInt8) : List Int := l.map fun u => (u.toNat : Int)
def bcells (l : List UInt8) : List Value := l.map fun u => .int .u8 (u.toNat : Int)
theorem bnum_len (l : List UInt8) : (bnum l).length = l.length := by simp [bnum]
theorem bcells_len (l : List UInt8) : (bcells l).length = l.length := by simp [bcells]
theorem bnum_cells (l : List UInt8) : (bnum l).map (Value.int .u8) = bcells l := by simp [bnum, bcells, Function.comp_def]
theorem bnum_bytes (l : List UInt8) : Lib.bytesOf (bnum l) = l := by
  unfold Lib.bytesOf bnum
  rw [List.map_map]
  conv => rhs; rw [← List.map_id l]
  apply List.map_congr_left
  intro u _
  simp
theorem bcells_append (a b : List UInt8) : bcells (a ++ b) = bcells a ++ bcells b := by simp [bcells]
theorem bcells_get {l : List UInt8} {k : Nat} (hk : k < l.length) : (bcells l)[k]? = some (.int .u8 (l[k].toNat : Int)) := by simp [bcells, hk]
theorem bcells_one (l : List UInt8) : ∀ u ∈ bcells l, u.oneCell' = true := by
  intro u hu
  unfold bcells at hu
  rw [List.mem_map] at hu
  obtain ⟨x, _, rfl⟩ := hu
  rfl
theorem bytesIn {w : World} {B n : Nat} {A : Option Addr} {l : List UInt8} (h : Rd w B 1 A n (bcells l)) : Lib.BytesIn w A n (bnum l) := by
  have hl : l.length = n := by have := h.1; rw [bcells_len] at this; omega
  rcases Nat.eq_zero_or_pos n with h0 | h0
  · subst h0
    exact Lib.BytesIn.nil _ _ _
  · obtain ⟨b, off, rfl, _, hc⟩ := h.2.2 h0
    refine Lib.BytesIn.of_cells fun i hi => ?_
    rw [add_none, hc i _ (bcells_get (by omega))]
    simp [bnum, List.getD, show i < l.length by omega]
theorem Try.infoU8 : (Try.prog.info? 5).map (fun i => (i.zero, i.size, i.bytes)) = some (some (.int .u8 0), 1, 1) := by kernel_rfl
theorem eltU8 : Elt Try.prog 23 5 (.int .u8 0) 1 1 := ⟨Try.underlying23, Try.infoU8, rfl, by omega⟩

theorem equal_any (a b : List UInt8) (A : Option Addr) (n c : Nat) (A' : Option Addr) (n' c' : Nat) (w : World) {B B' : Nat} (h : Rd w B 1 A n (bcells a)) (h' : Rd w B' 1 A' n' (bcells b)) :
    Calls Try.prog 22 #[.slice A n c, .slice A' n' c'] w fun e w' => e = .returned (.bool (a == b)) ∧ w = w' := by
  have h1 := h.1
  have h2 := h'.1
  rw [bcells_len] at h1 h2
  refine (Try.bytes_Equal_all A A' n c n' c' (bnum a) (bnum b) w (by rw [bnum_len]; omega) (by rw [bnum_len]; omega) (bytesIn h) (bytesIn h')).mono fun e w' ⟨he, hw⟩ => ⟨?_, hw.symm⟩
  rw [he, bnum_bytes, bnum_bytes]
theorem clone_any (a : List UInt8) (A : Option Addr) (n c : Nat) (w : World) {B : Nat} (h : Rd w B 1 A n (bcells a)) (hn : n ≤ 140737488355328) :
    Calls Try.prog 16 #[.slice A n c] w (RetOwn w 5 1 n (bcells a)) := by
  have h1 := h.1
  rw [bcells_len] at h1
  cases A with
  | none =>
    have h0 : n = 0 := by
      rcases Nat.eq_zero_or_pos n with h0 | h0
      · exact h0
      · obtain ⟨_, _, e, _⟩ := h.2.2 h0; cases e
    subst h0
    have ha : a = [] := List.eq_nil_of_length_eq_zero (by omega)
    subst ha
    refine (Try.bytes_Clone_nil 0 c w).mono fun e w' ⟨he, hw⟩ => ?_
    subst hw
    exact ⟨_, he, World.ownsRow_nil _ _ _ _, Below.refl _ _⟩
  | some ad =>
    refine (Try.bytes_Clone_at ad n c (bnum a) w (by rw [bnum_len]; omega) hn (fun i hi => ?_)).mono fun e w' ⟨v, he, hown, _, hb⟩ => ⟨v, he, by rw [← bnum_cells]; exact hown, hb⟩
    obtain ⟨b, off, e, _, hc⟩ := h.2.2 (by omega)
    injection e with e
    subst e
    rw [add_none, hc i _ (bcells_get (by omega))]
    simp [bnum, List.getD, show i < a.length by omega]
end Go.Proofs.Ytkkhojealihghaa
