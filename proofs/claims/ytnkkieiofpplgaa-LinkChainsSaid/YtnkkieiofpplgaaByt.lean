/- Bytes: how a slice of them reads; bytes.Equal, bytes.Clone by the kit's contracts. No condition of their own. -/
import Derived.Test.YtnkkieiofpplgaaRows
import Derived.Test.YtnkkieiofpplgaaGA
import Derived.Test.YtnkkieiofpplgaaShelf
import Derived.Lib.Bytes
import Derived.Shelf.Bytes.SlClone
namespace Go.Proofs.Ytnkkieiofpplgaa
open Go.RowKit

def bnum (l : List UInt8) : List Int := l.map fun u => (u.toNat : Int)
def bcells (l : List UInt8) : List Value := l.map fun u => .int .u8 (u.toNat : Int)
theorem bnum_len (l : List UInt8) : (bnum l).length = l.length := by simp [bnum]
theorem bcells_len (l : List UInt8) : (bcells l).length = l.length := by simp [bcells]
theorem bnum_cells (l : List UInt8) : (bnum l).map (Value.int .u8) = bcells l := by simp [bnum, bcells, Function.comp_def]
theorem bnum_bytes (l : List UInt8) : Lib.bytesOf (bnum l) = l := by
  unfold Lib.bytesOf bnum
  rw [List.map_map]
  conv => rhs; rw [← List.map_id l]
  apply List.map_congr_left
  intro u _
  simp
theorem bcells_append (a b : List UInt8) : bcells (a ++ b) = bcells a ++ bcells b := by simp [bcells]
theorem bcells_get {l : List UInt8} {k : Nat} (hk : k < l.length) : (bcells l)[k]? = some (.int .u8 (l[k].toNat : Int)) := by simp [bcells, hk]
theorem bcells_one (l : List UInt8) : ∀ u ∈ bcells l, u.oneCell' = true := by
  intro u hu
  unfold bcells at hu
  rw [List.mem_map] at hu
  obtain ⟨x, _, rfl⟩ := hu
  rfl
theorem Try.infoU8 : (Try.prog.info? 5).map (fun i => (i.zero, i.size, i.bytes)) = some (some (.int .u8 0), 1, 1) := by kernel_rfl
theorem eltU8 : Elt Try.prog 36 5 (.int .u8 0) 1 1 := ⟨Try.underlying36, Try.infoU8, rfl, by omega⟩

theorem clone_any (a : List UInt8) (A : Option Addr) (n c : Nat) (w : World) {B : Nat} (h : Rd w B 1 A n (bcells a)) (hn : n ≤ 140737488355328) :
    Calls Try.prog 44 #[.slice A n c] w (RetOwn w 5 1 n (bcells a)) := by
  have h1 := h.1
  rw [bcells_len] at h1
  cases A with
  | none =>
    have h0 : n = 0 := by
      rcases Nat.eq_zero_or_pos n with h0 | h0
      · exact h0
      · obtain ⟨_, _, e, _⟩ := h.2.2 h0; cases e
    subst h0
    have ha : a = [] := List.eq_nil_of_length_eq_zero (by omega)
    subst ha
    refine (Try.bytes_Clone_nil 0 c w).mono fun e w' ⟨he, hw⟩ => ?_
    subst hw
    exact ⟨_, he, World.ownsRow_nil _ _ _ _, Below.refl _ _⟩
  | some ad =>
    refine (Try.bytes_Clone_at ad n c (bnum a) w (by rw [bnum_len]; omega) hn (fun i hi => ?_)).mono fun e w' ⟨v, he, hown, _, hb⟩ => ⟨v, he, by rw [← bnum_cells]; exact hown, hb⟩
    obtain ⟨b, off, e, _, hc⟩ := h.2.2 (by omega)
    injection e with e
    subst e
    rw [add_none, hc i _ (bcells_get (by omega))]
    simp [bnum, List.getD, show i < a.length by omega]
end Go.Proofs.Ytnkkieiofpplgaa
