/- bytes.Compare: what it comes to. No condition but that the slices read as lists. -/
import Derived.Test.YtnkkieiofpplgaaByt
import Derived.Test.YtnkkieiofpplgaaGA
import Derived.Lib.Bytealg
import Derived.Lib.BytesEntry
namespace Go.Proofs.Ytnkkieiofpplgaa
open Go.RowKit

theorem run_bytesOf {P : Program} {w : World} {B n c : Nat} {A : Option Addr} {l : List UInt8} (h : Rd w B 1 A n (bcells l)) : (Extern.Bytes.bytesOf (.slice A n c)).run P w = .ok ⟨l.toArray⟩ w := by
  have hl := h.1
  rw [bcells_len, Nat.mul_one] at hl
  rcases Nat.eq_zero_or_pos n with h0 | h0
  · subst h0
    have : l = [] := List.eq_nil_of_length_eq_zero hl
    subst this
    cases A <;> rfl
  · obtain ⟨b, off, rfl, _, hc⟩ := h.2.2 h0
    have := Lib.run_loadBytesX (P := P) w (bnum l) ⟨b, off, none⟩ .empty (fun j x hj => by
      rw [add_none]
      apply hc
      rw [← bnum_cells, List.getElem?_map, hj]
      rfl)
    rw [bnum_len, hl, bnum_bytes] at this
    simp only [Extern.Bytes.bytesOf]
    rw [this]
    congr 1
    apply ByteArray.ext
    show (#[] : Array UInt8) ++ l.toArray = l.toArray
    simp
theorem compare_any (a b : List UInt8) (A : Option Addr) (n c : Nat) (A' : Option Addr) (n' c' : Nat) (w : World) {B B' : Nat} (h : Rd w B 1 A n (bcells a)) (h' : Rd w B' 1 A' n' (bcells b)) :
    Calls Try.prog 47 #[.slice A n c, .slice A' n' c'] w fun e w' => e = .returned (.int .i64 (Lib.compareBytes a b)) ∧ Below w.heap.size w w' := by
  have e1 := run_bytesOf (P := Try.prog) (c := c) h
  have e2 := run_bytesOf (P := Try.prog) (c := c') h'
  have e3 : (Extern.BytealgCompare.compare #[.slice A n c, .slice A' n' c']).run Try.prog w = .ok (.int .i64 (Lib.compareBytes a b)) w := by
    change Sem.run Try.prog (do pure (goInt (Extern.BytealgCompare.cmp (← Extern.Bytes.bytesOf (.slice A n c)) (← Extern.Bytes.bytesOf (.slice A' n' c'))))) w = _
    simp only [Sem.run_bind, Sem.run_pure, e1, e2, Result.andThen, Lib.cmp_eq]
    rfl
  clear e1 e2
  go_enter Try.func47, Try.ntmps47
  go_wp2
  rw [run_callFunc_extern Try.func61 (by kernel_rfl) (by kernel_rfl) (by kernel_rfl) (e := Extern.BytealgCompare.compare) (by kernel_rfl), e3]
  simp only [Result.andThen]
  rw [Oper.upon_value]
  go_wp2
  go_ret
  exact ⟨rfl, Below.refl _ _⟩
end Go.Proofs.Ytnkkieiofpplgaa
