/- string(b): a slice of bytes as a string. Plain laws, no condition of their own. -/
import Derived.Test.YtnkkieiofpplgaaByt
import Derived.Laws.BytesArg
namespace Go.Proofs.Ytnkkieiofpplgaa
open Go.RowKit

theorem run_conv {P : Program} {src dst e : TypeId} (hs : P.underlying src = some (.slice e)) (he : P.underlying e = some (.int .u8)) (hd : P.underlying dst = some .string) {w : World} {B n : Nat} {A : Option Addr} {l : List UInt8} (c : Nat) (h : Rd w B 1 A n (bcells l)) :
    (convert src dst (.slice A n c)).run P w = .ok (.string ⟨l.toArray⟩) w := by
  have hl : l.length = n := by have := h.1; rw [bcells_len] at this; omega
  rcases Nat.eq_zero_or_pos n with h0 | h0
  · subst h0
    have : l = [] := List.eq_nil_of_length_eq_zero hl
    subst this
    rw [run_convert_bytes_string w src dst e _ 0 c hs he hd]
    cases A with
    | none => simp [Conv.bytesToString]; rfl
    | some a =>
      rw [run_bytesToString (P := P) w a 0 c [] rfl]
      rfl
  · obtain ⟨b, off, rfl, _, hc⟩ := h.2.2 h0
    have := run_convert_bytes_arg (P := P) w src e hs he b off n c (bnum l) (by rw [bnum_len]; exact hl) (fun i hi => by
      rw [hc i _ (bcells_get (by omega))]
      simp [bnum, List.getD, show i < l.length by omega]) dst hd
    rw [this]
    have e1 := bnum_bytes l
    unfold Lib.bytesOf at e1
    unfold strOfNums
    rw [e1]
theorem str_beq (a b : List UInt8) : ((⟨a.toArray⟩ : ByteArray) == ⟨b.toArray⟩) = (a == b) := by
  show (a.toArray == b.toArray) = _
  simp
end Go.Proofs.Ytnkkieiofpplgaa
