/- Keys as prints: as values, told apart. -/
import Derived.Test.YtkkhojealihghaaPeq
import Derived.Test.YtkkhojealihghaaMid
import Derived.Test.YtkkhojealihghaaOwn
namespace Go.Proofs.Ytkkhojealihghaa
open Go.RowKit

/-- keys: rows that may be -/
def KOk (l : List UInt8) : Prop := 1 ≤ l.length ∧ l.length ≤ 64
/-- a key's print, as a value -/
def kpv (l : List UInt8) : Value := .agg (pcA l.length (pws l))
theorem kpv_inj (x y : List UInt8) (hx : KOk x) (_hy : KOk y) (h : kpv x = kpv y) : x = y := by
  unfold kpv pcA at h
  injection h with h
  have h := Array.toList_inj.2 h
  simp only [List.cons.injEq, Value.int.injEq, true_and] at h
  have h1 : x.length = y.length := by exact_mod_cast h.1
  refine pws_inj hx.2 h1 ?_
  have h2 := h.2
  refine List.ext_getElem (by rw [pws_len, pws_len]) fun i h3 h4 => ?_
  have := congrArg (fun l : List Value => l[i]?) h2
  simp [h3, h4] at this
  exact_mod_cast this
theorem kpv_key {l : List UInt8} (h : KOk l) : ∃ kl, keyOf Try.prog 88 (kpv l) = some kl := print_key _ _ (by have := h.2; omega) (pws_len l) (pws_lt l)
theorem mayB_ok {l : List UInt8} (h : KOk l) : mayB l.length = true := by unfold mayB; have := h.1; have := h.2; simp; omega
end Go.Proofs.Ytkkhojealihghaa
