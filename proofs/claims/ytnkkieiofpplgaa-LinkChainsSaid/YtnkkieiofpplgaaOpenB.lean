/- A law's arguments that are rows of bytes or of unsigned numbers. Plain laws, no condition. -/
import Derived.Test.YtnkkieiofpplgaaOpen
import Derived.Test.YtnkkieiofpplgaaByt
import Derived.SizedLaws
namespace Go.Proofs.Ytnkkieiofpplgaa
open Go.ChangeShapes Go.WideShapes Go.ChangeAt Go.RowKit
section
variable {H : Type} {enc : TypeId × Value → H} {P : Program} {w : World} {base : Nat} {spare : Nat → Bool} {held : Bool}
theorem rd_u64s {t e : TypeId} (ht : P.underlying t = some (.slice e)) (he : P.underlying e = some (.int .u64)) (hC : P.cellsOf e = 1)
    {A : Option Addr} {n c : Nat} {d : DataW H} {p : List MemPlace} (h : DataW.Trod enc P w base spare held t (.slice A n c) d p) :
    ∃ l : List Nat, l.length = n ∧ Rd w w.heap.size 1 A n (l.map fun x : Nat => Value.int .u64 (x : Int)) ∧ n ≤ c ∧ c ≤ maxLen ∧ ∀ k, l.getD k 0 < 18446744073709551616 := by
  obtain ⟨l, h1, h2, h3, h4, h5⟩ := rd_slice_map (fun x : Nat => [Value.int .u64 (x : Int)]) (fun x => x < 18446744073709551616) (Nat.succ_pos 0) ht hC
    (fun cs fuel y _ hy => by
      obtain ⟨n, rfl, _, hw⟩ := DataW.trod_int he hy
      have hn : 0 ≤ n ∧ n < 18446744073709551616 := by simp [Lit.wf, IntKind.min, IntKind.max, IntKind.signed, IntKind.bits] at hw; omega
      obtain ⟨m, rfl⟩ := Int.eq_ofNat_of_zero_le hn.1
      exact ⟨m, rfl, by omega⟩) h
  refine ⟨l, h1, by rw [List.map_eq_flatMap]; exact h2, h3, h4, fun k => ?_⟩
  by_cases hk : k < l.length
  · have := h5 l[k] (List.getElem_mem hk)
    simpa [List.getD, hk] using this
  · simp [List.getD, Nat.le_of_not_lt hk]
theorem rd_bytes {t e : TypeId} (ht : P.underlying t = some (.slice e)) (he : P.underlying e = some (.int .u8)) (hC : P.cellsOf e = 1)
    {A : Option Addr} {n c : Nat} {d : DataW H} {p : List MemPlace} (h : DataW.Trod enc P w base spare held t (.slice A n c) d p) :
    ∃ l : List UInt8, l.length = n ∧ Rd w w.heap.size 1 A n (bcells l) ∧ n ≤ c ∧ c ≤ maxLen := by
  obtain ⟨l, h1, h2, h3, h4, _⟩ := rd_slice_map (fun x : UInt8 => [Value.int .u8 (x.toNat : Int)]) (fun _ => True) (Nat.succ_pos 0) ht hC
    (fun cs fuel y _ hy => by
      obtain ⟨n, rfl, _, hw⟩ := DataW.trod_int he hy
      have hn : 0 ≤ n ∧ n < 256 := by simp [Lit.wf, IntKind.min, IntKind.max, IntKind.signed, IntKind.bits] at hw; omega
      obtain ⟨m, rfl⟩ := Int.eq_ofNat_of_zero_le hn.1
      refine ⟨UInt8.ofNat m, ?_, trivial⟩
      simp only [UInt8.toNat_ofNat']
      rw [Nat.mod_eq_of_lt (by omega)]) h
  exact ⟨l, h1, by unfold bcells; rw [List.map_eq_flatMap]; exact h2, h3, h4⟩
theorem slice_reach {ts : List TypeId} {ds : List (DataW H)} (hsz : (DataW.weightsEach P ts ds).all (· ≤ reachBytes) = true) {j : Nat} {t e : TypeId} {d : DataW H} {A : Option Addr} {n c : Nat} {p : List MemPlace} {b : Nat}
    (ht : ts[j]? = some t) (hd : ds[j]? = some d) (hu : P.underlying t = some (.slice e)) (h : DataW.Trod enc P w base spare held t (.slice A n c) d p) (hb : P.bytesOf e = b) : n * b ≤ 140737488351232 := by
  obtain ⟨fuel, hf⟩ := h
  rcases Go.Deep.open_slice hu hf with ⟨hcs, _⟩ | ⟨a, len, cap, m, k, D, Pl, hcs, _, _, _, _, hx, _⟩
  · simp only [Value.cells, List.cons.injEq, Value.slice.injEq, and_true] at hcs
    obtain ⟨_, rfl, _⟩ := hcs
    omega
  · simp only [Value.cells, List.cons.injEq, Value.slice.injEq, and_true] at hcs
    obtain ⟨_, rfl, _⟩ := hcs
    have hdd : d = .slice ((List.range n).map D) ((List.range (m - n)).map fun j => D (n + j)) := congrArg Prod.fst hx
    rw [hdd] at hd
    have := sized_slice hsz ht hd hu
    rw [hb, Nat.add_mul] at this
    simp only [List.length_map, List.length_range, reachBytes] at this
    omega
end
end Go.Proofs.Ytnkkieiofpplgaa
