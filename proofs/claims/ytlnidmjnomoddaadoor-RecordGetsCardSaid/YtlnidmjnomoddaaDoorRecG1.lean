/- The document's answer, chapter 08: number. For every bytes. -/
import Derived.Test.YtlnidmjnomoddaaDoorRecQ1
import Derived.Test.YtlnidmjnomoddaaDoorCrcR6
namespace Go.Proofs.YtlnidmjnomoddaaDoor
open Go.RowKit

theorem numLE_step {l : List UInt8} {at_ j size : Nat} (hj : 0 < j) (hs : j ≤ size) (h : at_ + size ≤ l.length) :
    numLE ((l.drop (at_ + (j - 1))).take (size - (j - 1))) = numLE ((l.drop (at_ + j)).take (size - j)) * 256 + (l.getD (at_ + (j - 1)) 0).toNat := by
  have hlt : at_ + (j - 1) < l.length := by omega
  rw [List.drop_eq_getElem_cons hlt, show size - (j - 1) = (size - j) + 1 by omega, List.take_succ_cons, numLE_cons, show at_ + (j - 1) + 1 = at_ + j by omega]
  simp [List.getD, hlt]
  omega
set_option maxRecDepth 10000 in
theorem rnumber_any (l : List UInt8) (A : Option Addr) (n c : Nat) (at_ size : Nat) (w : World) (h0 : 0 < size) (h8 : size ≤ 8) (hsz : at_ + size ≤ n) (h : Rd w w.heap.size 1 A n (bcells l)) :
    Calls Tryd.prog 37 #[.slice A n c, .int .i64 (at_ : Int), .int .i64 (size : Int)] w fun e w' => e = .returned (.int .u64 ((numLE ((l.drop at_).take size) : Nat) : Int)) ∧ w = w' := by
  have hln := h.1
  have hmx := h.2.1
  unfold maxLen at hmx
  rw [bcells_len, Nat.mul_one] at hln
  obtain ⟨b, off, rfl, _, hcell⟩ := h.2.2 (by omega)
  have hb : ∀ j : Nat, j ≤ size → numLE ((l.drop (at_ + j)).take (size - j)) < 2 ^ (8 * (size - j)) := fun j hj => numLE_8j _ (by rw [List.length_drop]; omega)
  go_enter Tryd.func37, Tryd.ntmps37
  go_wp2_with fail
  go_loop [7, 8] (fun nn i => ∃ j : Nat, j ≤ size ∧ i = .int .i64 ((j : Int) - 1) ∧ nn = .int .u64 ((numLE ((l.drop (at_ + j)).take (size - j)) : Nat) : Int)) (fun _ i => (intOf i + 1).toNat)
  case atStart => exact ⟨size, Nat.le_refl _, rfl, by simp [numLE]⟩
  case round =>
    obtain ⟨j, hj, rfl, rfl⟩ := hrel
    by_cases hlt : 0 < j
    · have hst := numLE_step hlt hj (by omega : at_ + size ≤ l.length)
      have hx := hb j hj
      have hy := hb (j - 1) (by omega)
      have h2 : (2 : Nat) ^ (8 * (size - (j - 1))) ≤ 2 ^ 64 := Nat.pow_le_pow_right (by omega) (by omega)
      have hc := hcell (at_ + (j - 1)) _ (bcells_get (by omega))
      have hu : (l[at_ + (j - 1)]'(by omega)).toNat = (l.getD (at_ + (j - 1)) 0).toNat := by simp [List.getD, show at_ + (j - 1) < l.length by omega]
      rw [hu] at hc
      generalize (l.getD (at_ + (j - 1)) 0).toNat = u at *
      generalize hX : numLE ((l.drop (at_ + j)).take (size - j)) = X at *
      have hX2 : X * 256 + u < 18446744073709551616 := by rw [← hst]; omega
      have HST := Lib.hid hst
      obtain ⟨t, rfl⟩ : ∃ t, j = t + 1 := ⟨j - 1, by omega⟩
      have hc : w.cell? ⟨b, off + (at_ + t), none⟩ = some (.int .u8 (u : Int)) := hc
      have e1 : ((t + 1 : Nat) : Int) - 1 = (t : Int) := by omega
      rw [e1]
      have hti : (at_ : Int) + (t : Int) < (n : Int) := by omega
      have htn : at_ + t < n := by omega
      clear hx hy h2 hst hcell hb hu hX e1
      go_wp2_with fail
      go_round
      case rel => exact ⟨t, by omega, rfl, by have := HST.out; rw [show t + 1 - 1 = t by omega] at this; rw [this]; go_num⟩
      case measure => simp [intOf]
    · obtain rfl : j = 0 := by omega
      go_wp2_with fail
      go_ret
      exact ⟨by simp, rfl⟩
end Go.Proofs.YtlnidmjnomoddaaDoor
