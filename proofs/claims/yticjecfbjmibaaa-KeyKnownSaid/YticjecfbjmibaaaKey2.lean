/- Package key: After. For every bytes. -/
import Derived.Test.YticjecfbjmibaaaKey1
namespace Go.Proofs.Yticjecfbjmibaaa
open Go.RowKit

def RetPair (w : World) (n : Nat) (l : List UInt8) (b : Bool) (e : Ending) (w' : World) : Prop := ∃ v, e = .returned (.tuple #[v, .bool b]) ∧ w'.ownsRow w.heap.size 5 1 v n (bcells l) ∧ Below w.heap.size w w'

theorem after_no (A : Option Addr) (n c : Nat) (w : World) (hn : n ≤ 9223372036854775807) (h : mayB n = false) : Calls Try.prog 18 #[.slice A n c] w (RetPair w 0 [] false) := by
  have H := may_any A n c w hn
  rw [h] at H
  have H' := Lib.hid H
  clear H h
  go_enter Try.func18, Try.ntmps18
  go_wp2_with fail
  refine H'.out.mono ?_
  rintro e w1 ⟨rfl, rfl⟩
  go_wp2
  go_ret2
  exact ⟨_, rfl, World.ownsRow_nil _ _ _ _, Below.refl _ _⟩

theorem after_short (l : List UInt8) (A : Option Addr) (n c : Nat) (w : World) (h1 : 1 ≤ n) (hn : n < 64) (h : Rd w w.heap.size 1 A n (bcells l)) :
    Calls Try.prog 18 #[.slice A n c] w (RetPair w (n + 1) (l ++ [0]) true) := by
  have H := may_any A n c w (by omega)
  rw [show mayB n = true by unfold mayB; simp; omega] at H
  have H' := Lib.hid H
  have HC := Lib.hid (clone_any l A n c w h (by omega))
  clear H h
  go_enter Try.func18, Try.ntmps18
  go_wp2_with fail
  refine H'.out.mono ?_
  rintro e w1 ⟨rfl, rfl⟩
  go_wp2_with fail
  refine HC.out.mono ?_
  rintro e w2 ⟨v2, rfl, o2, b2⟩
  obtain ⟨g2, c2, rfl, z2, hg2⟩ := own_ptr o2 (by omega)
  clear HC H'
  go_wp2_with (at_builtin; refine wpList_push eltU8 rfl (.tmp 13) (.tmp 14) rfl (W := w2) rfl o2 rfl rfl (by simp [Value.oneCell']) (by omega) (by unfold maxLen; omega) b2 b2.size ?_; intro v3 w3 o3 b3 _ _)
  go_ret2
  refine ⟨_, rfl, ?_, b3⟩
  rw [bcells_append]
  exact o3

set_option maxHeartbeats 1000000 in
theorem after_full (l : List UInt8) (A : Option Addr) (c : Nat) (w : World) (k : Nat) (hk : k ≤ 64) (hff : ∀ j, k ≤ j → j < 64 → l.getD j 0 = 255) (hlast : 0 < k → l.getD (k - 1) 0 ≠ 255) (h : Rd w w.heap.size 1 A 64 (bcells l)) :
    Calls Try.prog 18 #[.slice A 64 c] w (RetPair w k (if 0 < k then (l.take k).set (k - 1) (l.getD (k - 1) 0 + 1) else []) (decide (0 < k))) := by
  have hln : l.length = 64 := by have := h.1; rw [bcells_len] at this; omega
  have H := may_any A 64 c w (by omega)
  rw [show mayB 64 = true by decide] at H
  have H' := Lib.hid H
  have HC := Lib.hid (clone_any l A 64 c w h (by omega))
  have HFF := Lib.hid hff
  have HLA := Lib.hid hlast
  have HLN := Lib.hid hln
  obtain ⟨R, hR⟩ : ∃ R, R = (if 0 < k then (l.take k).set (k - 1) (l.getD (k - 1) 0 + 1) else []) := ⟨_, rfl⟩
  obtain ⟨B, hB⟩ : ∃ B, B = decide (0 < k) := ⟨_, rfl⟩
  rw [← hR, ← hB]
  have HR := Lib.hid hR
  have HB := Lib.hid hB
  clear H h hff hlast hln hR hB
  go_enter Try.func18, Try.ntmps18
  go_wp2_with fail
  refine H'.out.mono ?_
  rintro e w1 ⟨rfl, rfl⟩
  go_wp2_with fail
  refine HC.out.mono ?_
  rintro e w2 ⟨v2, rfl, o2, b2⟩
  obtain ⟨g, c2, rfl, z2, hg2⟩ := own_ptr o2 (by omega)
  have hcell : ∀ j, j < 64 → w2.cell? ⟨g, j, none⟩ = some (.int .u8 ((l.getD j 0).toNat : Int)) := fun j hj => by
    rw [o2.cellAt j (by omega), bcells_get (by rw [HLN.out]; exact hj)]
    simp [List.getD, show j < l.length by rw [HLN.out]; exact hj]
  have HCE := Lib.hid hcell
  clear hcell HC H'
  go_wp2
  go_loopw [4] (fun v wr => ∃ j : Nat, k ≤ j ∧ j ≤ 64 ∧ v = .slice (some ⟨g, 0, none⟩) j c2 ∧ wr = w2) (fun v _ => match v with | .slice _ n _ => n | _ => 0)
  case atStart => exact ⟨64, hk, Nat.le_refl _, rfl, rfl⟩
  case round =>
    obtain ⟨j, hkj, hj64, rfl, rfl⟩ := hrel
    by_cases hlt : k < j
    · have hc := HCE.out (j - 1) (by omega)
      rw [HFF.out (j - 1) (by omega) (by omega)] at hc
      have e1 : (j : Int) - 1 = ((j - 1 : Nat) : Int) := by omega
      have i1 : (0 : Int) < (j : Int) := by omega
      have i2 : ((j - 1 : Nat) : Int) ≤ (c2 : Int) := by omega
      have i3 : j - 1 < j := by omega
      have i4 : j - 1 ≤ c2 := by omega
      have hc : wr.cell? ⟨g, j - 1, none⟩ = some (.int .u8 255) := hc
      go_wp2
      go_roundw
      case rel => exact ⟨j - 1, by omega, by omega, rfl, trivial⟩
      case measure => simp; omega
    · obtain rfl : k = j := by omega
      rcases Nat.eq_zero_or_pos k with h0 | h0
      · subst h0
        have HB' := Lib.hid (show B = false by rw [HB.out]; rfl)
        have HR' := Lib.hid (show R = [] by rw [HR.out]; rfl)
        clear HR HB
        go_wp2
        go_ret2
        rw [HB'.out, HR'.out]
        exact ⟨_, rfl, World.ownsRow_nil _ _ _ _, b2⟩
      · have hc := HCE.out (k - 1) (by omega)
        have hu := (l.getD (k - 1) 0).toNat_lt
        have hne : (l.getD (k - 1) 0).toNat ≠ 255 := fun e => HLA.out h0 (UInt8.toNat_inj.1 e)
        have o3 := own_take o2 (by omega) hj64
        rw [Nat.mul_one] at o3
        have hst := o3.stored (k - 1) (.int .u8 (((l.getD (k - 1) 0).toNat + 1 : Nat) : Int))
        have hset : ((bcells l).take k).set (k - 1) (.int .u8 (((l.getD (k - 1) 0).toNat + 1 : Nat) : Int)) = bcells R := by
          rw [HR.out, if_pos h0]
          unfold bcells
          rw [List.map_set, List.map_take]
          congr 2
          rw [UInt8.toNat_add]
          have : (1 : UInt8).toNat = 1 := rfl
          rw [this]
          omega
        rw [hset] at hst
        have HST := Lib.hid hst.1
        have HB' := Lib.hid (show B = true by rw [HB.out]; exact decide_eq_true h0)
        have hf := o2.frozenAt (k - 1)
        have hbs := b2.setCell (p := ⟨g, k - 1, none⟩) hg2 (.int .u8 (((l.getD (k - 1) 0).toNat + 1 : Nat) : Int))
        have e1 : (k : Int) - 1 = ((k - 1 : Nat) : Int) := by omega
        have i1 : (0 : Int) < (k : Int) := by omega
        have i3 : k - 1 < k := by omega
        clear hst hset o3 HR HB HCE
        generalize (l.getD (k - 1) 0).toNat = y at *
        have e2 : ((y : Int) == 255) = false := by simp; omega
        have e3 : ((k : Int) == 0) = false := by simp; omega
        go_wp2
        go_ret2
        rw [HB'.out]
        exact ⟨_, rfl, HST.out, hbs⟩
end Go.Proofs.Yticjecfbjmibaaa
