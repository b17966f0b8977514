/- The document's answer, chapter 02: Bits. -/
import Derived.Test.YtfapipamohlniaaDoorCrcR2
namespace Go.Proofs.YtfapipamohlniaaDoor
open Go.RowKit

theorem numBo_at (l : List Bool) (x : Nat) (hx : x < l.length) : numBo (l.drop x) = (l[x]'hx).toNat + 2 * numBo (l.drop (x + 1)) := by
  rw [List.drop_eq_getElem_cons hx]
  rfl
set_option maxHeartbeats 1000000 in
theorem rbitsC_any (l : List Bool) (hl : l.length = 32) (A : Option Addr) (c : Nat) (w : World) (h : Rd w w.heap.size 1 A 32 (lcells l)) :
    Calls Tryd.prog 53 #[.slice A 32 c] w fun e w' => e = .returned (.int .u32 (numBo l : Int)) ∧ w = w' := by
  have HL := Lib.hid hl
  have HR := Lib.hid h
  clear hl h
  go_enter Tryd.func53, Tryd.ntmps53
  go_wp2_with fail
  go_loopw [3, 4] (fun a i wr => ∃ r : Nat, r ≤ 32 ∧ i = .int .i64 (31 - (r : Int)) ∧ a = .int .u32 (numBo (l.drop (32 - r)) : Int) ∧ wr = w) (fun _ i _ => (intOf i + 1).toNat)
  case atStart => exact ⟨0, by omega, rfl, by rw [List.drop_of_length_le (by rw [HL.out]; exact Nat.le_refl _)]; rfl, by first | rfl | trivial⟩
  case round =>
    obtain ⟨r, hr, rfl, rfl, rfl⟩ := hrel
    by_cases hlt : r < 32
    · obtain ⟨x, hx⟩ : ∃ x : Nat, x = 31 - r := ⟨_, rfl⟩
      have ex : (31 : Int) - (r : Int) = (x : Int) := by omega
      have hx31 : x ≤ 31 := by omega
      have i1 : (0 : Int) ≤ (x : Int) := by omega
      have hxl : x < l.length := by rw [HL.out]; omega
      obtain ⟨b, off, rfl, _, hcell⟩ := HR.out.2.2 (by omega)
      have hc := hcell x _ (lcells_get hxl)
      have HN := Lib.hid (numBo_at l x hxl)
      have HX := Lib.hid (show x + r = 31 by omega)
      have hlt2 := numBo_lt (l.drop (x + 1))
      rw [List.length_drop, HL.out] at hlt2
      have hp : 2 ^ (32 - (x + 1)) ≤ 2 ^ 31 := Nat.pow_le_pow_right (by decide) (by omega)
      have ha : numBo (l.drop (x + 1)) < 2147483648 := by omega
      rw [show 32 - r = x + 1 by omega, ex]
      have HR2 := HR
      clear hx ex hlt2 hp hcell HR
      generalize numBo (l.drop (x + 1)) = a at *
      cases hb : l[x]'hxl with
      | true =>
        rw [hb] at hc HN
        clear hb
        go_wp2_with fail
        go_roundw
        case rel => exact ⟨r + 1, by omega, by have h := HX.out; congr 1; omega, by have h := HX.out; rw [show 32 - (r + 1) = x by omega, HN.out]; go_num, by first | rfl | trivial⟩
        case measure => simp [intOf]
      | false =>
        rw [hb] at hc HN
        clear hb
        go_wp2_with fail
        go_roundw
        case rel => exact ⟨r + 1, by omega, by have h := HX.out; congr 1; omega, by have h := HX.out; rw [show 32 - (r + 1) = x by omega, HN.out]; go_num, by first | rfl | trivial⟩
        case measure => simp [intOf]
    · obtain rfl : r = 32 := by omega
      have hN : numBo l < 4294967296 := by have := numBo_lt l; rw [HL.out] at this; exact this
      rw [show l.drop (32 - 32) = l from rfl, show (31 : Int) - ((32 : Nat) : Int) = -1 from rfl]
      clear HR
      go_wp2_with fail
      go_ret
      exact ⟨rfl, rfl⟩
end Go.Proofs.YtfapipamohlniaaDoor
