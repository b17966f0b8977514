/- What each call of package seen, and of the document's answer, comes to: May, Newest, There. For every world in which the slices read as lists. -/
import Derived.Test.YtkkhojealihghaaRows
import Derived.Test.YtkkhojealihghaaBase
import Derived.Test.YtkkhojealihghaaSnLaw
namespace Go.Proofs.Ytkkhojealihghaa.Sn
open Go.RowKit

def vcells (l : List Ver) : List Value := l.flatMap fun v => [.int .u64 v.1, .int .i64 v.2]
theorem vcells_len (l : List Ver) : (vcells l).length = l.length * 2 := flatMap_len _ 2 (fun _ => rfl) l
theorem vcells_0 (l : List Ver) (k : Nat) (hk : k < l.length) : (vcells l)[k * 2]? = some (.int .u64 (l[k]).1) := by
  have := flatMap_get (fun v : Ver => [Value.int .u64 v.1, .int .i64 v.2]) 2 (fun _ => rfl) l k 0 (by omega)
  rw [Nat.add_zero, List.getElem?_eq_getElem hk] at this
  exact this
theorem vcells_1 (l : List Ver) (k : Nat) (hk : k < l.length) : (vcells l)[k * 2 + 1]? = some (.int .i64 (l[k]).2) := by
  have := flatMap_get (fun v : Ver => [Value.int .u64 v.1, .int .i64 v.2]) 2 (fun _ => rfl) l k 1 (by omega)
  rw [List.getElem?_eq_getElem hk] at this
  exact this

theorem vcells_s {l : List Ver} {k : Nat} (hk : k < l.length) : (vcells l)[k * 2]? = some (.int .u64 (seqAt l k)) := by rw [vcells_0 l k hk, seqAt_eq hk]
theorem vcells_k {l : List Ver} {k : Nat} (hk : k < l.length) : (vcells l)[k * 2 + 1]? = some (.int .i64 (kindAt l k)) := by rw [vcells_1 l k hk, kindAt_eq hk]

theorem ret_bool {a b : Bool} (h : a = b) : Ending.returned (.bool a) = .returned (.bool b) := by rw [h]
theorem ret_int {k : IntKind} {a b : Int} (h : a = b) : Ending.returned (.int k a) = .returned (.int k b) := by rw [h]

theorem may_yes {last x y : Int} {r m : Bool} (h : (decide (last < x) && decide (x ≤ 1099511627776) && (y == 1 || y == 2) && r) = m) (h1 : last < x) (h2 : x ≤ 1099511627776) (h3 : y = 1 ∨ y = 2) : r = m := by
  rw [← h]; rcases h3 with rfl | rfl <;> simp [h1, h2]
theorem may_no {last x y : Int} {r m : Bool} (h : (decide (last < x) && decide (x ≤ 1099511627776) && (y == 1 || y == 2) && r) = m) (h1 : x ≤ last ∨ 1099511627776 < x ∨ (y ≠ 1 ∧ y ≠ 2)) : m = false := by
  rw [← h]; simp only [Bool.and_eq_false_iff, Bool.or_eq_false_iff, decide_eq_false_iff_not, beq_eq_false_iff_ne]; omega
theorem mayFrom_drop (l : List Ver) (k : Nat) (hk : k < l.length) (last : Int) : mayFrom last (l.drop k) = (decide (last < (l[k]).1) && decide ((l[k]).1 ≤ 1099511627776) && ((l[k]).2 == 1 || (l[k]).2 == 2) && mayFrom (l[k]).1 (l.drop (k + 1))) := by
  rw [List.drop_eq_getElem_cons hk]; rfl

set_option maxHeartbeats 400000 in
theorem may_any (l : List Ver) (A : Option Addr) (n c : Nat) (w : World) (hn : l.length = n) (h : Rd w w.heap.size 2 A n (vcells l)) :
    Calls Try.prog 43 #[.slice A n c] w fun e w' => e = .returned (.bool (mayB l)) ∧ Below w.heap.size w w' := by
  have hm := h.2.1
  unfold maxLen at hm
  go_enter Try.func43, Try.ntmps43
  go_wp2
  go_loopw [3, 8] (fun t i wr => ∃ k : Nat, k ≤ n ∧ i = .int .i64 k ∧ Below w.heap.size w wr ∧ ∃ last : Int, t = .int .u64 last ∧ 0 ≤ last ∧ mayFrom last (l.drop k) = mayB l) (fun _ i _ => n - (intOf i).toNat)
  case atStart => exact ⟨0, Nat.zero_le _, rfl, Below.refl _ _, 0, rfl, by omega, rfl⟩
  case round =>
    obtain ⟨k, hk, rfl, hb, last, rfl, hl0, hmf⟩ := hrel
    by_cases hlt : k < n
    · obtain ⟨b, off, rfl, hblk, hcell⟩ := h.2.2 (by omega)
      have hkl : k < l.length := by omega
      rw [mayFrom_drop l k hkl] at hmf
      have h0 := vcells_0 l k hkl
      have h1 := vcells_1 l k hkl
      obtain ⟨⟨x, y⟩, hv⟩ : ∃ v, v = l[k] := ⟨_, rfl⟩
      rw [← hv] at hmf h0 h1
      clear hv
      have c0 : wr.cell? ⟨b, off + k * 2, none⟩ = some (.int .u64 x) := (hb.cell (p := ⟨b, off + k * 2, none⟩) hblk).trans (hcell _ _ h0)
      have c1 : wr.cell? ⟨b, off + k * 2 + 1, none⟩ = some (.int .i64 y) := (hb.cell (p := ⟨b, off + k * 2 + 1, none⟩) hblk).trans (hcell _ _ h1)
      have hM := Lib.hid hmf
      clear hmf h0 h1 hcell
      go_wp2
      all_goals first
        | (go_roundw
           case rel => exact ⟨k + 1, by omega, by go_num, hb.alloc hb.size _, x, rfl, by omega, may_yes hM.out (by omega) (by omega) (by simp_all; try omega)⟩
           case measure => simp [intOf]; omega)
        | (go_ret
           exact ⟨ret_bool (may_no hM.out (by simp_all; try omega)).symm, hb.alloc hb.size _⟩)
    · obtain rfl : k = n := by omega
      have hM := Lib.hid hmf
      clear hmf
      go_wp2
      go_ret
      exact ⟨ret_bool (by rw [← hM.out, List.drop_of_length_le (by omega)]; rfl), hb⟩

def prevSeq (l : List Ver) (k : Nat) : Int := if k = 0 then 0 else (l.getD (k - 1) (0, 0)).1

end Go.Proofs.Ytkkhojealihghaa.Sn
