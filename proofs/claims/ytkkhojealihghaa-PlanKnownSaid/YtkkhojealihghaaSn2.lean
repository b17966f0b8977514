/- What each call of package seen, and of the document's answer, comes to: Newest, There. For every world in which the slices read as lists. -/
import Derived.Test.YtkkhojealihghaaSn1
namespace Go.Proofs.Ytkkhojealihghaa.Sn
open Go.RowKit

set_option maxHeartbeats 400000 in
theorem behind1_any (l : List Ver) (A : Option Addr) (n c : Nat) (s : Int) (i : Int) (p1 p2 B : Nat) (w : World) (hn : l.length = n) (hi0 : 0 ≤ i) (hin : i < n) (h : Rd w B 2 A n (vcells l))
    (hp1 : w.cell? ⟨p1, 0, none⟩ = some (.slice A n c)) (hp2 : w.cell? ⟨p2, 0, none⟩ = some (.int .u64 s)) :
    Calls Try.prog 48 #[.int .i64 i, .pointer (some ⟨p1, 0, none⟩), .pointer (some ⟨p2, 0, none⟩)] w fun e w' => e = .returned (.bool (decide (s < seqAt l i.toNat))) ∧ ∃ q, w' = w.drewN q := by
  have hm := h.2.1
  unfold maxLen at hm
  obtain ⟨k, rfl⟩ := Int.eq_ofNat_of_zero_le hi0
  rw [Int.toNat_natCast]
  obtain ⟨b, off, rfl, hblk, hcell⟩ := h.2.2 (by omega)
  have hkl : k < l.length := by omega
  have c0 := hcell _ _ (vcells_s hkl)
  have hki : (k : Int) < (n : Int) := by omega
  generalize seqAt l k = x at *
  clear hcell
  go_enter Try.func48, Try.ntmps48
  go_wp2
  go_quiet (fail)
  go_wp2
  go_ret
  exact ⟨rfl, _, rfl⟩

set_option maxHeartbeats 400000 in
/-- the library's search, over the closure of 'behind' -/
theorem search_any (l : List Ver) (A : Option Addr) (n c : Nat) (s : Int) (p1 p2 B : Nat) (w : World) (hn : l.length = n) (hn62 : n ≤ 4611686018427387903) (h : Rd w B 2 A n (vcells l)) (hmay : mayB l = true)
    (hp1 : w.cell? ⟨p1, 0, none⟩ = some (.slice A n c)) (hp2 : w.cell? ⟨p2, 0, none⟩ = some (.int .u64 s)) :
    Calls Try.prog 47 #[.int .i64 n, .func (.func 48) #[] #[.pointer (some ⟨p1, 0, none⟩), .pointer (some ⟨p2, 0, none⟩)]] w fun e w' => e = .returned (.int .i64 (cnt l s)) ∧ ∃ q, w' = w.drewN q := by
  have hm := h.2.1
  unfold maxLen at hm
  have hcl := cnt_le l s
  go_enter Try.func47, Try.ntmps47
  go_wp2
  go_loopw [5, 6] (fun i j wr => ∃ x y : Nat, i = .int .i64 x ∧ j = .int .i64 y ∧ x ≤ cnt l s ∧ cnt l s ≤ y ∧ y ≤ n ∧ ∃ q, wr = w.drewN q) (fun i j _ => (intOf j).toNat - (intOf i).toNat)
  case atStart => exact ⟨0, n, rfl, rfl, by omega, by omega, by omega, 0, rfl⟩
  case round =>
    obtain ⟨x, y, rfl, rfl, hx, hy, hyn, q, rfl⟩ := hrel
    by_cases hlt : x < y
    · have hc := may_cnt hmay s ((x + y) / 2) (by omega)
      have e1 : 0 ≤ ((x : Int) + (y : Int)) / 2 := by omega
      have e2 : ((x : Int) + (y : Int)) / 2 < (n : Int) := by omega
      have hb := Lib.hid (behind1_any l A n c s (((x : Int) + (y : Int)) / 2) p1 p2 B (w.drewN q) hn e1 e2 (h.drewN q) hp1 hp2)
      go_wp2_with fail
      refine hb.out.mono ?_
      rintro e w' ⟨rfl, q', rfl⟩
      have hk : (((x : Int) + (y : Int)) / 2).toNat = (x + y) / 2 := by omega
      by_cases hlt2 : (x + y) / 2 < cnt l s
      · have hd : decide (s < seqAt l (((x : Int) + (y : Int)) / 2).toNat) = false := by
          simp only [hk, decide_eq_false_iff_not]; exact Int.not_lt.2 (hc.2 hlt2)
        rw [hd]
        clear hc hd hk
        go_wp2
        go_roundw
        case rel => exact ⟨(x + y) / 2 + 1, y, by go_num, rfl, by omega, by omega, by omega, _, rfl⟩
        case measure => simp [intOf]; omega
      · have hd : decide (s < seqAt l (((x : Int) + (y : Int)) / 2).toNat) = true := by
          simp only [hk, decide_eq_true_eq]; exact Int.not_le.1 (fun h' => hlt2 (hc.1 h'))
        rw [hd]
        clear hc hd hk
        go_wp2
        go_roundw
        case rel => exact ⟨x, (x + y) / 2, rfl, by go_num, by omega, by omega, by omega, _, rfl⟩
        case measure => simp [intOf]; omega
    · obtain rfl : x = y := by omega
      go_wp2
      go_ret
      exact ⟨ret_int (by omega), q, rfl⟩

set_option maxHeartbeats 400000 in
theorem behind_any (l : List Ver) (A : Option Addr) (n c : Nat) (s : Int) (w : World) (hn : l.length = n) (hn62 : n ≤ 4611686018427387903) (h : Rd w w.heap.size 2 A n (vcells l)) (hmay : mayB l = true) :
    Calls Try.prog 46 #[.slice A n c, .int .u64 s] w fun e w' => e = .returned (.int .i64 (cnt l s)) ∧ Below w.heap.size w w' := by
  have hs := Lib.hid (search_any l A n c s w.heap.size (w.heap.size + 1) w.heap.size ((w.alloc (.cells #[.slice A n c] 103)).alloc (.cells #[.int .u64 s] 26)) hn hn62
    ((h.alloc (Nat.le_refl _) _).alloc (by simp) _) hmay (by rw [cell_old _ _ (by simp), cell_new]; rfl) (by rw [← World.size_alloc w (.cells #[.slice A n c] 103), cell_new]; rfl))
  clear h
  go_enter Try.func46, Try.ntmps46
  go_wp2_with fail
  refine hs.out.mono ?_
  rintro e w' ⟨rfl, q, rfl⟩
  go_wp2
  go_ret
  exact ⟨rfl, below_drewN (((Below.refl _ _).alloc (Nat.le_refl _) _).alloc (by simp) _) _⟩

theorem newIs_lt {l : List Ver} {s : Int} (h : newIs l s = true) : newK l s < l.length := newK_lt h

end Go.Proofs.Ytkkhojealihghaa.Sn
