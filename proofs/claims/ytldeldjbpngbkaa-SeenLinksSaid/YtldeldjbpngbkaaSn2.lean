/- What each call of package seen, and of the document's answer, comes to: Newest, There. For every world in which the slices read as lists. -/
import Derived.Test.YtldeldjbpngbkaaSn1
namespace Go.Proofs.Ytldeldjbpngbkaa.Sn
open Go.RowKit

set_option maxHeartbeats 400000 in
theorem behind1_any (l : List Ver) (A : Option Addr) (n c : Nat) (s : Int) (i : Int) (p1 p2 B : Nat) (w : World) (hn : l.length = n) (hi0 : 0 ≤ i) (hin : i < n) (h : Rd w B 2 A n (vcells l))
    (hp1 : w.cell? ⟨p1, 0, none⟩ = some (.slice A n c)) (hp2 : w.cell? ⟨p2, 0, none⟩ = some (.int .u64 s)) :
    Calls Try.prog 25 #[.int .i64 i, .pointer (some ⟨p1, 0, none⟩), .pointer (some ⟨p2, 0, none⟩)] w fun e w' => e = .returned (.bool (decide (s < seqAt l i.toNat))) ∧ ∃ q, w' = w.drewN q := by
  have hm := h.2.1
  unfold maxLen at hm
  obtain ⟨k, rfl⟩ := Int.eq_ofNat_of_zero_le hi0
  rw [Int.toNat_natCast]
  obtain ⟨b, off, rfl, hblk, hcell⟩ := h.2.2 (by omega)
  have hkl : k < l.length := by omega
  have c0 := hcell _ _ (vcells_s hkl)
  have hki : (k : Int) < (n : Int) := by omega
  generalize seqAt l k = x at *
  clear hcell
  go_enter Try.func25, Try.ntmps25
  go_wp2
  go_quiet (fail)
  go_wp2
  go_ret
  exact ⟨rfl, _, rfl⟩

set_option maxHeartbeats 400000 in
/-- the library's search, over the closure of 'behind' -/
theorem search_any (l : List Ver) (A : Option Addr) (n c : Nat) (s : Int) (p1 p2 B : Nat) (w : World) (hn : l.length = n) (hn62 : n ≤ 4611686018427387903) (h : Rd w B 2 A n (vcells l)) (hmay : mayB l = true)
    (hp1 : w.cell? ⟨p1, 0, none⟩ = some (.slice A n c)) (hp2 : w.cell? ⟨p2, 0, none⟩ = some (.int .u64 s)) :
    Calls Try.prog 24 #[.int .i64 n, .func (.func 25) #[] #[.pointer (some ⟨p1, 0, none⟩), .pointer (some ⟨p2, 0, none⟩)]] w fun e w' => e = .returned (.int .i64 (cnt l s)) ∧ ∃ q, w' = w.drewN q := by
  have hm := h.2.1
  unfold maxLen at hm
  have hcl := cnt_le l s
  go_enter Try.func24, Try.ntmps24
  go_wp2
  go_loopw [5, 6] (fun i j wr => ∃ x y : Nat, i = .int .i64 x ∧ j = .int .i64 y ∧ x ≤ cnt l s ∧ cnt l s ≤ y ∧ y ≤ n ∧ ∃ q, wr = w.drewN q) (fun i j _ => (intOf j).toNat - (intOf i).toNat)
  case atStart => exact ⟨0, n, rfl, rfl, by omega, by omega, by omega, 0, rfl⟩
  case round =>
    obtain ⟨x, y, rfl, rfl, hx, hy, hyn, q, rfl⟩ := hrel
    by_cases hlt : x < y
    · have hc := may_cnt hmay s ((x + y) / 2) (by omega)
      have e1 : 0 ≤ ((x : Int) + (y : Int)) / 2 := by omega
      have e2 : ((x : Int) + (y : Int)) / 2 < (n : Int) := by omega
      have hb := Lib.hid (behind1_any l A n c s (((x : Int) + (y : Int)) / 2) p1 p2 B (w.drewN q) hn e1 e2 (h.drewN q) hp1 hp2)
      go_wp2_with fail
      refine hb.out.mono ?_
      rintro e w' ⟨rfl, q', rfl⟩
      have hk : (((x : Int) + (y : Int)) / 2).toNat = (x + y) / 2 := by omega
      by_cases hlt2 : (x + y) / 2 < cnt l s
      · have hd : decide (s < seqAt l (((x : Int) + (y : Int)) / 2).toNat) = false := by
          simp only [hk, decide_eq_false_iff_not]; exact Int.not_lt.2 (hc.2 hlt2)
        rw [hd]
        clear hc hd hk
        go_wp2
        go_roundw
        case rel => exact ⟨(x + y) / 2 + 1, y, by go_num, rfl, by omega, by omega, by omega, _, rfl⟩
        case measure => simp [intOf]; omega
      · have hd : decide (s < seqAt l (((x : Int) + (y : Int)) / 2).toNat) = true := by
          simp only [hk, decide_eq_true_eq]; exact Int.not_le.1 (fun h' => hlt2 (hc.1 h'))
        rw [hd]
        clear hc hd hk
        go_wp2
        go_roundw
        case rel => exact ⟨x, (x + y) / 2, rfl, by go_num, by omega, by omega, by omega, _, rfl⟩
        case measure => simp [intOf]; omega
    · obtain rfl : x = y := by omega
      go_wp2
      go_ret
      exact ⟨ret_int (by omega), q, rfl⟩

set_option maxHeartbeats 400000 in
theorem behind_any (l : List Ver) (A : Option Addr) (n c : Nat) (s : Int) (w : World) (hn : l.length = n) (hn62 : n ≤ 4611686018427387903) (h : Rd w w.heap.size 2 A n (vcells l)) (hmay : mayB l = true) :
    Calls Try.prog 17 #[.slice A n c, .int .u64 s] w fun e w' => e = .returned (.int .i64 (cnt l s)) ∧ Below w.heap.size w w' := by
  have hs := Lib.hid (search_any l A n c s w.heap.size (w.heap.size + 1) w.heap.size ((w.alloc (.cells #[.slice A n c] 37)).alloc (.cells #[.int .u64 s] 30)) hn hn62
    ((h.alloc (Nat.le_refl _) _).alloc (by simp) _) hmay (by rw [cell_old _ _ (by simp), cell_new]; rfl) (by rw [← World.size_alloc w (.cells #[.slice A n c] 37), cell_new]; rfl))
  clear h
  go_enter Try.func17, Try.ntmps17
  go_wp2_with fail
  refine hs.out.mono ?_
  rintro e w' ⟨rfl, q, rfl⟩
  go_wp2
  go_ret
  exact ⟨rfl, below_drewN (((Below.refl _ _).alloc (Nat.le_refl _) _).alloc (by simp) _) _⟩

set_option maxHeartbeats 400000 in
theorem newest_any (l : List Ver) (A : Option Addr) (n c : Nat) (s : Int) (w : World) (hn : l.length = n) (hn62 : n ≤ 4611686018427387903) (h : Rd w w.heap.size 2 A n (vcells l)) :
    Calls Try.prog 8 #[.slice A n c, .int .u64 s] w fun e w' => e = .returned (.tuple #[.int .i64 (newK l s), .bool (newIs l s)]) ∧ Below w.heap.size w w' := by
  have hm := may_any l A n c w hn h
  cases hmay : mayB l with
  | false =>
    rw [hmay] at hm
    have Hm := Lib.hid hm
    have e1 : newK l s = 0 := by simp [newK, hmay]
    have e2 : newIs l s = false := by simp [newIs, hmay]
    rw [e1, e2]
    clear hm hmay e1 e2 h
    go_enter Try.func8, Try.ntmps8
    go_wp2_with fail
    refine Hm.out.mono ?_
    rintro e w' ⟨rfl, hb⟩
    go_wp2
    go_ret2
    exact ⟨rfl, hb⟩
  | true =>
    rw [hmay] at hm
    have Hm := Lib.hid hm
    have hcl := cnt_le l s
    have Hk := Lib.hid (show newK l s = cnt l s - 1 by simp [newK, hmay])
    have Hi := Lib.hid (show newIs l s = decide (0 < cnt l s) by simp [newIs, hmay])
    have HM := Lib.hid hmay
    clear hm hmay
    go_enter Try.func8, Try.ntmps8
    go_wp2_with fail
    refine Hm.out.mono ?_
    rintro e w1 ⟨rfl, hb⟩
    have Hb := Lib.hid (behind_any l A n c s w1 hn hn62 ((h.below hb (Nat.le_refl _)).more hb.size) HM.out)
    clear h
    generalize cnt l s = m at *
    go_wp2_with fail
    refine Hb.out.mono ?_
    rintro e w2 ⟨rfl, hb2⟩
    rcases Nat.eq_zero_or_pos m with rfl | hm0
    · go_wp2
      go_ret2
      exact ⟨by rw [Hk.out, Hi.out]; rfl, hb.trans (hb2.mono hb.size)⟩
    · obtain ⟨j, rfl⟩ : ∃ j, m = j + 1 := ⟨m - 1, by omega⟩
      go_wp2
      go_ret2
      exact ⟨by rw [Hk.out, Hi.out]; simp, hb.trans (hb2.mono hb.size)⟩

theorem newIs_lt {l : List Ver} {s : Int} (h : newIs l s = true) : newK l s < l.length := newK_lt h

set_option maxHeartbeats 400000 in
theorem there_any (l : List Ver) (A : Option Addr) (n c : Nat) (s : Int) (w : World) (hn : l.length = n) (hn62 : n ≤ 4611686018427387903) (h : Rd w w.heap.size 2 A n (vcells l)) :
    Calls Try.prog 20 #[.slice A n c, .int .u64 s] w fun e w' => e = .returned (.bool (thereB l s)) ∧ Below w.heap.size w w' := by
  have hm := newest_any l A n c s w hn hn62 h
  have Ht := Lib.hid (show thereB l s = (newIs l s && kindAt l (newK l s) == 1) from rfl)
  cases hi : newIs l s with
  | false =>
    rw [hi] at hm Ht
    have Hm := Lib.hid hm
    clear hm hi h
    go_enter Try.func20, Try.ntmps20
    go_wp2_with fail
    refine Hm.out.mono ?_
    rintro e w' ⟨rfl, hb⟩
    go_wp2
    go_ret
    exact ⟨ret_bool (by rw [Ht.out]; rfl), hb⟩
  | true =>
    have hk := newIs_lt hi
    rw [hi] at hm Ht
    have Hm := Lib.hid hm
    clear hm hi
    have hmx := h.2.1
    unfold maxLen at hmx
    obtain ⟨b, off, rfl, hblk, hcell⟩ := h.2.2 (by omega)
    have c1 := hcell _ _ (vcells_k hk)
    generalize kindAt l (newK l s) = y at *
    generalize newK l s = k at *
    have hki : (k : Int) < (n : Int) := by omega
    clear h hcell
    go_enter Try.func20, Try.ntmps20
    go_wp2_with fail
    refine Hm.out.mono ?_
    rintro e w1 ⟨rfl, hb⟩
    have c1' : w1.cell? ⟨b, off + k * 2 + 1, none⟩ = some (.int .i64 y) := (hb.cell (p := ⟨b, off + k * 2 + 1, none⟩) hblk).trans c1
    clear c1
    go_wp2
    go_ret
    exact ⟨ret_bool (by rw [Ht.out]; simp), hb⟩

end Go.Proofs.Ytldeldjbpngbkaa.Sn
