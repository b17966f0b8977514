/- What the law's own helpers come to: which, are, knows. No condition. -/
import Derived.Test.YtldeldjbpngbkaaSn5
namespace Go.Proofs.Ytldeldjbpngbkaa.Sn
open Go.RowKit

theorem Try.infoInt : (Try.prog.info? 3).map (fun i => (i.zero, i.size, i.bytes)) = some (some (.int .i64 0), 1, 8) := by kernel_rfl
theorem eltInt : Elt Try.prog 73 3 (.int .i64 0) 1 8 := ⟨Try.underlying73, Try.infoInt, rfl, by omega⟩

def whichTo (l : List Bool) (k : Nat) : List Int := ((List.range k).filter fun i => l.getD i false).map Int.ofNat
def whichL (l : List Bool) : List Int := whichTo l l.length
theorem whichTo_len (l : List Bool) (k : Nat) : (whichTo l k).length ≤ k := by
  unfold whichTo
  rw [List.length_map]
  exact Nat.le_trans (List.length_filter_le _ _) (by simp)
theorem whichTo_yes {l : List Bool} {k : Nat} (h : l.getD k false = true) : whichTo l (k + 1) = whichTo l k ++ [(k : Int)] := by
  unfold whichTo
  rw [List.range_succ, List.filter_append, List.map_append]
  simp only [List.filter_cons, h, if_true, List.filter_nil, List.map_cons, List.map_nil]
  rfl
theorem whichTo_no {l : List Bool} {k : Nat} (h : l.getD k false = false) : whichTo l (k + 1) = whichTo l k := by
  unfold whichTo
  rw [List.range_succ, List.filter_append, List.map_append]
  simp only [List.filter_cons, h, List.filter_nil]
  simp

set_option maxHeartbeats 400000 in
theorem which_any (l : List Bool) (A : Option Addr) (n c : Nat) (w : World) (hn : l.length = n) (hnm : n ≤ 1000000) (h : Rd w w.heap.size 1 A n (l.map .bool)) :
    Calls Try.prog 26 #[.slice A n c] w (RetOwn w 3 1 (whichL l).length ((whichL l).map (.int .i64))) := by
  go_enter Try.func26, Try.ntmps26
  go_wp2
  go_loopw [3, 4] (fun v i wr => ∃ k : Nat, k ≤ n ∧ i = .int .i64 k ∧ wr.ownsRow w.heap.size 3 1 v (whichTo l k).length ((whichTo l k).map (.int .i64)) ∧ Below w.heap.size w wr) (fun _ i _ => n - (intOf i).toNat)
  case atStart => exact ⟨0, Nat.zero_le _, rfl, World.ownsRow_nil _ _ _ _, Below.refl _ _⟩
  case round =>
    obtain ⟨k, hk, rfl, hrow, hB⟩ := hrel
    by_cases hlt : k < n
    · obtain ⟨b, off, rfl, hblk, hcell⟩ := h.2.2 (by omega)
      have ck : wr.cell? ⟨b, off + k, none⟩ = some (.bool (l.getD k false)) := (hB.cell (p := ⟨b, off + k, none⟩) hblk).trans (hcell k _ (by simp [show k < l.length by omega]))
      have hl := whichTo_len l k
      have hs := hB.size
      clear hcell
      cases hb : l.getD k false with
      | false =>
        have HW := Lib.hid (whichTo_no hb)
        rw [hb] at ck
        clear hb
        go_wp2
        go_roundw
        case rel => exact ⟨k + 1, by omega, by go_num, by rw [HW.out]; exact hrow, hB⟩
        case measure => simp [intOf]; omega
      | true =>
        have HW := Lib.hid (whichTo_yes hb)
        rw [hb] at ck
        clear hb
        go_wp2_with (at_builtin; refine wpList_push eltInt rfl (.tmp 15) (.tmp 17) rfl (W := wr) rfl hrow rfl rfl (by simp [Value.oneCell']) (by omega) (by unfold maxLen; omega) hB hs ?_; intro v' w' hown' hb' _ _)
        go_roundw
        case rel => exact ⟨k + 1, by omega, by go_num, by rw [HW.out, List.length_append, List.map_append]; exact hown', hb'⟩
        case measure => simp [intOf]; omega
    · obtain rfl : k = n := by omega
      go_wp2
      go_ret
      exact ⟨_, rfl, by unfold whichL; rw [hn]; exact hrow, hB⟩

def areB (l : List Bool) (want : List Int) : Bool := whichL l == want

set_option maxHeartbeats 400000 in
theorem are_any (l : List Bool) (A : Option Addr) (n c : Nat) (want : List Int) (A' : Option Addr) (n' c' : Nat) (w : World) (hn : l.length = n) (hnm : n ≤ 1000000) (hn' : want.length = n') (h : Rd w w.heap.size 1 A n (l.map .bool))
    (h' : Rd w w.heap.size 1 A' n' (want.map (.int .i64))) :
    Calls Try.prog 18 #[.slice A n c, .slice A' n' c'] w fun e w' => e = .returned (.bool (areB l want)) ∧ Below w.heap.size w w' := by
  have hm := h'.2.1
  unfold maxLen at hm
  have hc := Lib.hid (which_any l A n c w hn hnm h)
  have HA := Lib.hid (show areB l want = (whichL l == want) from rfl)
  have hgl : (whichL l).length ≤ 1000000 := Nat.le_trans (whichTo_len _ _) (by omega)
  clear h
  generalize whichL l = got at *
  go_enter Try.func18, Try.ntmps18
  go_wp2_with fail
  refine hc.out.mono ?_
  rintro e w1 ⟨v, rfl, hrow, hB⟩
  obtain ⟨A2, c2, rfl⟩ := own_slice hrow
  by_cases hlen : got.length = n'
  · have hlb : ((got.length : Int) != (n' : Int)) = false := by simp [hlen]
    go_wp2
    go_loopw [6] (fun i wr => ∃ k : Nat, k ≤ n' ∧ i = .int .i64 k ∧ (∃ q, wr = w1.drewN q) ∧ got.take k = want.take k) (fun i _ => n' - (intOf i).toNat)
    case atStart => exact ⟨0, Nat.zero_le _, rfl, ⟨0, rfl⟩, rfl⟩
    case round =>
      obtain ⟨k, hk, rfl, ⟨q, rfl⟩, hpre⟩ := hrel
      have HP := Lib.hid hpre
      clear hpre
      by_cases hlt : k < n'
      · obtain ⟨b, off, rfl, hblk, hcell⟩ := h'.2.2 (by omega)
        rcases own_form hrow with ⟨_, h0, _⟩ | ⟨g, cap, hv, hg, hglt, _⟩
        · omega
        simp only [Value.slice.injEq, true_and] at hv
        obtain ⟨rfl, rfl⟩ := hv
        have hkg : k < got.length := by omega
        have hkw : k < want.length := by omega
        have cw : w1.cell? ⟨b, off + k, none⟩ = some (.int .i64 want[k]) := (hB.cell (p := ⟨b, off + k, none⟩) hblk).trans (hcell k _ (by simp [hkw]))
        have cg : w1.cell? ⟨g, k, none⟩ = some (.int .i64 got[k]) := by rw [hrow.cellAt k (by omega)]; simp [hkg]
        have HT := Lib.hid (fun (he : got[k] = want[k]) => show got.take (k + 1) = want.take (k + 1) by
          rw [List.take_succ_eq_append_getElem hkg, List.take_succ_eq_append_getElem hkw, HP.out, he])
        have HF := Lib.hid (fun (hne : ¬ got[k] = want[k]) => show (got == want) = false by
          rw [beq_eq_false_iff_ne]; rintro rfl; exact hne rfl)
        have hk1 : (k : Int) < (n' : Int) := by omega
        have hk2 : (k : Int) < (got.length : Int) := by omega
        generalize want[k] = x at *
        generalize got[k] = y at *
        clear hcell
        by_cases hxy : y = x
        · have HT2 := Lib.hid (HT.out hxy)
          clear HF HT
          subst hxy
          go_wp2
          go_quiet (fail)
          go_wp2
          go_roundw
          case rel => exact ⟨k + 1, by omega, by go_num, by first | exact ⟨_, rfl⟩ | exact ⟨_, World.drewN_drewN _ _ _⟩, HT2.out⟩
          case measure => simp [intOf]; omega
        · have HF2 := Lib.hid (HF.out hxy)
          have hne : (y != x) = true := by simp [hxy]
          clear HT HF hxy
          go_wp2
          go_quiet (fail)
          go_wp2
          go_ret
          refine ⟨ret_bool (by rw [HA.out, HF2.out]), ?_⟩
          first | exact below_drewN hB _ | exact below_drewN (below_drewN hB _) _
      · obtain rfl : k = n' := by omega
        go_wp2
        go_ret
        refine ⟨ret_bool ?_, below_drewN hB _⟩
        have := HP.out
        rw [List.take_of_length_le (by omega), List.take_of_length_le (by omega)] at this
        rw [HA.out, this]
        simp
  · have hlb : ((got.length : Int) != (n' : Int)) = true := by simp; omega
    have HF := Lib.hid (show (got == want) = false by rw [beq_eq_false_iff_ne]; rintro rfl; exact hlen hn')
    clear hlen
    go_wp2
    go_ret
    exact ⟨ret_bool (by rw [HA.out, HF.out]), hB⟩
end Go.Proofs.Ytldeldjbpngbkaa.Sn
