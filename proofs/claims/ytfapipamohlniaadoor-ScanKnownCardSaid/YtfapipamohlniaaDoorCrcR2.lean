/- The document's answer, chapter 02: left. -/
import Derived.Test.YtfapipamohlniaaDoorCrcR1
import Derived.Laws.OwnMore
namespace Go.Proofs.YtfapipamohlniaaDoor
open Go.RowKit

/-- what is left of a row: the last 32 of a row of the call's own -/
def RetLeft (w : World) (n : Nat) (L : List Bool) (e : Ending) (w' : World) : Prop :=
  ∃ (g c : Nat) (l : List Bool), e = .returned (.slice (some ⟨g, n - 32, none⟩) 32 (c - (n - 32))) ∧ n ≤ c ∧ w.heap.size ≤ g ∧ w'.ownsRow w.heap.size 4 1 (.slice (some ⟨g, 0, none⟩) n c) n (lcells l) ∧ Div l L (n - 32) ∧ Below w.heap.size w w'

set_option maxRecDepth 10000 in
set_option maxHeartbeats 1000000 in
theorem rleft_any (L : List Bool) (A : Option Addr) (n c : Nat) (w : World) (h32 : 32 ≤ n) (hn : n ≤ 140737488355328) (h : Rd w w.heap.size 1 A n (lcells L)) :
    Calls Tryd.prog 52 #[.slice A n c] w (RetLeft w n L) := by
  have hL : L.length = n := by have := h.1; rw [lcells_len] at this; omega
  have HL := Lib.hid hL
  have H := Lib.hid (rmodulus_any w)
  clear hL
  go_enter Tryd.func52, Tryd.ntmps52
  go_wp2_with fail
  refine H.out.mono ?_
  rintro e w1 ⟨v1, rfl, o1, b1⟩
  obtain ⟨g1, c1, rfl, hc1, hg1⟩ := own_ptr o1 (by omega)
  have r1 := own_rd o1
  have h1 := h.after b1
  clear H o1 h hg1
  have o0 : w1.ownsRow w1.heap.size 4 1 (.slice none 0 0) 0 [] := World.ownsRow_nil _ _ _ _
  go_wp2_with (at_builtin; refine wpList_app eltBool rfl (.tmp 8) (.tmp 9) rfl rfl o0 rfl h1 (lcells_one _) (by omega) (by unfold maxLen; omega) (Below.refl _ _) (Nat.le_refl _) ?_; intro v2 w2 o2 b2 x1 x2; clear x1 x2)
  rw [Nat.zero_add, List.nil_append] at o2
  obtain ⟨g, c2, rfl, hc2, hg⟩ := own_ptr o2 (by omega)
  have hs := b2.size
  have r2 := r1.below b2 (Nat.le_refl _)
  have hB := b1.trans (b2.mono b1.size)
  clear o0 h1 r2 hB
  go_loopw [4] (fun v wr => v = .slice (some ⟨g, 0, none⟩) n c2 ∧ wr = w2) (fun _ _ => 0)
  case atStart => exact ⟨by first | rfl | trivial, by first | rfl | trivial⟩
  case round =>
    obtain ⟨rfl, rfl⟩ := hrel
    have i32 : ¬ (n : Int) < 32 := by omega
    go_wp2_with fail
    generalize hWW : wr = w3 at *
    clear hWW
    go_loopw [5, 6] (fun i _ wz => ∃ k : Nat, k ≤ n - 32 ∧ i = .int .i64 (k : Int) ∧ Below w1.heap.size w1 wz ∧ ∃ l : List Bool, Div l L k ∧ wz.ownsRow w1.heap.size 4 1 (.slice (some ⟨g, 0, none⟩) n c2) n (lcells l)) (fun i _ _ => n - (intOf i).toNat)
    case atStart => exact ⟨0, by omega, rfl, b2, L, Div.zero _, o2⟩
    case round =>
      obtain ⟨k, hk, rfl, bz, l, HD, oz⟩ := hrel
      have hl : l.length = n := by rw [HD.len, HL.out]
      have rz := r1.below bz (Nat.le_refl _)
      by_cases hlt : k < n - 32
      · have i1 : (k : Int) + 32 < (n : Int) := by omega
        have hkl : k < l.length := by omega
        have hc := World.ownsRow.cellAt oz k (by omega)
        rw [lcells_get hkl] at hc
        have HLL := Lib.hid hl
        clear hl
        by_cases hb : l[k]'hkl = true
        · rw [hb] at hc
          have HB := Lib.hid hb
          clear hb
          have i3 : k < n := by omega
          have HDY := fun l' hp => Lib.hid (HD.yes (l' := l') hkl HB.out hp)
          clear rz
          go_wp2_with fail
          clear hc
          go_loopw [6] (fun i wy => ∃ j : Nat, j ≤ 32 ∧ i = .int .i64 (j : Int) ∧ Below w1.heap.size w1 wy ∧ ∃ l' : List Bool, Part l' l modL (k + 1) j ∧ wy.ownsRow w1.heap.size 4 1 (.slice (some ⟨g, 0, none⟩) n c2) n (lcells l')) (fun i _ => 32 - (intOf i).toNat)
          case atStart => exact ⟨0, by omega, rfl, bz, l, Part.zero _ _ _, oz⟩
          case round =>
            obtain ⟨j, hj, rfl, by_, l', HP, oy⟩ := hrel
            have hl' : l'.length = n := by rw [HP.len, HLL.out]
            by_cases hj32 : j < 32
            · obtain ⟨p, hp⟩ : ∃ p, p = k + 1 + j := ⟨_, rfl⟩
              have hpl : k + 1 + j < l'.length := by omega
              have hjm : j < modL.length := by rw [modL_len]; exact hj32
              have HP2 := HP.set hjm hpl
              have ry := r1.below by_ (Nat.le_refl _)
              have hcm := ry.cell rfl (by omega) (lcells_get hjm)
              rw [Nat.zero_add] at hcm
              have hcx := World.ownsRow.cellAt oy (k + 1 + j) (by omega)
              rw [lcells_get hpl] at hcx
              have hfz := World.ownsRow.frozenAt oy (k + 1 + j)
              have ep : (k : Int) + 1 + (j : Int) = (p : Int) := by omega
              have hpn : p < n := by omega
              have i4 : (j : Int) < 32 := by omega
              generalize l'[k + 1 + j]'hpl = x at *
              generalize modL[j]'hjm = y at *
              rw [← hp] at HP2 hcx hfz
              have HP2 := Lib.hid HP2
              have HPP := Lib.hid HP
              have hcur : Below wr.heap.size wr wr.drew := ⟨rfl, rfl, rfl, Nat.le_refl _, fun _ _ => rfl⟩
              have hbd : Below w1.heap.size w1 wr.drew := ⟨by_.os, by_.tape, by_.output, by_.size, by_.block⟩
              have HG := Lib.hid hg
              clear hp hl' HP ry hpl hjm
              go_wp2_with fail
              refine wp_region_plan (fun W => W.cell? ⟨g, p, none⟩ = some (.bool x)) [.calms [0, 1, 2, 3, 4, 5, 6, 7, 8, 9, 10, 12, 13, 14], .read 11, .act 15, .act 16, .calms [17], .act 18] (by kernel_rfl) (by rfl) (by kernel_rfl) (by kernel_rfl) hcx ?_
              have oy : wr.drew.ownsRow w1.heap.size 4 1 (.slice (some ⟨g, 0, none⟩) n c2) n (lcells l') := oy
              have hcx : wr.drew.cell? ⟨g, p, none⟩ = some (.bool x) := hcx
              have hcm : wr.drew.cell? ⟨g1, j, none⟩ = some (.bool y) := hcm
              have hfz : wr.drew.frozen? ⟨g, p, none⟩ = false := hfz
              generalize wr.drew = wd at *
              refine plan_calms (by simp [calmRow, need, chk]; rfl) ?_
              go_wp2_with fail
              refine plan_read (by rfl) (.bool x) (by rfl) (fun W hW => exec_load rfl rfl (by kernel_rfl) hW) ?_
              refine plan_act (by rfl) ?_
              go_wp2_with fail
              refine ⟨hcx, plan_last (by rfl) (by kernel_rfl) ?_⟩
              go_wp2_with fail
              refine plan_calms (by simp [calmRow, need]; rfl) ?_
              go_wp2_with fail
              refine plan_last (by rfl) (by kernel_rfl) ?_
              go_wp2_with fail
              refine plan_end ?_
              rw [show (!(x == y)) = (x ^^ y) by cases x <;> cases y <;> rfl]
              have hst := (World.ownsRow.stored oy p (.bool (x ^^ y))).1
              rw [lcells_set] at hst
              have hbs := hbd.setCell (p := ⟨g, p, none⟩) HG.out (.bool (x ^^ y))
              clear hcx hcm hfz oy hbd hcur
              generalize wd.setCell ⟨g, p, none⟩ (.bool (x ^^ y)) = we at *
              go_wp2_with fail
              go_roundw
              case rel => exact ⟨j + 1, by omega, by go_num, hbs, l'.set p (x ^^ y), HP2.out, hst⟩
              case measure => simp [intOf]; omega
            · obtain rfl : j = 32 := by omega
              have HD2 := HDY l' HP
              clear HDY HP
              go_wp2_with fail
              go_roundw
              case rel => exact ⟨k + 1, by omega, by go_num, by_, l', HD2.out, oy⟩
              case measure => simp [intOf]; omega
        · have hb : l[k]'hkl = false := by simpa using hb
          have HD2 := HD.no hkl hb
          rw [hb] at hc
          have i3 : k < n := by omega
          clear hb
          go_wp2_with fail
          go_roundw
          case rel => exact ⟨k + 1, by omega, by go_num, bz, l, HD2, oz⟩
          case measure => simp [intOf]; omega
      · obtain rfl : k = n - 32 := by omega
        have hB := b1.trans (bz.mono b1.size)
        have i1 : ¬ ((n - 32 : Nat) : Int) + 32 < (n : Int) := by omega
        have i2 : (n : Int) - 32 = ((n - 32 : Nat) : Int) := by omega
        obtain ⟨q, hq⟩ : ∃ q, q = n - 32 := ⟨_, rfl⟩
        rw [← hq] at i1 i2 HD ⊢
        have hqn : q ≤ n := by omega
        have hqc : q ≤ c2 := by omega
        have HQ := Lib.hid hq
        have HDD := Lib.hid HD
        clear hq HD hk hlt
        go_wp2_with fail
        go_ret
        have hq := HQ.out
        subst hq
        exact ⟨g, c2, l, by rw [show n - (n - 32) = 32 by omega]; rfl, hc2, Nat.le_trans b1.size hg, own_low oz b1.size, HDD.out, hB⟩
end Go.Proofs.YtfapipamohlniaaDoor
