/- What the document's seen, Seen and Kept come to. For every world in which the slices read as lists. -/
import Derived.Test.YtpeccfopffgmiaaSeen4
import Derived.Test.YtpeccfopffgmiaaApp
namespace Go.Proofs.Ytpeccfopffgmiaa
open Go.RowKit

theorem eltBool : Elt Try.prog 29 4 (.bool false) 1 1 := ⟨Try.underlying29, Try.infoBool, rfl, by omega⟩

theorem seenAt_take {l : List Ver} {at_ : List Int} {i k : Nat} (hk : k < at_.length) : seenAt l (at_.take (k + 1)) i = (seenAt l (at_.take k) i || (newIs l at_[k] && newK l at_[k] == i)) := by
  unfold seenAt
  rw [List.take_succ_eq_append_getElem hk, List.any_append]
  simp

set_option maxHeartbeats 400000 in
theorem refseen_any (l : List Ver) (A : Option Addr) (n c : Nat) (i : Nat) (at_ : List Int) (A' : Option Addr) (n' c' : Nat) (w : World) (hn : l.length = n) (hnm : n ≤ 1000000) (hn' : at_.length = n')
    (h : Rd w w.heap.size 2 A n (vcells l)) (h' : Rd w w.heap.size 1 A' n' (at_.map (.int .u64))) :
    Calls Try.prog 24 #[.slice A n c, .int .i64 i, .slice A' n' c'] w fun e w' => e = .returned (.bool (seenAt l at_ i)) ∧ ∃ q, w' = w.drewN q := by
  have hm := h'.2.1
  unfold maxLen at hm
  go_enter Try.func24, Try.ntmps24
  go_wp2
  go_loopw [7] (fun j wr => ∃ k : Nat, k ≤ n' ∧ j = .int .i64 k ∧ (∃ q, wr = w.drewN q) ∧ seenAt l (at_.take k) i = false) (fun j _ => n' - (intOf j).toNat)
  case atStart => exact ⟨0, Nat.zero_le _, rfl, ⟨0, rfl⟩, rfl⟩
  case round =>
    obtain ⟨k, hk, rfl, ⟨q, rfl⟩, hs⟩ := hrel
    by_cases hlt : k < n'
    · obtain ⟨b', off', rfl, hblk', hcell'⟩ := h'.2.2 (by omega)
      have hkl : k < at_.length := by omega
      have ct : w.cell? ⟨b', off' + k, none⟩ = some (.int .u64 at_[k]) := hcell' k _ (by simp [hkl])
      have HS := Lib.hid (seenAt_take (l := l) (i := i) hkl)
      have HA := Lib.hid (show at_[k] ∈ at_ from List.getElem_mem hkl)
      generalize at_[k] = s at *
      rw [hs] at HS
      have hc := Lib.hid (refNewest_any l A n c s (w.drewN q) hn (by omega) (h.drewN q))
      clear hcell' hs
      have HM := Lib.hid (show newIs l s = true → newK l s = i → seenAt l at_ i = true from fun h1 h2 => by
        unfold seenAt; exact List.any_eq_true.2 ⟨s, HA.out, by simp [h1, h2]⟩)
      go_wp2_with fail
      refine hc.out.mono ?_
      rintro e w' ⟨rfl, q', rfl⟩
      cases hi : newIs l s with
      | false =>
        rw [hi] at HS
        clear hi HM HA
        go_wp2
        go_roundw
        case rel => exact ⟨k + 1, by omega, by go_num, by first | exact ⟨_, rfl⟩ | exact ⟨_, World.drewN_drewN _ _ _⟩, by rw [HS.out]; rfl⟩
        case measure => simp [intOf]; omega
      | true =>
        have HM := Lib.hid (HM.out hi)
        rw [hi] at HS
        clear hi HA
        generalize newK l s = m at *
        by_cases hmi : m = i
        · have HT := Lib.hid (HM.out hmi)
          subst hmi
          clear HM
          go_wp2
          go_ret
          exact ⟨ret_bool HT.out.symm, by first | exact ⟨_, rfl⟩ | exact ⟨_, World.drewN_drewN _ _ _⟩⟩
        · have hne : ((m : Int) == (i : Int)) = false := by simp; omega
          have HS' := Lib.hid (show seenAt l (at_.take (k + 1)) i = false by rw [HS.out]; simp [hmi])
          clear hmi HS HM
          go_wp2
          go_roundw
          case rel => exact ⟨k + 1, by omega, by go_num, by first | exact ⟨_, rfl⟩ | exact ⟨_, World.drewN_drewN _ _ _⟩, HS'.out⟩
          case measure => simp [intOf]; omega
    · obtain rfl : k = n' := by omega
      have HS := Lib.hid hs
      clear hs
      go_wp2
      go_ret
      exact ⟨ret_bool (by have := HS.out; rw [List.take_of_length_le (by omega)] at this; exact this.symm), q, rfl⟩

set_option maxHeartbeats 400000 in
theorem refSeen_any (l : List Ver) (A : Option Addr) (n c : Nat) (at_ : List Int) (A' : Option Addr) (n' c' : Nat) (w : World) (hn : l.length = n) (hnm : n ≤ 1000000) (hn' : at_.length = n')
    (h : Rd w w.heap.size 2 A n (vcells l)) (h' : Rd w w.heap.size 1 A' n' (at_.map (.int .u64))) :
    Calls Try.prog 8 #[.slice A n c, .slice A' n' c'] w (RetOwn w 4 1 (seenL l at_).length ((seenL l at_).map .bool)) := by
  go_enter Try.func8, Try.ntmps8
  go_wp2
  go_loopw [5, 6] (fun v i wr => ∃ k : Nat, k ≤ n ∧ i = .int .i64 k ∧ wr.ownsRow w.heap.size 4 1 v k (((List.range k).map (seenAt l at_)).map .bool) ∧ Below w.heap.size w wr ∧ (0 < k → mayB l = true)) (fun _ i _ => n - (intOf i).toNat)
  case atStart => exact ⟨0, Nat.zero_le _, rfl, World.ownsRow_nil _ _ _ _, Below.refl _ _, fun h => absurd h (by omega)⟩
  case round =>
    obtain ⟨k, hk, rfl, hrow, hB, hmk⟩ := hrel
    have HK := Lib.hid hmk
    clear hmk
    by_cases hlt : k < n
    · have hs := hB.size
      have hc := Lib.hid (refMay_any l A n c wr hn ((h.below hB (Nat.le_refl _)).more hs))
      go_wp2_with fail
      refine hc.out.mono ?_
      rintro e w' ⟨rfl, q, rfl⟩
      cases hmay : mayB l with
      | false =>
        have h0 : k = 0 := by
          rcases Nat.eq_zero_or_pos k with h0 | h0
          · exact h0
          · rw [HK.out h0] at hmay; cases hmay
        subst h0
        have E1 := Lib.hid (show seenL l at_ = [] by simp [seenL, hmay])
        clear hmay HK
        go_wp2
        go_ret
        exact ⟨_, rfl, by rw [E1.out]; exact hrow, below_drewN hB _⟩
      | true =>
        have HM := Lib.hid hmay
        clear hmay
        have hsz : (wr.drewN q).heap.size = wr.heap.size := rfl
        have hc2 := Lib.hid (refseen_any l A n c k at_ A' n' c' (wr.drewN q) hn hnm hn' ((h.below hB (Nat.le_refl _)).more hs) ((h'.below hB (Nat.le_refl _)).more hs))
        go_wp2_with fail
        refine hc2.out.mono ?_
        rintro e w' ⟨rfl, q2, rfl⟩
        obtain ⟨sb, hsb⟩ : ∃ sb, sb = seenAt l at_ k := ⟨_, rfl⟩
        rw [← hsb]
        have HB := Lib.hid hsb
        clear hsb hsz
        go_wp2_with (at_builtin; refine wpList_push eltBool rfl (.tmp 17) (.tmp 22) rfl (W := wr.drewN (q + q2)) rfl hrow rfl rfl (by simp [Value.oneCell']) (by omega) (by unfold maxLen; omega) (below_drewN hB _) hs ?_; intro v' w' hown' hb' _ _)
        go_roundw
        case rel => exact ⟨k + 1, by omega, by go_num, by rw [List.range_succ, List.map_append, List.map_append]; simp only [List.map_cons, List.map_nil]; rw [← HB.out]; exact hown', hb', fun _ => HM.out⟩
        case measure => simp [intOf]; omega
    · obtain rfl : k = n := by omega
      have E1 := Lib.hid (seenL_of (l := l) (by rw [hn]; exact HK.out) at_)
      clear HK
      go_wp2
      go_ret
      have e1 := E1.out
      rw [hn] at e1
      exact ⟨_, rfl, by rw [e1, List.length_map, List.length_range]; exact hrow, hB⟩

theorem keptAt_ref (l : List Ver) (at_ : List Int) (k : Nat) : keptAt l at_ k = (seenAt l at_ k && (kindAt l k == 1 || (List.range k).any (keptAt l at_))) := kept_step l at_ k

set_option maxHeartbeats 1000000 in
theorem refKept_any (l : List Ver) (A : Option Addr) (n c : Nat) (at_ : List Int) (A' : Option Addr) (n' c' : Nat) (w : World) (hn : l.length = n) (hnm : n ≤ 1000000) (hn' : at_.length = n')
    (h : Rd w w.heap.size 2 A n (vcells l)) (h' : Rd w w.heap.size 1 A' n' (at_.map (.int .u64))) :
    Calls Try.prog 10 #[.slice A n c, .slice A' n' c'] w (RetOwn w 4 1 (keptL l at_).length ((keptL l at_).map .bool)) := by
  go_enter Try.func10, Try.ntmps10
  go_wp2
  go_loopw [5, 6] (fun v i wr => ∃ k : Nat, k ≤ n ∧ i = .int .i64 k ∧ wr.ownsRow w.heap.size 4 1 v k (((List.range k).map (keptAt l at_)).map .bool) ∧ Below w.heap.size w wr ∧ (0 < k → mayB l = true)) (fun _ i _ => n - (intOf i).toNat)
  case atStart => exact ⟨0, Nat.zero_le _, rfl, World.ownsRow_nil _ _ _ _, Below.refl _ _, fun h => absurd h (by omega)⟩
  case round =>
    obtain ⟨k, hk, rfl, hrow, hB, hmk⟩ := hrel
    have HK := Lib.hid hmk
    clear hmk
    by_cases hlt : k < n
    · have hs := hB.size
      have hc := Lib.hid (refMay_any l A n c wr hn ((h.below hB (Nat.le_refl _)).more hs))
      go_wp2_with fail
      refine hc.out.mono ?_
      rintro e w' ⟨rfl, q, rfl⟩
      cases hmay : mayB l with
      | false =>
        have h0 : k = 0 := by
          rcases Nat.eq_zero_or_pos k with h0 | h0
          · exact h0
          · rw [HK.out h0] at hmay; cases hmay
        subst h0
        have E1 := Lib.hid (show keptL l at_ = [] by simp [keptL, hmay])
        clear hmay HK
        go_wp2
        go_ret
        exact ⟨_, rfl, by rw [E1.out]; exact hrow, below_drewN hB _⟩
      | true =>
        have HM := Lib.hid hmay
        clear hmay
        obtain ⟨A2, c2, rfl⟩ := own_slice hrow
        go_wp2
        obtain ⟨wo, rfl⟩ : ∃ wo : World, wo = wr := ⟨_, rfl⟩
        go_loop [7, 8] (fun b j => ∃ m : Nat, m ≤ k ∧ j = .int .i64 m ∧ b = .bool ((List.range m).any (keptAt l at_))) (fun _ j => k - (intOf j).toNat)
        case atStart => exact ⟨0, Nat.zero_le _, rfl, rfl⟩
        case round =>
          obtain ⟨m, hm, rfl, rfl⟩ := hrel
          by_cases hmk : m < k
          · rcases own_form hrow with ⟨_, h0, _⟩ | ⟨g, cap, hv, hg, hglt, _⟩
            · omega
            simp only [Value.slice.injEq, true_and] at hv
            obtain ⟨rfl, rfl⟩ := hv
            have cm : wo.cell? ⟨g, m, none⟩ = some (.bool (keptAt l at_ m)) := by
              rw [hrow.cellAt m (by omega)]; simp [hmk]
            have HA := Lib.hid (show (List.range (m + 1)).any (keptAt l at_) = ((List.range m).any (keptAt l at_) || keptAt l at_ m) by rw [List.range_succ, List.any_append]; simp)
            cases hkm : keptAt l at_ m with
            | false =>
              rw [hkm] at cm HA
              clear hkm
              go_wp2
              go_round
              case rel => exact ⟨m + 1, by omega, by go_num, by rw [HA.out]; simp⟩
              case measure => simp [intOf]; omega
            | true =>
              rw [hkm] at cm HA
              clear hkm
              go_wp2
              go_round
              case rel => exact ⟨m + 1, by omega, by go_num, by rw [HA.out]; simp⟩
              case measure => simp [intOf]; omega
          · obtain rfl : m = k := by omega
            obtain ⟨b, off, rfl, hblk, hcell⟩ := h.2.2 (by omega)
            have hml : m < l.length := by omega
            have c1 : wo.cell? ⟨b, off + m * 2 + 1, none⟩ = some (.int .i64 (kindAt l m)) := (hB.cell (p := ⟨b, off + m * 2 + 1, none⟩) hblk).trans (hcell _ _ (vcells_k hml))
            have hc2 := Lib.hid (refseen_any l _ n c m at_ A' n' c' (wo.drewN q) hn hnm hn' ((h.below hB (Nat.le_refl _)).more hs) ((h'.below hB (Nat.le_refl _)).more hs))
            have HR := keptAt_ref l at_ m
            have HL := Lib.hid (show (List.map Value.bool (List.map (keptAt l at_) (List.range (m + 1)))) = (List.map Value.bool (List.map (keptAt l at_) (List.range m))) ++ [.bool (keptAt l at_ m)] by
              rw [List.range_succ, List.map_append, List.map_append]; rfl)
            rw [HR] at HL
            have HL := Lib.hid HL.out
            clear HR hcell
            go_wp2_with fail
            refine hc2.out.mono ?_
            rintro e w' ⟨rfl, q2, rfl⟩
            generalize (List.range m).any (keptAt l at_) = ah at *
            generalize kindAt l m = y at *
            generalize seenAt l at_ m = sb at *
            cases sb with
            | false =>
              go_wp2_with (at_builtin; refine wpList_push eltBool rfl (.tmp 28) (.tmp 44) rfl (W := wo.drewN (q + q2)) rfl hrow rfl rfl (by simp [Value.oneCell']) (by omega) (by unfold maxLen; omega) (below_drewN hB _) hs ?_; intro v' w' hown' hb' _ _)
              go_roundw
              case rel => exact ⟨m + 1, by omega, by go_num, by rw [HL.out]; exact hown', hb', fun _ => HM.out⟩
              case measure => simp [intOf]; omega
            | true =>
              by_cases hy : y = 1
              · subst hy
                go_wp2_with (at_builtin; refine wpList_push eltBool rfl (.tmp 28) (.tmp 44) rfl (W := wo.drewN (q + q2)) rfl hrow rfl rfl (by simp [Value.oneCell']) (by omega) (by unfold maxLen; omega) (below_drewN hB _) hs ?_; intro v' w' hown' hb' _ _)
                go_roundw
                case rel => exact ⟨m + 1, by omega, by go_num, by rw [HL.out]; exact hown', hb', fun _ => HM.out⟩
                case measure => simp [intOf]; omega
              · have hyb : (y == 1) = false := by simp [hy]
                rw [hyb] at HL
                clear hy
                go_wp2_with (at_builtin; refine wpList_push eltBool rfl (.tmp 28) (.tmp 44) rfl (W := wo.drewN (q + q2)) rfl hrow rfl rfl (by simp [Value.oneCell']) (by omega) (by unfold maxLen; omega) (below_drewN hB _) hs ?_; intro v' w' hown' hb' _ _)
                go_roundw
                case rel => exact ⟨m + 1, by omega, by go_num, by rw [HL.out]; exact hown', hb', fun _ => HM.out⟩
                case measure => simp [intOf]; omega
    · obtain rfl : k = n := by omega
      have E1 := Lib.hid (keptL_of (l := l) (by rw [hn]; exact HK.out) at_)
      clear HK
      go_wp2
      go_ret
      have e1 := E1.out
      rw [hn] at e1
      exact ⟨_, rfl, by rw [e1, List.length_map, List.length_range]; exact hrow, hB⟩
end Go.Proofs.Ytpeccfopffgmiaa
