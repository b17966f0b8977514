/- The document's manifest: hourbookref22.Bytes. For every row of edits. -/
import Derived.Test.YtmahadcohnhdkaaDoorMlR1
import Derived.Test.YtmahadcohnhdkaaDoorMl3
import Derived.Test.YtmahadcohnhdkaaDoorHeadR1
namespace Go.Proofs.YtmahadcohnhdkaaDoor
open Go.RowKit
attribute [local go_sem] Oper.semAt_some

set_option maxRecDepth 100000 in
set_option maxHeartbeats 8000000 in
theorem rbytesM_any (l : List EdX) (A : Option Addr) (n c : Nat) (w : World) (hn : l.length = n) (hn9 : n ≤ 1000000) (hr : Rd w w.heap.size 5 A n (exCells l)) (hok : ∀ x ∈ l, x.ok w w.heap.size) :
    Calls Tryd.prog 12 #[.slice A n c] w (RetBytes w (l.map EdX.d)) := by
  obtain ⟨cd, hcd⟩ : ∃ k, k = (if (l.map EdX.d).all mayEd = true then (0 : Int) else 1) := ⟨_, rfl⟩
  unfold RetBytes
  rw [← hcd]
  have HCD := Lib.hid hcd
  have HN := Lib.hid hn
  have HR := Lib.hid hr
  have HOK := Lib.hid hok
  have PH := Lib.hid (rputH_any 2 0 (by decide) w)
  rw [show headP 2 0 = headB 2 0 from by unfold headP; rw [if_pos (by decide)], show (if mayH 2 0 then 0 else 1 : Nat) = 0 from by rw [if_pos (by decide)], headB_len] at PH
  clear hcd hn hr hok
  go_enter Tryd.func12, Tryd.ntmps12
  go_wp2_with fail
  refine PH.out.mono ?_
  rintro e w1 ⟨v1, rfl, o1, b1⟩
  obtain ⟨A1, c1, rfl, -⟩ := own_cap o1
  have HB := Lib.hid b1
  have O1 : Hid (Ow _ _ _ _ _ _ _) := Lib.hid o1
  clear PH o1 b1
  go_wp2_with fail
  go_loopw [4, 6] (fun v i wr => ∃ j : Nat, j ≤ n ∧ i = .int .i64 (j : Int) ∧ ((l.take j).map EdX.d).all mayEd = true ∧ Below w.heap.size w wr ∧ ∃ m, m = (bytesM ((l.take j).map EdX.d)).length ∧ Ow wr w.heap.size 5 1 v m (bcells (bytesM ((l.take j).map EdX.d)))) (fun _ i _ => n - (intOf i).toNat)
  case atStart => exact ⟨0, Nat.zero_le _, rfl, rfl, HB.out, 16, by rw [List.take_zero]; unfold bytesM; rw [List.length_append, headB_len]; rfl, by rw [List.take_zero]; unfold bytesM; rw [show (([] : List EdX).map EdX.d).flatMap frameB = [] from rfl, List.append_nil]; exact O1.out⟩
  case round =>
    obtain ⟨j, hj, rfl, hal, hb, m, hm, o⟩ := hrel
    have HB := Lib.hid hb
    have O : Hid (Ow _ _ _ _ _ _ _) := Lib.hid o
    have HM := Lib.hid hm
    have HAL := Lib.hid hal
    have hml : m ≤ 16 + 10012 * j := by
      have := frames_len hal
      rw [hm]
      unfold bytesM
      rw [List.length_append, headB_len]
      rw [List.length_map, List.length_take] at this
      omega
    clear hal hb hm o
    by_cases hlt : j < n
    · have hji : (j : Int) < (n : Int) := by omega
      obtain ⟨p, off, rfl, hpl, hcell⟩ := HR.out.2.2 (by omega)
      obtain ⟨x, hx⟩ : ∃ x, l[j]? = some x := ⟨l[j]'(by have := HN.out; omega), List.getElem?_eq_getElem _⟩
      obtain ⟨xf, xl, xc, xr⟩ := HOK.out x (List.mem_of_getElem? hx)
      have hat := (exAt hcell hx).after hpl HB.out
      obtain ⟨X, hX⟩ : ∃ X, X = edC x.d ⟨x.d.name.toArray⟩ (.slice x.A x.n x.c) := ⟨_, rfl⟩
      have hsz : X.size = 5 := by rw [hX]; rfl
      have hat : At wr p (off + j * 5) X.toList := by rw [hX]; exact hat
      have htk : (l.take (j + 1)).map EdX.d = (l.take j).map EdX.d ++ [x.d] := by rw [List.take_add_one, hx, List.map_append]; rfl
      have HAT := Lib.hid hat
      have HTK := Lib.hid htk
      have HXJ := Lib.hid hx
      have PM := Lib.hid (rputM_any x.d xf x.A x.n x.c wr xl ((xr.below HB.out (Nat.le_refl _)).more HB.out.size) xc)
      rw [← hX] at PM
      unfold RetPutM at PM
      obtain ⟨c9, hc9⟩ : ∃ k, k = (if mayEd x.d = true then (0 : Int) else 1) := ⟨_, rfl⟩
      rw [← hc9] at PM
      clear hcell hpl hx hat hX htk xr xf xl xc
      go_wp2_with (first
        | (refine wpList_value rfl (exec_load_mid rfl rfl HAT.out Tryd.underlying29 rfl (by rw [Array.length_toList, hsz]; kernel_rfl)) ?_)
        | fail)
      refine PM.out.mono ?_
      rintro e w4 ⟨v4, rfl, o4, b4⟩
      have HB := Lib.hid (belowGo HB.out b4)
      have O : Hid (Ow _ _ _ _ _ _ _) := Lib.hid (Ow.after O.out b4)
      cases hmx : mayEd x.d with
      | false =>
        rw [hmx, if_neg (by decide)] at hc9
        subst hc9
        have hno : (l.map EdX.d).all mayEd = false := by
          rw [List.all_eq_false]
          exact ⟨x.d, List.mem_map_of_mem (List.mem_of_getElem? HXJ.out), by rw [hmx]; decide⟩
        have HNO := Lib.hid hno
        clear hno o4 PM b4 hmx
        go_wp2_with fail
        refine bodyPost_ret (results_tmp2 rfl) rfl ⟨.slice none 0 0, by rw [HCD.out, HNO.out]; rfl, ?_, HB.out⟩
        unfold bytesP
        rw [HNO.out]
        exact World.ownsRow_nil _ _ _ _
      | true =>
        rw [hmx, if_pos rfl] at hc9
        subst hc9
        have hpm : putM x.d = frameB x.d := by unfold putM; rw [hmx]; rfl
        rw [hpm] at o4
        obtain ⟨A4, c4, rfl, -⟩ := own_cap o4
        have R4 := Lib.hid (Rd.of_own o4)
        have hfl : (frameB x.d).length ≤ 10012 := by rw [frameB_len]; have := edB_short hmx; omega
        have HMX := Lib.hid hmx
        obtain ⟨fl, hfl2⟩ : ∃ k, k = (frameB x.d).length := ⟨_, rfl⟩
        rw [← hfl2] at R4 hfl ⊢
        have HFL := Lib.hid hfl2
        clear hpm o4 PM b4 hmx hfl2
        go_wp2_with (first
          | (at_builtin; refine wpList_app eltU8 rfl (.tmp 30) (.tmp 31) rfl rfl O.out rfl R4.out (bcells_one _) (by omega) (by unfold maxLen; omega) (Below.refl _ _) HB.out.size ?_; intro v5 w5 o5 b5 g5 x5; have HB := Lib.hid (HB.out.trans b5); have O5 : Hid (Ow _ _ _ _ _ _ _) := Lib.hid o5; clear o5 b5 g5 x5)
          | fail)
        go_roundw
        case rel =>
          refine ⟨j + 1, by omega, by go_num, ?_, HB.out, m + fl, ?_, ?_⟩
          · rw [HTK.out, List.all_append, HAL.out]; simp [HMX.out]
          · rw [HTK.out]; unfold bytesM; rw [List.flatMap_append, ← List.append_assoc, List.length_append, HM.out, HFL.out]; simp [bytesM]
          · rw [HTK.out]; unfold bytesM; rw [List.flatMap_append, ← List.append_assoc, bcells_append]; simpa [bytesM] using O5.out
        case measure => simp [intOf]; omega
    · obtain rfl : j = n := by omega
      have hji : ¬ (j : Int) < (j : Int) := by omega
      have htk : l.take j = l := List.take_of_length_le (by have := HN.out; omega)
      have HAL2 : Hid ((l.map EdX.d).all mayEd = true) := Lib.hid (by have := HAL.out; rwa [htk] at this)
      have HM2 : Hid (m = (bytesM (l.map EdX.d)).length) := Lib.hid (by have := HM.out; rwa [htk] at this)
      rw [htk] at O
      clear htk
      go_wp2_with fail
      refine bodyPost_ret (results_tmp2 rfl) rfl ⟨_, by rw [HCD.out, HAL2.out]; rfl, ?_, HB.out⟩
      unfold bytesP
      rw [if_pos HAL2.out, ← HM2.out]
      exact O.out
end Go.Proofs.YtmahadcohnhdkaaDoor
