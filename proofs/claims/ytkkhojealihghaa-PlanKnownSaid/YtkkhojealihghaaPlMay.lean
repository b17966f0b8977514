/- Package plan: May. For every row of items. -/
import Derived.Test.YtkkhojealihghaaPlKept
namespace Go.Proofs.Ytkkhojealihghaa
open Go.RowKit
attribute [local go_sem] Oper.semAt_some

theorem mayIt_cons (last : Nat) (x : It) (r : List It) : mayIt last (x :: r) = (mayB x.l.length && decide (last < x.q) && decide (x.q ≤ 1099511627776) && (x.k == 1 || x.k == 2) && decide (25 ≤ x.z) && decide (x.z ≤ 1113) && mayIt x.q r) := rfl
set_option maxRecDepth 100000 in
set_option maxHeartbeats 8000000 in
theorem mayP_any (X : List ItX) (A : Option Addr) (n c : Nat) (w : World) (hn : X.length = n) (hnm : n ≤ 1000000000) (hr : Rd w w.heap.size 4 A n (itCells X)) (hz : ∀ x ∈ X, x.it.l.length ≤ 9223372036854775807) :
    Calls Try.prog 12 #[.slice A n c] w fun e w' => e = .returned (.bool (mayP (X.map ItX.it))) ∧ Below w.heap.size w w' := by
  obtain ⟨its, hits⟩ : ∃ l, l = X.map ItX.it := ⟨_, rfl⟩
  rw [← hits]
  obtain ⟨mb, hmb⟩ : ∃ b, b = mayP its := ⟨_, rfl⟩
  rw [← hmb]
  have HMB := Lib.hid hmb
  have HITS := Lib.hid hits
  have HN := Lib.hid hn
  have HR := Lib.hid hr
  have HZ := Lib.hid hz
  clear hmb hits hn hr hz
  go_enter Try.func12, Try.ntmps12
  go_wp2_with fail
  go_loopw [3, 8] (fun s i wr => ∃ (j last : Nat), j ≤ n ∧ i = .int .i64 (j : Int) ∧ s = .int .u64 (last : Int) ∧ mb = mayIt last (its.drop j) ∧ Below w.heap.size w wr) (fun _ i _ => n - (intOf i).toNat)
  case atStart => exact ⟨0, 0, Nat.zero_le _, rfl, rfl, HMB.out, Below.refl _ _⟩
  case round =>
    obtain ⟨j, last, hj, rfl, rfl, hmt, hb⟩ := hrel
    have HMT := Lib.hid hmt
    have HB := Lib.hid hb
    clear hmt hb
    by_cases hin : j < n
    · have i1 : (j : Int) < (n : Int) := by omega
      obtain ⟨p, off, rfl, hpl, hcell⟩ := HR.out.2.2 (by omega)
      obtain ⟨x, hx0⟩ : ∃ x, X[j]? = some x := ⟨X[j]'(by rw [HN.out]; exact hin), List.getElem?_eq_getElem _⟩
      have HAT : Hid (At wr p (off + j * 4) [.slice x.A x.it.l.length x.c, .int .u64 (x.it.q : Int), .int .i64 x.it.k, .int .i64 x.it.z]) := Lib.hid (itAtM (X := X) (fun k u hu => (HB.out.cell (p := ⟨p, off + k, none⟩) hpl).trans (hcell k u hu)) hx0)
      have hit : its[j]? = some x.it := by rw [HITS.out, List.getElem?_map, hx0]; rfl
      have hdr : its.drop j = x.it :: its.drop (j + 1) := by
        obtain ⟨hlt, he⟩ := List.getElem?_eq_some_iff.1 hit
        rw [List.drop_eq_getElem_cons hlt, he]
      have HS : Hid (mb = (mayB x.it.l.length && decide (last < x.it.q) && decide (x.it.q ≤ 1099511627776) && (x.it.k == 1 || x.it.k == 2) && decide (25 ≤ x.it.z) && decide (x.it.z ≤ 1113) && mayIt x.it.q (its.drop (j + 1)))) := Lib.hid (by rw [HMT.out, hdr, mayIt_cons])
      have b2 := belowAlloc (Below.refl wr.heap.size wr) (.cells #[.slice x.A x.it.l.length x.c, .int .u64 (x.it.q : Int), .int .i64 x.it.k, .int .i64 x.it.z] 47)
      have q2 := Blk.new wr 47 #[.slice x.A x.it.l.length x.c, .int .u64 (x.it.q : Int), .int .i64 x.it.k, .int .i64 x.it.z]
      have hxz := HZ.out x (List.mem_of_getElem? hx0)
      clear hcell hx0 hit hdr HMT
      go_upto_region 5 with (first
        | (refine wpList_value rfl (exec_load_mid rfl rfl HAT.out Try.underlying47 rfl (by kernel_rfl)) ?_)
        | fail)
      generalize wr.alloc (.cells #[.slice x.A x.it.l.length x.c, .int .u64 (x.it.q : Int), .int .i64 x.it.k, .int .i64 x.it.z] 47) = w2 at *
      obtain ⟨g2, hg2⟩ : ∃ g, g = wr.heap.size := ⟨_, rfl⟩
      rw [← hg2] at q2 ⊢
      have c0 := q2.cell 0
      have c1 := q2.cell 1
      have c2 := q2.cell 2
      have c3 := q2.cell 3
      have HB2 := Lib.hid (belowGo HB.out b2)
      obtain ⟨ln, hln⟩ : ∃ k, k = x.it.l.length := ⟨_, rfl⟩
      rw [← hln] at c0 hxz HS
      have MK := Lib.hid (mayK_any x.A ln x.c w2 hxz)
      obtain ⟨kb, hkb⟩ : ∃ b, b = mayB ln := ⟨_, rfl⟩
      rw [← hkb] at MK HS
      clear hg2 b2 q2 HAT hkb hln hxz
      cases kb with
      | false =>
        have HF : Hid (mb = false) := Lib.hid (by rw [HS.out]; simp [])
        go_wp2_with fail
        refine MK.out.mono ?_
        rintro e w3 ⟨rfl, rfl⟩
        go_wp2_with fail
        exact bodyPost_ret (results_tmp rfl _ _ _) rfl ⟨by rw [HF.out]; rfl, HB2.out⟩
      | true =>
        by_cases h0 : last < x.it.q
        · have f0 : ¬ ((x.it.q : Int) ≤ (last : Int)) := by omega
          by_cases h1 : x.it.q ≤ 1099511627776
          · have f1 : ¬ ((1099511627776 : Int) < (x.it.q : Int)) := by omega
            by_cases hk1 : x.it.k = 1 ∨ x.it.k = 2
            · by_cases hz1 : 25 ≤ x.it.z
              · by_cases hz2 : x.it.z ≤ 1113
                · rcases hk1 with hk | hk
                  · have k1 : x.it.k = 1 := hk
                    have k3 : (x.it.k != 1) = false := by simp [hk]
                    have z1 : ¬ (x.it.z < 25) := by omega
                    have z2 : ¬ ((1113 : Int) < x.it.z) := by omega
                    have HN2 : Hid (mb = mayIt x.it.q (its.drop (j + 1))) := Lib.hid (by rw [HS.out]; simp [h0, h1, hk, hz1, hz2])
                    clear hz1 hz2 h0 h1
                    go_wp2_with fail
                    refine MK.out.mono ?_
                    rintro e w3 ⟨rfl, rfl⟩
                    go_wp2_with fail
                    go_roundw
                    case rel => exact ⟨j + 1, x.it.q, by omega, by go_num, rfl, HN2.out, HB2.out⟩
                    case measure => simp [intOf]; omega
                  · have k1 : x.it.k = 2 := hk
                    have k3 : (x.it.k != 1) = true := by simp [hk]
                    have z1 : ¬ (x.it.z < 25) := by omega
                    have z2 : ¬ ((1113 : Int) < x.it.z) := by omega
                    have HN2 : Hid (mb = mayIt x.it.q (its.drop (j + 1))) := Lib.hid (by rw [HS.out]; simp [h0, h1, hk, hz1, hz2])
                    clear hz1 hz2 h0 h1
                    go_wp2_with fail
                    refine MK.out.mono ?_
                    rintro e w3 ⟨rfl, rfl⟩
                    go_wp2_with fail
                    go_roundw
                    case rel => exact ⟨j + 1, x.it.q, by omega, by go_num, rfl, HN2.out, HB2.out⟩
                    case measure => simp [intOf]; omega
                · rcases hk1 with hk | hk
                  · have z1 : ¬ (x.it.z < 25) := by omega
                    have z2 : (1113 : Int) < x.it.z := by omega
                    have HF : Hid (mb = false) := Lib.hid (by rw [HS.out]; simp [hz2])
                    go_wp2_with fail
                    refine MK.out.mono ?_
                    rintro e w3 ⟨rfl, rfl⟩
                    go_wp2_with fail
                    exact bodyPost_ret (results_tmp rfl _ _ _) rfl ⟨by rw [HF.out]; rfl, HB2.out⟩
                  · have z1 : ¬ (x.it.z < 25) := by omega
                    have z2 : (1113 : Int) < x.it.z := by omega
                    have HF : Hid (mb = false) := Lib.hid (by rw [HS.out]; simp [hz2])
                    go_wp2_with fail
                    refine MK.out.mono ?_
                    rintro e w3 ⟨rfl, rfl⟩
                    go_wp2_with fail
                    exact bodyPost_ret (results_tmp rfl _ _ _) rfl ⟨by rw [HF.out]; rfl, HB2.out⟩
              · rcases hk1 with hk | hk
                · have z1 : x.it.z < 25 := by omega
                  have HF : Hid (mb = false) := Lib.hid (by rw [HS.out]; simp [hz1])
                  go_wp2_with fail
                  refine MK.out.mono ?_
                  rintro e w3 ⟨rfl, rfl⟩
                  go_wp2_with fail
                  exact bodyPost_ret (results_tmp rfl _ _ _) rfl ⟨by rw [HF.out]; rfl, HB2.out⟩
                · have z1 : x.it.z < 25 := by omega
                  have HF : Hid (mb = false) := Lib.hid (by rw [HS.out]; simp [hz1])
                  go_wp2_with fail
                  refine MK.out.mono ?_
                  rintro e w3 ⟨rfl, rfl⟩
                  go_wp2_with fail
                  exact bodyPost_ret (results_tmp rfl _ _ _) rfl ⟨by rw [HF.out]; rfl, HB2.out⟩
            · have k1 : ¬ (x.it.k = 1) := fun h => hk1 (.inl h)
              have k2 : ¬ (x.it.k = 2) := fun h => hk1 (.inr h)
              have HF : Hid (mb = false) := Lib.hid (by rw [HS.out]; simp [k1, k2])
              go_wp2_with fail
              refine MK.out.mono ?_
              rintro e w3 ⟨rfl, rfl⟩
              go_wp2_with fail
              exact bodyPost_ret (results_tmp rfl _ _ _) rfl ⟨by rw [HF.out]; rfl, HB2.out⟩
          · have f1 : (1099511627776 : Int) < (x.it.q : Int) := by omega
            have HF : Hid (mb = false) := Lib.hid (by rw [HS.out]; simp [h1])
            go_wp2_with fail
            refine MK.out.mono ?_
            rintro e w3 ⟨rfl, rfl⟩
            go_wp2_with fail
            exact bodyPost_ret (results_tmp rfl _ _ _) rfl ⟨by rw [HF.out]; rfl, HB2.out⟩
        · have f0 : (x.it.q : Int) ≤ (last : Int) := by omega
          have HF : Hid (mb = false) := Lib.hid (by rw [HS.out]; simp [h0])
          go_wp2_with fail
          refine MK.out.mono ?_
          rintro e w3 ⟨rfl, rfl⟩
          go_wp2_with fail
          exact bodyPost_ret (results_tmp rfl _ _ _) rfl ⟨by rw [HF.out]; rfl, HB2.out⟩
    · obtain rfl : j = n := by omega
      have HE : Hid (mb = true) := Lib.hid (by rw [HMT.out, List.drop_of_length_le (by rw [HITS.out, List.length_map, HN.out]; exact Nat.le_refl _)]; rfl)
      go_wp2_with fail
      exact bodyPost_ret (results_tmp rfl _ _ _) rfl ⟨by rw [HE.out]; rfl, HB.out⟩
end Go.Proofs.Ytkkhojealihghaa
