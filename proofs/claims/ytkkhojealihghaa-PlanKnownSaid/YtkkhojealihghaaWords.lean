/- What key.words comes to, for any round that keeps what it reads. -/
import Derived.Test.YtkkhojealihghaaRangeK
namespace Go.Proofs.Ytkkhojealihghaa
open Go.RowKit
attribute [local go_sem] Oper.semAt_some

set_option maxHeartbeats 1000000 in
theorem words_seq (n0 : Nat) (hn0 : 1 ≤ n0) (l : List UInt8) (A : Option Addr) (n c : Nat) (p1 B : Nat) (hnc : n ≤ c) (hnn : n ≤ 1000000) (w : World) (hR : Rd w B 1 A n (bcells l)) (hP : Boxed w p1 23 (.slice A n c)) :
    SeqK Fence.wide n0 Try.prog 40 #[.pointer (some ⟨p1, 0, none⟩)] (fun x : Nat × Nat => #[.int .i64 (x.1 : Nat), .int .u64 (x.2 : Nat)]) (ws l) (Kp1 B p1) w := by
  intro yl J W hW hY h0
  have h := hR.below hW.1 (Nat.le_refl _)
  have hp1 : Boxed W p1 23 (.slice A n c) := hW.2.trans hP
  clear hR hP hW
  have hm := h.2.1
  unfold maxLen at hm
  have hln := h.1
  rw [bcells_len, Nat.mul_one] at hln
  obtain ⟨N, hN⟩ : ∃ N, N = (n + 7) / 8 := ⟨_, rfl⟩
  have hwl : (ws l).length = N := by rw [ws_len, hln, hN]
  refine callsIn_of_wp Try.func40 rfl trivial ?_ rfl
  simp only [Try.ntmps40, List.size_toArray, List.length_cons, List.length_nil, Nat.reduceAdd, Nat.reduceSub, Array.replicate_succ, Array.replicate_zero, List.push_toArray, List.append_toArray, List.nil_append, List.cons_append]
  gi_wp2
  gi_loopw [3] (fun i wr => ∃ k : Nat, k ≤ N ∧ i = .int .i64 ((8 * k : Nat) : Int) ∧ J ((ws l).take k) wr ∧ Kp1 B p1 W wr) (fun i _ => n + 8 - (intOf i).toNat)
  case atStart => exact ⟨0, Nat.zero_le _, rfl, by simpa using h0, Below.refl _ _, rfl⟩
  case round =>
    obtain ⟨k, hk, rfl, hj, hb⟩ := hrel
    have cp1 : wr.cell? ⟨p1, 0, none⟩ = some (.slice A n c) := Boxed.cell (hb.2.trans hp1)
    obtain ⟨a, ha⟩ : ∃ a, a = 8 * k := ⟨_, rfl⟩
    by_cases hlt : k < N
    · obtain ⟨b, off, rfl, hblk, hcell⟩ := h.2.2 (by omega)
      obtain ⟨m, hm1⟩ : ∃ m, m = min 8 (n - a) := ⟨_, rfl⟩
      have hmin : min (((a : Nat) : Int) + 8) (n : Int) = ((a + m : Nat) : Int) := by omega
      have HWt := ws_take l k (by rw [hln, ← hN]; exact hlt)
      have HK := Lib.hid (hY ((ws l).take k) (k, wle ((l.drop (8 * k)).take 8)) wr hj (by rw [HWt]; exact List.take_prefix _ _))
      have HW := Lib.hid HWt
      clear HWt
      have hcs : ∀ j, j < m → wr.cell? ⟨b, off + a + j, none⟩ = some (.int .u8 ((l.getD (a + j) 0).toNat : Int)) := fun j hjm => by
        have := (hb.1.cell (p := ⟨b, off + (a + j), none⟩) hblk).trans (hcell (a + j) _ (bcells_get (by omega)))
        rw [Nat.add_assoc, this]; simp [List.getD, show a + j < l.length by omega]
      have hquo : ((a : Nat) : Int) / 8 = (k : Int) := by omega
      have ha1 : a < n := by omega
      have ha2 : a + m ≤ n := by omega
      have ha3 : 1 ≤ m := by omega
      have ha4 : m ≤ 8 := by omega
      have hwr : wrap64 ((a : Int) + 8) = (a : Int) + 8 := by unfold wrap64; omega
      rw [← ha]
      have HA := Lib.hid ha
      have HL := Lib.hid hln
      have HN := Lib.hid hN
      have HM := Lib.hid hm1
      have HWL := Lib.hid hwl
      have hsz := h.2.1
      clear ha hm1 hY h0 h hm hN hwl hln hcell hp1 hlt hk
      have HCS := Lib.hid hcs
      have HQ := Lib.hid hquo
      clear hcs hquo hsz hblk
      gi_wp2_with fail
      gi_loopw [4, 22] (fun v i wz => ∃ j : Nat, j ≤ m ∧ i = .int .i64 (j : Int) ∧ wz = wr ∧ v = .int .u64 (wle (((l.drop a).take 8).take j) : Nat)) (fun _ i _ => m - (intOf i).toNat)
      case atStart => exact ⟨0, Nat.zero_le _, rfl, rfl, by simp [wle]⟩
      case round =>
        obtain ⟨j, hjm, rfl, rfl, rfl⟩ := hrel
        by_cases hjl : j < m
        · have hc := HCS.out j hjl
          have HT := Lib.hid (show wle (((l.drop a).take 8).take (j + 1)) = wle (((l.drop a).take 8).take j) + 256 ^ j * (l.getD (a + j) 0).toNat by
            have hll := HL.out
            have e : ((l.drop a).take 8)[j]? = some (l.getD (a + j) 0) := by
              rw [List.getElem?_take, if_pos (by omega), List.getElem?_drop, List.getD, List.getElem?_eq_getElem (by omega)]; rfl
            rw [List.take_add_one, e, Option.toList_some, wle_snoc, List.length_take, List.length_take, List.length_drop, show min j (min 8 (l.length - a)) = j by omega])
          have hlt := Lib.hid (show wle (((l.drop a).take 8).take j) < 256 ^ j by
            have := wle_lt (((l.drop a).take 8).take j)
            have hll := HL.out
            rwa [List.length_take, List.length_take, List.length_drop, show min j (min 8 (l.length - a)) = j by omega] at this)
          clear HCS
          generalize l.getD (a + j) 0 = u at *
          have hu := u.toNat_lt
          generalize u.toNat = y at *
          generalize wle (((l.drop a).take 8).take j) = z at *
          gi_wp2_with fail
          go_roundw
          case rel => exact ⟨j + 1, by omega, by go_num, trivial, by
            rw [HT.out, shl_word y j (by omega) (by omega), or_word z y j hlt.out (by omega) (by omega)]⟩
          case measure => simp [intOf]; omega
        · obtain rfl : j = m := by omega
          have hquo := HQ.out
          clear HCS
          have HT := Lib.hid (show ((l.drop a).take 8).take j = (l.drop (8 * k)).take 8 by
            have hll := HL.out
            have h1 := HM.out
            rw [← HA.out, List.take_of_length_le]; rw [List.length_take, List.length_drop]; omega)
          rw [HT.out]
          obtain ⟨fn, tmps, assign, body, hy, hR⟩ := HK.out
          try dsimp only at hy
          gi_wp2
          refine hR.mono ?_
          clear hR
          rw [HW.out]
          rintro e W3 ⟨rfl, hJ3, hk3⟩
          gi_wp2_with fail
          go_roundw
          case rel =>
            have e1 := HA.out
            exact ⟨k + 1, by have := HN.out; omega, by go_num, hJ3, hb.trans hk3⟩
          case measure => simp [intOf]; omega
    · obtain rfl : k = N := by omega
      rw [← ha]
      have hna : n ≤ a := by omega
      clear ha
      clear hY h0 h hm hp1
      gi_wp2_with fail
      go_end0
      exact ⟨⟨_, rfl⟩, by rw [List.take_of_length_le (by omega)] at hj; exact hj⟩
end Go.Proofs.Ytkkhojealihghaa
