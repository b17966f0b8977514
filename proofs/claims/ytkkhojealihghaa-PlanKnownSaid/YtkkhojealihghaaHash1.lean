/- What key.words comes to: a range over a function that yields a row's words. -/
import Derived.Test.YtkkhojealihghaaBlk
import Derived.Test.YtkkhojealihghaaOwn
import Derived.RangeFuncNested
import Derived.RangeFuncBound
import Derived.RangeFuncCalls
import Derived.RangeFuncLeaves
import Derived.RangeFuncBox
import Derived.Shelf.Abstract
import Derived.OwnWalkIn
import Derived.TacticsInMore
import Derived.LoopNIn
import Derived.LoopIn
import Derived.Laws.Bits64b
namespace Go.Proofs.Ytkkhojealihghaa
open Go.RowKit
attribute [local go_sem] Oper.semAt_some

/-- a word of bytes, the least first -/
def wle : List UInt8 → Nat
  | [] => 0
  | u :: r => u.toNat + 256 * wle r

theorem wle_snoc (a : List UInt8) (u : UInt8) : wle (a ++ [u]) = wle a + 256 ^ a.length * u.toNat := by
  induction a with
  | nil => simp [wle]
  | cons b a ih => rw [List.cons_append, wle, ih, wle, List.length_cons, Nat.pow_succ]; rw [Nat.mul_add, Nat.add_assoc, ← Nat.mul_assoc, Nat.mul_comm 256 (256 ^ _)]

theorem wle_lt (a : List UInt8) : wle a < 256 ^ a.length := by
  induction a with
  | nil => decide
  | cons b a ih =>
    rw [wle, List.length_cons, Nat.pow_succ]
    have := b.toNat_lt
    omega

theorem wle_inj : ∀ (a b : List UInt8), a.length = b.length → wle a = wle b → a = b
  | [], [], _, _ => rfl
  | u :: a, v :: b, hl, h => by
    rw [wle, wle] at h
    have hu := u.toNat_lt
    have hv := v.toNat_lt
    have e1 : u.toNat = v.toNat := by omega
    have e2 : wle a = wle b := by omega
    rw [wle_inj a b (by simpa using hl) e2, UInt8.toNat_inj.1 e1]

/-- a row's words, each with its place -/
def ws (l : List UInt8) : List (Nat × Nat) := (List.range ((l.length + 7) / 8)).map fun k => (k, wle ((l.drop (8 * k)).take 8))
theorem ws_len (l : List UInt8) : (ws l).length = (l.length + 7) / 8 := by simp [ws]
theorem ws_take (l : List UInt8) (k : Nat) (h : k < (l.length + 7) / 8) : (ws l).take k ++ [(k, wle ((l.drop (8 * k)).take 8))] = (ws l).take (k + 1) := by
  have hk : k < (ws l).length := by rw [ws_len]; exact h
  rw [List.take_add_one (l := ws l), List.getElem?_eq_getElem hk]
  simp [ws]

/-- what a round keeps: what lay below B, and a box -/
def Kp1 (B p1 : Nat) (w w' : World) : Prop := Below B w w' ∧ w'.heap[p1]? = w.heap[p1]?
theorem Kp1.trans {B p1 : Nat} {a b c : World} (h : Kp1 B p1 a b) (k : Kp1 B p1 b c) : Kp1 B p1 a c := ⟨h.1.trans k.1, k.2.trans h.2⟩

theorem shl_word (x j : Nat) (hx : x < 256) (hj : j < 8) : IntKind.u64.wrap ((x : Int) * 2 ^ (8 * j)) = ((x * 256 ^ j : Nat) : Int) := by
  obtain rfl | rfl | rfl | rfl | rfl | rfl | rfl | rfl : j = 0 ∨ j = 1 ∨ j = 2 ∨ j = 3 ∨ j = 4 ∨ j = 5 ∨ j = 6 ∨ j = 7 := by omega
  all_goals rw [IntKind.wrap_u64]; simp; omega

theorem or_word (m x j : Nat) (hm : m < 256 ^ j) (hx : x < 256) (hj : j < 8) : bits BinOp.or IntKind.u64 (m : Int) ((x * 256 ^ j : Nat) : Int) = ((m + 256 ^ j * x : Nat) : Int) := by
  have h1 : (256 : Nat) ^ j = 2 ^ (8 * j) := by rw [Nat.pow_mul]
  have h2 : (256 : Nat) ^ j * 256 ≤ 18446744073709551616 := by
    have : (256 : Nat) ^ (j + 1) ≤ 256 ^ 8 := Nat.pow_le_pow_right (by decide) (by omega)
    rw [Nat.pow_succ] at this
    exact this
  have h3 : x * 256 ^ j < 18446744073709551616 := by
    have := Nat.mul_lt_mul_of_lt_of_le hx (Nat.le_refl (256 ^ j)) (Nat.pow_pos (by decide))
    rw [Nat.mul_comm 256] at this; omega
  rw [bits_or_u64_nat _ _ (by omega) h3, Nat.mul_comm x, h1]
  have := Nat.two_pow_add_eq_or_of_lt (i := 8 * j) (b := m) (by rw [← h1]; exact hm) x
  rw [Nat.or_comm, ← this, Nat.add_comm]

set_option maxHeartbeats 1000000 in
theorem words1_in (n0 yl : Nat) (hn0 : 1 ≤ n0) (l : List UInt8) (A : Option Addr) (n c : Nat) (p1 B : Nat) (hnc : n ≤ c) (hnn : n ≤ 1000000) (J Jx : List (Nat × Nat) → World → Prop) (W : World)
    (hY : ∀ pre x W1, J pre W1 → pre.length < (ws l).length → YieldAt Fence.wide (n0 - 1) Try.prog yl #[.int .i64 (x.1 : Nat), .int .u64 (x.2 : Nat)] W1 fun e W' =>
      (e = .returned (.bool true) ∧ J (pre ++ [x]) W' ∧ Kp1 B p1 W1 W') ∨ (e = .returned (.bool false) ∧ Jx (pre ++ [x]) W'))
    (h : Rd W B 1 A n (bcells l)) (hp1 : Boxed W p1 23 (.slice A n c)) (h0 : J [] W) :
    CallsIn Fence.wide n0 Try.prog 40 #[.func (.yield yl) #[] #[], .pointer (some ⟨p1, 0, none⟩)] W fun e W' => (∃ v, e = .returned v) ∧
      ((∃ ys, ys = ws l ∧ J ys W') ∨ (∃ pre, pre <+: ws l ∧ Jx pre W')) := by
  have hm := h.2.1
  unfold maxLen at hm
  have hln := h.1
  rw [bcells_len, Nat.mul_one] at hln
  obtain ⟨N, hN⟩ : ∃ N, N = (n + 7) / 8 := ⟨_, rfl⟩
  have hwl : (ws l).length = N := by rw [ws_len, hln, hN]
  refine callsIn_of_wp Try.func40 rfl trivial ?_ rfl
  simp only [Try.ntmps40, List.size_toArray, List.length_cons, List.length_nil, Nat.reduceAdd, Nat.reduceSub, Array.replicate_succ, Array.replicate_zero, List.push_toArray, List.append_toArray, List.nil_append, List.cons_append]
  gi_wp2
  gi_loopw [3] (fun i wr => ∃ k : Nat, k ≤ N ∧ i = .int .i64 ((8 * k : Nat) : Int) ∧ J ((ws l).take k) wr ∧ Kp1 B p1 W wr) (fun i _ => n + 8 - (intOf i).toNat)
  case atStart => exact ⟨0, Nat.zero_le _, rfl, by simpa using h0, Below.refl _ _, rfl⟩
  case round =>
    obtain ⟨k, hk, rfl, hj, hb⟩ := hrel
    have cp1 : wr.cell? ⟨p1, 0, none⟩ = some (.slice A n c) := Boxed.cell (hb.2.trans hp1)
    obtain ⟨a, ha⟩ : ∃ a, a = 8 * k := ⟨_, rfl⟩
    by_cases hlt : k < N
    · obtain ⟨b, off, rfl, hblk, hcell⟩ := h.2.2 (by omega)
      obtain ⟨m, hm1⟩ : ∃ m, m = min 8 (n - a) := ⟨_, rfl⟩
      have hmin : min (((a : Nat) : Int) + 8) (n : Int) = ((a + m : Nat) : Int) := by omega
      have HK := Lib.hid (fun w => hY ((ws l).take k) (k, w) wr hj (by rw [List.length_take, hwl]; omega))
      have HW := Lib.hid (ws_take l k (by rw [hln, ← hN]; exact hlt))
      have hcs : ∀ j, j < m → wr.cell? ⟨b, off + a + j, none⟩ = some (.int .u8 ((l.getD (a + j) 0).toNat : Int)) := fun j hjm => by
        have := (hb.1.cell (p := ⟨b, off + (a + j), none⟩) hblk).trans (hcell (a + j) _ (bcells_get (by omega)))
        rw [Nat.add_assoc, this]; simp [List.getD, show a + j < l.length by omega]
      have hquo : ((a : Nat) : Int) / 8 = (k : Int) := by omega
      have ha1 : a < n := by omega
      have ha2 : a + m ≤ n := by omega
      have ha3 : 1 ≤ m := by omega
      have ha4 : m ≤ 8 := by omega
      have hwr : wrap64 ((a : Int) + 8) = (a : Int) + 8 := by unfold wrap64; omega
      rw [← ha]
      have HA := Lib.hid ha
      have HL := Lib.hid hln
      have HN := Lib.hid hN
      have HM := Lib.hid hm1
      have HWL := Lib.hid hwl
      have hsz := h.2.1
      clear ha hm1 hY h0 h hm hN hwl hln hcell hp1 hlt hk
      have HCS := Lib.hid hcs
      have HQ := Lib.hid hquo
      clear hcs hquo hsz hblk
      gi_wp2_with fail
      gi_loopw [4, 22] (fun v i wz => ∃ j : Nat, j ≤ m ∧ i = .int .i64 (j : Int) ∧ wz = wr ∧ v = .int .u64 (wle (((l.drop a).take 8).take j) : Nat)) (fun _ i _ => m - (intOf i).toNat)
      case atStart => exact ⟨0, Nat.zero_le _, rfl, rfl, by simp [wle]⟩
      case round =>
        obtain ⟨j, hjm, rfl, rfl, rfl⟩ := hrel
        by_cases hjl : j < m
        · have hc := HCS.out j hjl
          have HT := Lib.hid (show wle (((l.drop a).take 8).take (j + 1)) = wle (((l.drop a).take 8).take j) + 256 ^ j * (l.getD (a + j) 0).toNat by
            have hll := HL.out
            have e : ((l.drop a).take 8)[j]? = some (l.getD (a + j) 0) := by
              rw [List.getElem?_take, if_pos (by omega), List.getElem?_drop, List.getD, List.getElem?_eq_getElem (by omega)]; rfl
            rw [List.take_add_one, e, Option.toList_some, wle_snoc, List.length_take, List.length_take, List.length_drop, show min j (min 8 (l.length - a)) = j by omega])
          have hlt := Lib.hid (show wle (((l.drop a).take 8).take j) < 256 ^ j by
            have := wle_lt (((l.drop a).take 8).take j)
            have hll := HL.out
            rwa [List.length_take, List.length_take, List.length_drop, show min j (min 8 (l.length - a)) = j by omega] at this)
          clear HCS
          generalize l.getD (a + j) 0 = u at *
          have hu := u.toNat_lt
          generalize u.toNat = y at *
          generalize wle (((l.drop a).take 8).take j) = z at *
          gi_wp2_with fail
          go_roundw
          case rel => exact ⟨j + 1, by omega, by go_num, trivial, by
            rw [HT.out, shl_word y j (by omega) (by omega), or_word z y j hlt.out (by omega) (by omega)]⟩
          case measure => simp [intOf]; omega
        · obtain rfl : j = m := by omega
          have hquo := HQ.out
          clear HCS
          have HT := Lib.hid (show ((l.drop a).take 8).take j = (l.drop (8 * k)).take 8 by
            have hll := HL.out
            have h1 := HM.out
            rw [← HA.out, List.take_of_length_le]; rw [List.length_take, List.length_drop]; omega)
          obtain ⟨fn, tmps, assign, body, hy, hR⟩ := HK.out (wle (((l.drop a).take 8).take j))
          try dsimp only at hy
          gi_wp2
          refine hR.mono ?_
          clear hR
          rw [HT.out, HW.out]
          rintro e W3 (⟨rfl, hJ3, hk3⟩ | ⟨rfl, hJx3⟩)
          · gi_wp2_with fail
            go_roundw
            case rel =>
              have e1 := HA.out
              exact ⟨k + 1, by have := HN.out; omega, by go_num, hJ3, hb.trans hk3⟩
            case measure => simp [intOf]; omega
          · gi_wp2_with fail
            refine bodyPost_ret (results_none rfl _ _ _) rfl ?_
            exact ⟨⟨_, rfl⟩, .inr ⟨_, List.take_prefix _ _, hJx3⟩⟩
    · obtain rfl : k = N := by omega
      rw [← ha]
      have hna : n ≤ a := by omega
      clear ha
      clear hY h0 h hm hp1
      gi_wp2_with fail
      go_end0
      exact ⟨⟨_, rfl⟩, .inl ⟨_, by rw [List.take_of_length_le (by omega)], hj⟩⟩
end Go.Proofs.Ytkkhojealihghaa
