/- Package key: May, MayValue, MayName, Compare; bytes.Repeat of one byte. For every input. -/
import Derived.Test.YticjecfbjmibaaaOwn
import Derived.Test.YticjecfbjmibaaaCmp
import Derived.Test.YticjecfbjmibaaaSched
import Derived.Lib.MakeNoZero
import Derived.Laws.CopyOwn
namespace Go.Proofs.Yticjecfbjmibaaa
open Go.RowKit

def mayB (n : Nat) : Bool := decide (1 ≤ n) && decide (n ≤ 64)
theorem may_any (A : Option Addr) (n c : Nat) (w : World) (hn : n ≤ 9223372036854775807) : Calls Try.prog 8 #[.slice A n c] w fun e w' => e = .returned (.bool (mayB n)) ∧ w = w' := by
  by_cases h1 : 1 ≤ n
  · by_cases h2 : n ≤ 64
    · have e : mayB n = true := by unfold mayB; simp; omega
      rw [e]
      clear e
      go_enter Try.func8, Try.ntmps8
      go_wp2
      go_ret
      exact ⟨by simp <;> omega, rfl⟩
    · have e : mayB n = false := by unfold mayB; simp; omega
      rw [e]
      clear e
      go_enter Try.func8, Try.ntmps8
      go_wp2
      go_ret
      exact ⟨by simp <;> omega, rfl⟩
  · have e : mayB n = false := by unfold mayB; simp; omega
    rw [e]
    clear e
    go_enter Try.func8, Try.ntmps8
    go_wp2
    go_ret
    exact ⟨by simp <;> omega, rfl⟩
def mayV (n : Nat) : Bool := decide (n ≤ 1024)
theorem mayValue_any (A : Option Addr) (n c : Nat) (w : World) : Calls Try.prog 9 #[.slice A n c] w fun e w' => e = .returned (.bool (mayV n)) ∧ w = w' := by
  have e : ((n : Int) ≤ 1024) = (n ≤ 1024) := by simp; omega
  by_cases h1 : n ≤ 1024
  · have e : mayV n = true := by unfold mayV; simp; omega
    rw [e]
    clear e
    go_enter Try.func9, Try.ntmps9
    go_wp2
    go_ret
    exact ⟨by simp <;> omega, rfl⟩
  · have e : mayV n = false := by unfold mayV; simp; omega
    rw [e]
    clear e
    go_enter Try.func9, Try.ntmps9
    go_wp2
    go_ret
    exact ⟨by simp <;> omega, rfl⟩
theorem keyCmp_any (a b : List UInt8) (A : Option Addr) (n c : Nat) (A' : Option Addr) (n' c' : Nat) (w : World) {B B' : Nat} (h : Rd w B 1 A n (bcells a)) (h' : Rd w B' 1 A' n' (bcells b)) :
    Calls Try.prog 11 #[.slice A n c, .slice A' n' c'] w fun e w' => e = .returned (.int .i64 (Lib.compareBytes a b)) ∧ Below w.heap.size w w' := by
  have H := Lib.hid (compare_any a b A n c A' n' c' w h h')
  generalize Lib.compareBytes a b = x at *
  go_enter Try.func11, Try.ntmps11
  go_wp2_with fail
  refine H.out.mono ?_
  rintro e w1 ⟨rfl, b1⟩
  go_wp2
  go_ret
  exact ⟨rfl, b1⟩
theorem mayName_yes (w : World) : Calls Try.prog 19 #[.string ⟨#[97, 32, 98]⟩] w fun e w' => e = .returned (.bool true) ∧ w = w' := by
  go_enter Try.func19, Try.ntmps19
  go_wp2
  go_ret
  exact ⟨rfl, rfl⟩
theorem mayName_no (w : World) : Calls Try.prog 19 #[.string ⟨#[]⟩] w fun e w' => e = .returned (.bool false) ∧ w = w' := by
  go_enter Try.func19, Try.ntmps19
  go_wp2
  go_ret
  exact ⟨rfl, rfl⟩

theorem splice_take (cur : List Value) (k m : Nat) (v : Value) (h : cur.take k = List.replicate k v) : (splice cur k (List.replicate m v)).take (k + m) = List.replicate (k + m) v := by
  unfold splice
  rw [h, ← List.append_assoc, List.take_append_of_le_length (by simp), List.take_of_length_le (by simp), List.replicate_append_replicate]
def RetRep (w : World) (n : Nat) (l : List UInt8) (e : Ending) (w' : World) : Prop := ∃ g, e = .returned (.slice (some ⟨g, 0, none⟩) n n) ∧ Rd w' w'.heap.size 1 (some ⟨g, 0, none⟩) n (bcells l) ∧ Below w.heap.size w w'

set_option maxHeartbeats 1000000 in
theorem repeat_any (x : UInt8) (A : Option Addr) (cA : Nat) (n : Nat) (h1 : 1 ≤ n) (hn : n ≤ 64) (w : World) (h : Rd w w.heap.size 1 A 1 (bcells [x])) :
    Calls Try.prog 20 #[.slice A 1 cA, .int .i64 (n : Int)] w (RetRep w n (List.replicate n x)) := by
  have hm := Try.bits_Mul 1 n (by omega) (by omega) w
  rw [Nat.one_mul, Nat.div_eq_of_lt (by omega), Nat.mod_eq_of_lt (by omega)] at hm
  have HM := Lib.hid hm
  have e0 : ((n : Int) == 0) = false := by simp; omega
  clear hm
  go_enter Try.func20, Try.ntmps20
  go_wp2_with fail
  refine HM.out.mono ?_
  rintro e w1 ⟨rfl, rfl⟩
  go_wp2
  obtain ⟨cs, hrun, hcs, -⟩ := Lib.run_makeNoZero (P := Try.prog) w1 #[3] 23 5 Try.underlying23 n (by omega)
  obtain ⟨cur, rfl⟩ : ∃ cur : List Value, cs = cur.toArray := ⟨cs.toList, by simp⟩
  have hcl : n ≤ cur.length := by simpa using hcs
  rw [run_callFunc_extern Try.func25 (by kernel_rfl) (by kernel_rfl) (by kernel_rfl) (e := Extern.BytealgMakeNoZero.makeNoZero #[3] #[23]) (by kernel_rfl), hrun]
  simp only [Result.andThen]
  rw [Oper.upon_value]
  have hblk : (w1.drew.drew.alloc (.cells cur.toArray 5)).heap[w1.heap.size]? = some (.cells cur.toArray 5 (0, 0)) := heap_alloc_new w1.drew.drew _
  have hb : Below w1.heap.size w1 (w1.drew.drew.alloc (.cells cur.toArray 5)) := by
    have := (Below.refl w1.heap.size w1.drew.drew).alloc (Nat.le_refl _) (.cells cur.toArray 5)
    exact ⟨this.os, this.tape, this.output, this.size, this.block⟩
  have hsz : w1.heap.size < (w1.drew.drew.alloc (.cells cur.toArray 5)).heap.size := by simp
  have hr0 := (h.below hb (Nat.le_refl _))
  clear hrun hcs HM
  generalize w1.drew.drew.alloc (.cells cur.toArray 5) = w2 at *
  obtain ⟨g, hg⟩ : ∃ g, g = w1.heap.size := ⟨_, rfl⟩
  rw [← hg] at hblk hsz ⊢
  have HG := Lib.hid hg
  have hBg : w1.heap.size ≤ g := by omega
  clear hg
  have hsrc : ∃ ad, A = some ad ∧ ∀ j v, [Value.int .u8 (x.toNat : Int)][j]? = some v → w2.cell? (ad.add j) = some v := by
    obtain ⟨b, off, rfl, _, hc⟩ := hr0.2.2 (by omega)
    exact ⟨_, rfl, fun j v hj => by rw [add_none]; exact hc j v hj⟩
  obtain ⟨ad, rfl, hsrc⟩ := hsrc
  have HS := Lib.hid hsrc
  have hblk' := Lib.hid hblk
  clear hsrc hblk hr0 h
  have p1 : [Value.int .u8 (x.toNat : Int)].length = Nat.min 1 n := (Nat.min_eq_left h1).symm
  have p2 : 0 < [Value.int .u8 (x.toNat : Int)].length → (some ⟨g, 0, none⟩ : Option Addr) = some ⟨g, 0, none⟩ ∧ ∃ ad', some ad = some ad' ∧ ∀ j v, [Value.int .u8 (x.toNat : Int)][j]? = some v → w2.cell? (ad'.add j) = some v := fun _ => ⟨rfl, ad, rfl, HS.out⟩
  have p3 : 0 + [Value.int .u8 (x.toNat : Int)].length ≤ cur.length := by simp; omega
  have p4 : ∀ v ∈ [Value.int .u8 (x.toNat : Int)], v.oneCell' = true := by simp [Value.oneCell']
  have P1 := Lib.hid p1
  have P2 := Lib.hid p2
  have P3 := Lib.hid p3
  have P4 := Lib.hid p4
  clear p1 p2 p3 p4
  go_wp2_with (with_reducible refine wpList_copy_splice rfl (.tmp 58) (.tmp 59) 23 23 rfl 5 Try.underlying23 (by kernel_rfl) (some ⟨g, 0, none⟩) (some ad) n n 1 cA rfl rfl g 0 cur 5 hblk'.out [Value.int .u8 (x.toNat : Int)] P1.out P2.out P3.out P4.out w1.heap.size w1 hb hBg ?_; intro w3 hw3 hb3)
  have hl0 : ∃ cur' : List Value, cur'.length = cur.length ∧ cur'.take 1 = List.replicate 1 (.int .u8 (x.toNat : Int)) ∧ Hid (w3.heap[g]? = some (.cells cur'.toArray 5 (0, 0))) := by
    refine ⟨_, length_splice cur 0 _ P3.out, ?_, hw3⟩
    have := splice_take cur 0 1 (.int .u8 (x.toNat : Int)) (by simp)
    simpa using this
  clear hw3 hblk' P1 P2 P3 P4 HS hb hsz
  go_loopw [10, 11] (fun b _ wr => ∃ k : Nat, 1 ≤ k ∧ k ≤ n ∧ b = .int .i64 (k : Int) ∧ (∃ cur' : List Value, cur'.length = cur.length ∧ cur'.take k = List.replicate k (.int .u8 (x.toNat : Int)) ∧ Hid (wr.heap[g]? = some (.cells cur'.toArray 5 (0, 0)))) ∧ Below w1.heap.size w1 wr) (fun b _ _ => n - (intOf b).toNat)
  case atStart => exact ⟨1, Nat.le_refl _, h1, rfl, hl0, hb3⟩
  case round =>
    obtain ⟨k, hk1, hkn, rfl, ⟨cur', hcl', hct, hblk⟩, hb⟩ := hrel
    by_cases hlt : k < n
    · obtain ⟨m, hm⟩ : ∃ m, m = Nat.min k (n - k) := ⟨_, rfl⟩
      have hm' : m = min k (n - k) := hm
      have hm1 : 1 ≤ m := by omega
      have hmk : k + m ≤ n := by omega
      have hmin : min (k : Int) (n : Int) = (k : Int) := by omega
      have P1 := Lib.hid (show (List.replicate m (Value.int .u8 (x.toNat : Int))).length = Nat.min k (n - k) by rw [List.length_replicate]; exact hm)
      have P2 := Lib.hid (show ∀ j v, (List.replicate m (Value.int .u8 (x.toNat : Int)))[j]? = some v → wr.drew.cell? ((⟨g, 0, none⟩ : Addr).add j) = some v from fun j v hj => by
        rw [add_none, Nat.zero_add]
        rw [List.getElem?_replicate] at hj
        split at hj
        · rename_i hjm
          injection hj with hj
          subst hj
          have := cell_of_row wr g j cur'.toArray 5 (0, 0) hblk.out
          show wr.cell? _ = _
          rw [this, List.getElem?_toArray]
          have e := congrArg (fun l : List Value => l[j]?) hct
          simp only [List.getElem?_take, List.getElem?_replicate, if_pos (show j < k by omega)] at e
          exact e
        · cases hj)
      have P3 := Lib.hid (show k + (List.replicate m (Value.int .u8 (x.toNat : Int))).length ≤ cur'.length by rw [List.length_replicate, hcl']; omega)
      have P4 := Lib.hid (show ∀ v ∈ List.replicate m (Value.int .u8 (x.toNat : Int)), v.oneCell' = true from fun v hv => by rw [List.mem_replicate] at hv; rw [hv.2]; rfl)
      have PS := Lib.hid (splice_take cur' k m (.int .u8 (x.toNat : Int)) hct)
      have PB := Lib.hid (show wr.drew.heap[g]? = some (.cells cur'.toArray 5 (0, 0)) from hblk.out)
      have hbd : Below w1.heap.size w1 wr.drew := ⟨hb.os, hb.tape, hb.output, hb.size, hb.block⟩
      have PL := Lib.hid (show (splice cur' k (List.replicate m (Value.int .u8 (x.toNat : Int)))).length = cur.length by rw [length_splice cur' k _ P3.out]; exact hcl')
      have PM := Lib.hid (show ((List.replicate m (Value.int .u8 (x.toNat : Int))).length : Int) = (m : Int) by rw [List.length_replicate])
      have i1 : (k : Int) < (n : Int) := by omega
      have i2 : (k : Int) ≤ (n : Int) := by omega
      have i3 : ¬ n = k := by omega
      clear hm hm' hct hblk hcl' hb hl0 hb3
      generalize hrep : List.replicate m (Value.int .u8 (x.toNat : Int)) = rep at *
      have HREP := Lib.hid hrep
      clear hrep
      go_wp2_with fail
      refine wp_region_sched [(0, true), (1, true), (2, true), (4, true), (5, true), (3, true), (6, true), (7, false), (8, false), (9, false)] (by kernel_rfl) (by rfl) (by kernel_rfl) (by kernel_rfl) (by simp only [build, need, List.map_nil, List.nil_append, List.getElem?_toArray, List.getElem?_cons_zero, List.getElem?_cons_succ, if_true, if_false, Bool.false_eq_true]; rfl) ?_
      generalize wr.drew = wd at *
      have hrl := PM.out
      go_wp2_with (with_reducible refine wpList_copy_splice rfl (.tmp 70) (.tmp 73) 23 23 rfl 5 Try.underlying23 (by kernel_rfl) (some ⟨g, k, none⟩) (some ⟨g, 0, none⟩) (n - k) (n - k) k n rfl rfl g k cur' 5 PB.out rep P1.out (fun _ => ⟨rfl, _, rfl, P2.out⟩) P3.out P4.out w1.heap.size w1 hbd hBg ?_; intro w5 hw5 hb5)
      go_roundw
      case rel => exact ⟨k + m, by omega, hmk, by first | (rw [PM.out]; go_num) | go_num, ⟨_, PL.out, PS.out, hw5⟩, hb5⟩
      case measure => simp [intOf]; omega
    · obtain rfl : n = k := by omega
      have hrd : Rd wr wr.heap.size 1 (some ⟨g, 0, none⟩) n (bcells (List.replicate n x)) := by
        have hbc : bcells (List.replicate n x) = List.replicate n (.int .u8 (x.toNat : Int)) := by simp [bcells]
        refine ⟨by simp [bcells], by unfold maxLen; omega, fun _ => ⟨g, 0, rfl, (Array.getElem?_eq_some_iff.1 hblk.out).1, fun j u hu => ?_⟩⟩
        rw [Nat.zero_add, cell_of_row wr g j cur'.toArray 5 (0, 0) hblk.out, List.getElem?_toArray]
        rw [hbc] at hu
        have hj : j < n := by have := (List.getElem?_eq_some_iff.1 hu).1; simpa using this
        have e := congrArg (fun l : List Value => l[j]?) hct
        simp only [List.getElem?_take, if_pos hj] at e
        rw [e]
        exact hu
      clear hct hblk hl0 hb3
      go_wp2
      go_ret
      exact ⟨g, rfl, hrd, hb⟩
end Go.Proofs.Yticjecfbjmibaaa
