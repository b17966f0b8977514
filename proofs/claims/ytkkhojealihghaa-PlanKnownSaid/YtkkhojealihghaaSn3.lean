/- What seen.Seen comes to: a range over a function. For every world in which the slices read as lists. -/
import Derived.Test.YtkkhojealihghaaSn2
import Derived.RangeFuncNested
import Derived.RangeFuncBound
import Derived.RangeFuncCalls
import Derived.RangeFuncLeaves
import Derived.RangeFuncBox
import Derived.Shelf.Abstract
import Derived.OwnWalkIn
import Derived.TacticsInMore
import Derived.LoopNIn
import Derived.LoopIn
namespace Go.Proofs.Ytkkhojealihghaa.Sn
open Go.RowKit
attribute [local go_sem] Oper.semAt_some

theorem grown_of_below {w w' : World} (hb : Below w.heap.size w w') : w.grownBy w' none := ⟨hb.os, hb.tape, hb.output, hb.size, fun k hk _ => hb.block k hk⟩

/-- what a round keeps: what lay below B, and two boxes -/
def Kp2 (B p1 p2 : Nat) (w w' : World) : Prop := Below B w w' ∧ w'.heap[p1]? = w.heap[p1]? ∧ w'.heap[p2]? = w.heap[p2]?
theorem Kp2.trans {B p1 p2 : Nat} {a b c : World} (h : Kp2 B p1 p2 a b) (k : Kp2 B p1 p2 b c) : Kp2 B p1 p2 a c := ⟨h.1.trans k.1, k.2.1.trans h.2.1, k.2.2.trans h.2.2⟩
theorem Kp2.of_below {B p1 p2 : Nat} {a b : World} (h : Below a.heap.size a b) (hB : B ≤ a.heap.size) (h1 : p1 < a.heap.size) (h2 : p2 < a.heap.size) : Kp2 B p1 p2 a b := ⟨h.mono hB, h.block _ h1, h.block _ h2⟩
theorem kp2_b {B p1 p2 : Nat} {w : World} (hB : B ≤ w.heap.size) (h1 : p1 < w.heap.size) (h2 : p2 < w.heap.size) (W : World) (l : Nat) (o o' : Obj) (hl : w.heap.size ≤ l) (h : W.heap[l]? = some o) (hc : o.isCells = false) (hw : o.isWalk = false) : Kp2 B p1 p2 W (W.putObj l o') :=
  ⟨belowK_b hB W l o o' hl h hc hw, World.putObj_heap_other (by omega), World.putObj_heap_other (by omega)⟩

set_option maxHeartbeats 1000000 in
theorem places1_in (n0 yl : Nat) (hn0 : 1 ≤ n0) (l : List Ver) (A : Option Addr) (n c : Nat) (at_ : List Int) (A' : Option Addr) (n' c' : Nat) (p1 p2 B : Nat) (hn : l.length = n) (hn62 : n ≤ 4611686018427387903) (hn' : at_.length = n') (hmay : mayB l = true)
    (J Jx : List (Fin l.length) → World → Prop) (W : World) (hJ : AbidesFrom W.heap.size J)
    (hY : ∀ pre x W1, J pre W1 → pre.length < (hits l at_).length → YieldAt Fence.wide (n0 - 1) Try.prog yl #[.int .i64 (x.val : Nat)] W1 fun e W' =>
      (e = .returned (.bool true) ∧ J (pre ++ [x]) W' ∧ Kp2 B p1 p2 W1 W') ∨ (e = .returned (.bool false) ∧ Jx (pre ++ [x]) W'))
    (hB : B ≤ W.heap.size) (h : Rd W B 2 A n (vcells l)) (h' : Rd W B 1 A' n' (at_.map (.int .u64))) 
    (hp1 : Boxed W p1 29 (.slice A' n' c')) (hp2 : Boxed W p2 103 (.slice A n c)) (h0 : J [] W) :
    CallsIn Fence.wide n0 Try.prog 45 #[.func (.yield yl) #[] #[], .pointer (some ⟨p1, 0, none⟩), .pointer (some ⟨p2, 0, none⟩)] W fun e W' => (∃ v, e = .returned v) ∧
      ((∃ ys, ys = hits l at_ ∧ J ys W') ∨ (∃ pre, pre <+: hits l at_ ∧ Jx pre W')) := by
  have hm := h'.2.1
  unfold maxLen at hm
  have cq1 := hp1.cell
  have cq2 := hp2.cell
  refine callsIn_of_wp Try.func45 rfl trivial ?_ rfl
  simp only [Try.ntmps45, List.size_toArray, List.length_cons, List.length_nil, Nat.reduceAdd, Nat.reduceSub, Array.replicate_succ, Array.replicate_zero, List.push_toArray, List.append_toArray, List.nil_append, List.cons_append]
  gi_wp2
  gi_loopw [9] (fun i wr => ∃ k : Nat, k ≤ n' ∧ i = .int .i64 k ∧ J (hits l (at_.take k)) wr ∧ Kp2 B p1 p2 W wr) (fun i _ => n' - (intOf i).toNat)
  case atStart => exact ⟨0, Nat.zero_le _, rfl, by simpa [hits] using h0, Below.refl _ _, rfl, rfl⟩
  case round =>
    obtain ⟨k, hk, rfl, hj, hb⟩ := hrel
    by_cases hlt : k < n'
    · obtain ⟨b', off', rfl, hblk', hcell'⟩ := h'.2.2 (by omega)
      have hkl : k < at_.length := by omega
      have cs : wr.cell? ⟨b', off' + k, none⟩ = some (.int .u64 at_[k]) := (hb.1.cell (p := ⟨b', off' + k, none⟩) hblk').trans (hcell' k _ (by simp [hkl]))
      have cp1 : wr.cell? ⟨p1, 0, none⟩ = some (.slice (some ⟨b', off', none⟩) n' c') := Boxed.cell (hb.2.1.trans hp1)
      have cp2 : wr.cell? ⟨p2, 0, none⟩ = some (.slice A n c) := Boxed.cell (hb.2.2.trans hp2)
      have H0 := Lib.hid (hits_none (l := l) hkl)
      have H1 := Lib.hid (fun j => hits_some (l := l) (j := j) hkl)
      have H2 := Lib.hid (fun j => hits_lt (l := l) (j := j) hkl)
      obtain ⟨s, hs⟩ : ∃ s, s = at_[k] := ⟨_, rfl⟩
      rw [← hs] at cs H0 H1 H2
      clear hs hcell'
      have hwr := Nat.le_trans hB hb.1.size
      have hlp1 := Nat.lt_of_lt_of_le hp1.lt hb.1.size
      have hlp2 := Nat.lt_of_lt_of_le hp2.lt hb.1.size
      have hcl := cnt_le l s
      have Hb := Lib.hid (callsIn_wide (n := n0 - 1) |>.2 (behind_any l A n c s wr hn hn62 ((h.below hb.1 (Nat.le_refl _)).more hwr) hmay))
      gi_wp2_with fail
      refine ⟨trivial, Hb.out.mono ?_⟩
      rintro e w1 ⟨rfl, hbb⟩
      have hB1 := hb.trans (Kp2.of_below hbb hwr hlp1 hlp2)
      have hJ1 := hJ _ _ _ none hj (grown_of_below hbb) (fun r e => by cases e)
      rcases Nat.eq_zero_or_pos (cnt l s) with hc | hc
      · have HC := Lib.hid hc
        rw [hc]
        clear hc
        gi_wp2
        refine ⟨fun _ h => (by cases h), ?_⟩
        gi_wp2
        go_roundw
        case rel => exact ⟨k + 1, by omega, by go_num, by rw [H0.out HC.out]; exact hJ1, hB1⟩
        case measure => simp [intOf]; omega
      · obtain ⟨j, hcj⟩ : ∃ j, cnt l s = j + 1 := ⟨cnt l s - 1, by omega⟩
        have hjl : j < l.length := by omega
        obtain ⟨fn, tmps, assign, body, hy, hR⟩ := hY _ ⟨j, hjl⟩ w1 hJ1 (H2.out j hcj hjl)
        have HC := Lib.hid hcj
        rw [hcj]
        clear hcj hc
        dsimp only at hy
        gi_wp2
        refine hR.mono ?_
        rintro e W3 (⟨rfl, hJ3, hk3⟩ | ⟨rfl, hJx3⟩)
        · gi_wp2
          go_roundw
          case rel => exact ⟨k + 1, by omega, by go_num, by rw [H1.out j HC.out hjl]; exact hJ3, hB1.trans hk3⟩
          case measure => simp [intOf]; omega
        · gi_wp2
          refine bodyPost_ret (results_none rfl _ _ _) rfl ?_
          refine ⟨⟨_, rfl⟩, .inr ⟨_, ?_, hJx3⟩⟩
          rw [← H1.out j HC.out hjl]
          exact ⟨hits l (at_.drop (k + 1)), by unfold hits; rw [← List.filterMap_append, List.take_append_drop]⟩
    · obtain rfl : k = n' := by omega
      gi_wp2
      go_end0
      exact ⟨⟨_, rfl⟩, .inl ⟨_, by rw [List.take_of_length_le (by omega)], hj⟩⟩

set_option maxHeartbeats 400000 in
theorem places_any (A : Option Addr) (n c : Nat) (A' : Option Addr) (n' c' : Nat) (w : World) :
    Calls Try.prog 44 #[.slice A n c, .slice A' n' c'] w fun e w' => e = .returned (.func (.func 45) #[] #[.pointer (some ⟨w.heap.size + 1, 0, none⟩), .pointer (some ⟨w.heap.size, 0, none⟩)]) ∧
      (w.alloc (.cells #[.slice A n c] 103)).alloc (.cells #[.slice A' n' c'] 29) = w' := by
  go_enter Try.func44, Try.ntmps44
  go_wp2
  go_ret
  exact ⟨rfl, rfl⟩

theorem Try.infoBool : (Try.prog.info? 4).map (fun i => (i.zero, i.size, i.bytes)) = some (some (.bool false), 1, 1) := by kernel_rfl

set_option maxHeartbeats 1000000 in
theorem seen_any (l : List Ver) (A : Option Addr) (n c : Nat) (at_ : List Int) (A' : Option Addr) (n' c' : Nat) (w : World) (hn : l.length = n) (hnm : n ≤ 1000000) (hn' : at_.length = n')
    (h : Rd w w.heap.size 2 A n (vcells l)) (h' : Rd w w.heap.size 1 A' n' (at_.map (.int .u64))) :
    Calls Try.prog 41 #[.slice A n c, .slice A' n' c'] w (RetOwn w 4 1 (seenL l at_).length ((seenL l at_).map .bool)) := by
  have hm := may_any l A n c w hn h
  cases hmay : mayB l with
  | false =>
    rw [hmay] at hm
    have Hm := Lib.hid hm
    have e1 : seenL l at_ = [] := by simp [seenL, hmay]
    rw [e1]
    clear hm hmay e1 h h'
    refine callsIn_wide (n := 5) |>.1 (callsIn_of_wp_marks Try.func41 rfl trivial ?_ rfl)
    simp only [Try.ntmps41, List.size_toArray, List.length_cons, List.length_nil, Nat.reduceAdd, Nat.reduceSub, Array.replicate_succ, Array.replicate_zero, List.push_toArray, List.append_toArray, List.nil_append, List.cons_append]
    gi_wp2_with fail
    refine ⟨trivial, (callsIn_wide.2 Hm.out).mono ?_⟩
    rintro e w' ⟨rfl, hb⟩
    gi_wp2
    exact ⟨_, results_tmp rfl _ _ _, _, rfl, World.ownsRow_nil _ _ _ _, hb⟩
  | true =>
    rw [hmay] at hm
    have Hm := Lib.hid hm
    obtain ⟨i0, hi, hz0, hz1, hz2⟩ := info_parts Try.infoBool
    have hmk := fun W => run_make_rowN (P := Try.prog) 91 4 i0 (.bool false) Try.underlying91 hi hz0 .i64 .i64 n n (Nat.le_refl _) (by rw [hz2]; omega) (by omega) W
    rw [hz1] at hmk
    clear hm
    refine callsIn_wide (n := 5) |>.1 (callsIn_of_wp_marks Try.func41 rfl trivial ?_ rfl)
    simp only [Try.ntmps41, List.size_toArray, List.length_cons, List.length_nil, Nat.reduceAdd, Nat.reduceSub, Array.replicate_succ, Array.replicate_zero, List.push_toArray, List.append_toArray, List.nil_append, List.cons_append]
    gi_wp2_with fail
    refine ⟨trivial, (callsIn_wide.2 Hm.out).mono ?_⟩
    rintro e w1 ⟨rfl, hb⟩
    obtain ⟨W2, hW2⟩ : ∃ W2, (w1.alloc (Obj.cells (madeCells #[Value.bool false] n) 4)).alloc (Obj.cells #[Value.slice (some { block := w1.heap.size, off := 0 }) n n] 91) = W2 := ⟨_, rfl⟩
    have hs2 : W2.heap.size = w1.heap.size + 2 := by rw [← hW2]; simp
    have hb2 : Below w.heap.size w W2 := by rw [← hW2]; exact (hb.alloc hb.size _).alloc (by simp; have := hb.size; omega) _
    have hbx : Boxed W2 (w1.heap.size + 1) 91 (Value.slice (some { block := w1.heap.size, off := 0 }) n n) := by
      rw [← hW2]; have := Boxed.new (w1.alloc (Obj.cells (madeCells #[Value.bool false] n) 4)) 91 (Value.slice (some { block := w1.heap.size, off := 0 }) n n); rwa [World.size_alloc] at this
    have hrow : W2.ownsRow w.heap.size 4 1 (Value.slice (some { block := w1.heap.size, off := 0 }) n n) n ((marks ([] : List (Fin l.length))).map .bool) := by
      rw [← hW2, marks_nil, List.map_replicate, hn]; exact (own_made w1 w.heap.size 4 (.bool false) n hb.size (by unfold maxLen; omega)).alloc _
    gi_wp2_with fail
    clear hW2 hmk
    refine ⟨trivial, (callsIn_wide.2 (places_any A n c A' n' c' W2)).mono ?_⟩
    rintro e w' ⟨rfl, rfl⟩
    gi_wp2_with fail
    have hb3 : Below w.heap.size w ((W2.alloc (Obj.cells #[Value.slice A n c] 103)).alloc (Obj.cells #[Value.slice A' n' c'] 29)) := (hb2.alloc hb2.size _).alloc (by simp; have := hb2.size; omega) _
    have hp2 : Boxed ((W2.alloc (Obj.cells #[Value.slice A n c] 103)).alloc (Obj.cells #[Value.slice A' n' c'] 29)) (w1.heap.size + 2) 103 (.slice A n c) := by
      have := (Boxed.new W2 103 (.slice A n c)).alloc (Obj.cells #[Value.slice A' n' c'] 29); rwa [hs2] at this
    have hp1 : Boxed ((W2.alloc (Obj.cells #[Value.slice A n c] 103)).alloc (Obj.cells #[Value.slice A' n' c'] 29)) (w1.heap.size + 2 + 1) 29 (.slice A' n' c') := by
      have := Boxed.new (W2.alloc (Obj.cells #[Value.slice A n c] 103)) 29 (.slice A' n' c'); rwa [World.size_alloc, hs2] at this
    have hbx3 := (hbx.alloc (Obj.cells #[Value.slice A n c] 103)).alloc (Obj.cells #[Value.slice A' n' c'] 29)
    have hrow3 := (hrow.alloc (Obj.cells #[Value.slice A n c] 103)).alloc (Obj.cells #[Value.slice A' n' c'] 29)
    have hs3 : ((W2.alloc (Obj.cells #[Value.slice A n c] 103)).alloc (Obj.cells #[Value.slice A' n' c'] 29)).heap.size = w1.heap.size + 4 := by simp [hs2]
    generalize (W2.alloc (Obj.cells #[Value.slice A n c] 103)).alloc (Obj.cells #[Value.slice A' n' c'] 29) = W3 at hb3 hp2 hp1 hbx3 hrow3 hs3 ⊢
    have hw1 := hb.size
    have hw3 := hb3.size
    clear hbx hrow hb2 hs2
    refine wpIn_rangeFunc_ownF rfl (by omega) (gf := 45) (lb := #[.pointer (some ⟨w1.heap.size + 2 + 1, 0, none⟩), .pointer (some ⟨w1.heap.size + 2, 0, none⟩)]) rfl trivial (enters_of Try.func45 (by kernel_rfl) rfl)
      (α := Fin l.length) (encs := fun x => #[.int .i64 (x.val : Nat)]) (Kp := Kp2 w.heap.size (w1.heap.size + 2 + 1) (w1.heap.size + 2)) (S := fun ys => ys = hits l at_) (Sp := fun pre => pre <+: hits l at_) (N := (hits l at_).length) (w0 := W3)
      (fun yl J Jx W hW hJ _ hY h0 => places1_in _ yl (by omega) l A n c at_ A' n' c' _ _ w.heap.size hn (by omega) hn' hmay J Jx W hJ hY (by have := hW.size; omega)
        ((h.below hb3 (Nat.le_refl _)).below hW (by omega)) ((h'.below hb3 (Nat.le_refl _)).below hW (by omega)) ((hW.block _ hp1.lt).trans hp1) ((hW.block _ hp2.lt).trans hp2) h0)
      (fun h k => h.trans k) (kp2_b (by omega) (by omega) (by omega)) (Below.refl _ _) (fun _ => rfl)
      (fun pre W => (Boxed W (w1.heap.size + 1) 91 (.slice (some ⟨w1.heap.size, 0, none⟩) n n) ∧ W.ownsRow w.heap.size 4 1 (.slice (some ⟨w1.heap.size, 0, none⟩) n n) n ((marks pre).map .bool)) ∧ Below w.heap.size w W)
      (fun _ _ _ => False)
      (OwnFrom.and (fun s X Y row hs hg hr => ⟨hs.1.kept hg (fun e => by have := (hr _ e.symm).1; omega), hs.2.kept hg (.inr (fun e => by have := (hr w1.heap.size e.symm).1; omega))⟩) (ownFrom_below (Nat.le_refl _) (by omega)))
      (fun _ _ _ _ _ hs _ _ => hs)
      ⟨⟨hbx3, hrow3⟩, hb3⟩
      (fun x => { tmps := #[.slice A n c, .slice A' n' c', undef, undef, .slice none 0 0, .pointer (some ⟨w1.heap.size + 1, 0, none⟩), .int .i64 (x.val : Nat), .slice A n c, .bool true, .bool false, .slice A n c, .int .i64 n, .slice (some ⟨w1.heap.size, 0, none⟩) n n, .slice A n c, .slice A' n' c',
        .func (.func 45) #[] #[.pointer (some ⟨w1.heap.size + 2 + 1, 0, none⟩), .pointer (some ⟨w1.heap.size + 2, 0, none⟩)], .int .i64 (x.val : Nat), undef, undef, undef, undef], defers := [] }) ?assign ?body ?done ?stop
    case assign =>
      intro yl x W K hK
      gi_wp2
      exact hK
    case body =>
      rintro yl pre ⟨x, hx⟩ W ⟨⟨hbx, hrow⟩, hB⟩ hlt
      have hc := hbx.cell
      have hxn : (x : Int) < (n : Int) := by omega
      have hcx := hrow.cellAt x (by omega)
      have hfx := hrow.frozenAt x
      obtain ⟨v, hv⟩ : ∃ v, ((marks pre).map Value.bool)[x]? = some v := ⟨_, List.getElem?_eq_getElem (by rw [List.length_map, marks_len]; exact hx)⟩
      rw [hv] at hcx
      have hst := hrow.stored x (.bool true)
      clear hv
      gi_wp2
      exact ⟨KeepsOthers.setCell _ _ _, ⟨(Below.refl _ _).setCell (p := ⟨w1.heap.size, x, none⟩) hw1 _, Below.heap_setCell _ _ _ _ (by show w1.heap.size + 2 + 1 ≠ w1.heap.size; omega), Below.heap_setCell _ _ _ _ (by show w1.heap.size + 2 ≠ w1.heap.size; omega)⟩,
        ⟨hbx.kept hst.2 (by simp), by rw [marks_set, List.map_set]; exact hst.1⟩, hB.setCell (p := ⟨w1.heap.size, x, none⟩) hw1 _⟩
    case done =>
      rintro D ys W hD rfl ⟨⟨hbx, hrow⟩, hB⟩ hK
      have hc := hbx.cell
      gi_wp2
      refine ⟨by simp, .inl ⟨_, _, rfl, run_takeDeferred hK, ?_⟩⟩
      rw [marks_hits hmay] at hrow
      have hl : (seenL l at_).length = n := by simp [seenL, hmay, hn]
      rw [hl]
      exact ⟨_, results_tmp rfl _ _ _, _, rfl, ownsRow_putObj hrow _ hK rfl, hB.trans (belowK_b (w := w) (Nat.le_refl _) W D _ _ (by omega) hK rfl rfl)⟩
    case stop =>
      rintro D c pre W _ _ h _
      exact h.elim
end Go.Proofs.Ytkkhojealihghaa.Sn
