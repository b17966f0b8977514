/- The document's edits: number, at a place of bytes. For every bytes. -/
import Derived.Test.YtedjolkkidciiaaEd2
import Derived.Test.YtedjolkkidciiaaGR
namespace Go.Proofs.Ytedjolkkidciiaa
open Go.RowKit
attribute [local go_sem] Oper.semAt_some

/-- a number read at a place, if nothing was wrong: the number, the place behind it, what is wrong -/
def numW (least most : Nat) (l : List UInt8) (at_ wr : Nat) : Nat × Nat × Nat :=
  if wr = 0 then (match rdNum least most (l.drop at_) with | .ok (x, _) => (x, at_ + (getP (l.drop at_)).2.1, 0) | .error e => (0, at_, e)) else (0, at_, wr)
theorem numW_wrong {least most : Nat} {l : List UInt8} {at_ wr : Nat} (h : ¬ wr = 0) : numW least most l at_ wr = (0, at_, wr) := by unfold numW; rw [if_neg h]
theorem numW_ok {least most : Nat} {l r : List UInt8} {at_ x : Nat} (h : rdNum least most (l.drop at_) = .ok (x, r)) : numW least most l at_ 0 = (x, at_ + (getP (l.drop at_)).2.1, 0) := by unfold numW; rw [if_pos rfl, h]
theorem numW_err {least most : Nat} {l : List UInt8} {at_ e : Nat} (h : rdNum least most (l.drop at_) = .error e) : numW least most l at_ 0 = (0, at_, e) := by unfold numW; rw [if_pos rfl, h]
theorem numW_le {least most : Nat} {l : List UInt8} {at_ wr : Nat} (h : at_ ≤ l.length) : (numW least most l at_ wr).2.1 ≤ l.length := by
  unfold numW
  split
  · split
    · rename_i h2
      have := (rdNum_ok h2).2.2.2.2.2.1
      rw [List.length_drop] at this
      show _ + _ ≤ _
      omega
    · exact h
  · exact h
theorem numW_lt {least most : Nat} {l : List UInt8} {at_ wr : Nat} : (numW least most l at_ wr).1 < 18446744073709551616 := by
  unfold numW
  split
  · split
    · rename_i h2
      exact (rdNum_ok h2).2.2.2.2.2.2.1
    · show 0 < _; decide
  · show 0 < _; decide
theorem numW_most {least most : Nat} {l : List UInt8} {at_ wr : Nat} : (numW least most l at_ wr).1 ≤ most := by
  unfold numW
  split
  · split
    · rename_i h2
      exact (rdNum_ok h2).2.2.2.1
    · exact Nat.zero_le _
  · exact Nat.zero_le _
theorem numW_key (least most : Nat) (l : List UInt8) (at_ : Nat) : ((getP (l.drop at_)).2.2 = 0 → ¬ (getP (l.drop at_)).1 < least → ¬ most < (getP (l.drop at_)).1 → numW least most l at_ 0 = ((getP (l.drop at_)).1, at_ + (getP (l.drop at_)).2.1, 0)) ∧
    ((getP (l.drop at_)).2.2 = 0 → ((getP (l.drop at_)).1 < least ∨ most < (getP (l.drop at_)).1) → numW least most l at_ 0 = (0, at_, 5)) ∧ (¬ (getP (l.drop at_)).2.2 = 0 → numW least most l at_ 0 = (0, at_, (getP (l.drop at_)).2.2)) := by
  refine ⟨fun h0 h1 h2 => numW_ok (r := (l.drop at_).drop (getP (l.drop at_)).2.1) ?_, fun h0 h1 => numW_err ?_, fun h0 => numW_err ?_⟩
  · unfold rdNum
    rw [if_pos h0, if_neg (by omega)]
  · unfold rdNum
    rw [if_pos h0, if_pos h1]
  · unfold rdNum
    rw [if_neg h0]
theorem grown_below {w w' : World} (h : Below w.heap.size w w') (row : Option Nat) : w.grownBy w' row := ⟨h.os, h.tape, h.output, h.size, fun k hk _ => h.block k hk⟩
/-- the walk over the bytes -/
def WalkC (A : Option Addr) (n c at_ wr : Nat) : Array Value := #[.slice A n c, .int .i64 (at_ : Int), .int .i64 (wr : Int)]
def RetNum (A : Option Addr) (n c g least most : Nat) (l : List UInt8) (at_ wr : Nat) (w : World) (e : Ending) (w' : World) : Prop :=
  e = .returned (.int .u64 ((numW least most l at_ wr).1 : Int)) ∧ Blk w' g 62 (WalkC A n c (numW least most l at_ wr).2.1 (numW least most l at_ wr).2.2) ∧ w.grownBy w' (some g)
theorem Rd.from {w : World} {B n c k : Nat} {A : Option Addr} {l : List UInt8} (hr : Rd w B 1 A n (bcells l)) (hnc : n ≤ c) (hk : k ≤ n) : Rd w B 1 (cutA A c k) (n - k) (bcells (l.drop k)) := by
  have this := hr.cut hnc (i := k) (k := n) hk (Nat.le_refl _)
  rwa [List.take_of_length_le (l := l) (by have := hr.1; rw [bcells_len] at this; omega)] at this

set_option maxRecDepth 100000 in
set_option maxHeartbeats 4000000 in
theorem rnum_any (least most : Nat) (l : List UInt8) (B g : Nat) (A : Option Addr) (n c at_ wr : Nat) (w : World) (q : Blk w g 62 (WalkC A n c at_ wr)) (hr : Rd w B 1 A n (bcells l)) (hnc : n ≤ c) (hB : B ≤ g) (hat : at_ ≤ n) :
    Calls Try.prog 28 #[.pointer (some ⟨g, 0, none⟩), .int .u64 (least : Int), .int .u64 (most : Int)] w (RetNum A n c g least most l at_ wr w) := by
  unfold WalkC at q
  have c0 : w.cell? ⟨g, 0, none⟩ = some (.slice A n c) := q.cell 0
  have c1 : w.cell? ⟨g, 1, none⟩ = some (.int .i64 (at_ : Int)) := q.cell 1
  have c2 : w.cell? ⟨g, 2, none⟩ = some (.int .i64 (wr : Int)) := q.cell 2
  have hlen := hr.1
  have hmx := hr.2.1
  unfold maxLen at hmx
  rw [bcells_len, Nat.mul_one] at hlen
  unfold RetNum
  by_cases hw : wr = 0
  · subst hw
    have hHG := fun W (h : Below w.heap.size w W) => rget_any (l.drop at_) (cutA A c at_) (n - at_) (c - at_) W (by omega) (((hr.more (show B ≤ w.heap.size by have := q.lt; omega)).below h (Nat.le_refl _)).more h.size |>.from hnc hat)
    have HG := Lib.hid hHG
    have HLO := Lib.hid (fun W => run_lo W .i64 (A := A) hat hnc)
    have hai : (at_ : Int) ≤ (n : Int) := by omega
    have Q := Lib.hid q
    have hg := getP_any (l.drop at_)
    rw [List.length_drop] at hg
    have hk := numW_key least most l at_
    have c2 : w.cell? ⟨g, 2, none⟩ = some (.int .i64 0) := c2
    have HGP := Lib.hid hg
    have HK := Lib.hid hk
    obtain ⟨N, hN⟩ : ∃ N, N = numW least most l at_ 0 := ⟨_, rfl⟩
    rw [← hN] at HK ⊢
    clear hg hk q hr hHG hN
    generalize getP (l.drop at_) = p at *
    obtain ⟨x, k, z⟩ := p
    go_enter Try.func28, Try.ntmps28
    go_upto_region 3 with (fail)
    have hb0 : Below w.heap.size w w.drew := below_of_drewN ⟨1, rfl⟩
    refine wp_region_plan (fun W => W = w.drew) [.calms [0, 4], .read 1, .calms [2], .read 3, .read 5, .calms [6], .read 7, .calms [8], .act 9, .calms [10, 11, 12, 13, 14, 15, 16]] (by kernel_rfl) (by rfl) (by kernel_rfl) (by kernel_rfl) rfl ?_
    have Q : Hid (Blk w.drew _ _ _) := Q
    have HB0 := Lib.hid hb0
    clear hb0 c0 c1 c2
    refine plan_calms (by simp [calmRow, need]; rfl) ?_
    generalize w.drew = w1 at *
    go_wp2_with fail
    refine plan_read (by rfl) (.pointer (some ⟨g, 0, none⟩)) (by rfl) (fun W hW => exec_nil rfl rfl) ?_
    refine plan_calms (by simp [calmRow, need]; rfl) ?_
    go_wp2_with fail
    refine plan_read (by rfl) (.slice A n c) (by rfl) (fun W hW => by subst hW; exact exec_load (p := ⟨g, 0, none⟩) rfl rfl (by kernel_rfl) (Q.out.cell 0)) ?_
    refine plan_read (by rfl) (.pointer (some ⟨g, 0, none⟩)) (by rfl) (fun W hW => exec_nil rfl rfl) ?_
    refine plan_calms (by simp [calmRow, need]; rfl) ?_
    go_wp2_with fail
    refine plan_read (by rfl) (.int .i64 (at_ : Int)) (by rfl) (fun W hW => by subst hW; exact exec_load (p := ⟨g, 1, none⟩) rfl rfl (by kernel_rfl) (Q.out.cell 1)) ?_
    have hlo := fun W => HLO.out W
    refine plan_calms (by simp [calmRow, need]; rfl) ?_
    go_wp2_with fail
    clear hlo
    refine plan_last (by rfl) (by kernel_rfl) ?_
    go_wp2_with fail
    refine (HG.out w1 HB0.out).mono ?_
    rintro e w2 ⟨rfl, b2⟩
    have Q := Lib.hid (Q.out.after b2)
    have HG2 := Lib.hid (grown_below (belowGo HB0.out b2) (some g))
    dsimp only
    clear HB0 b2 HG
    go_wp2_with fail
    refine plan_calms (by simp [calmRow, need]; rfl) ?_
    go_wp2_with fail
    refine plan_end ?_
    by_cases hz : z = 0
    · subst hz
      by_cases hlo : x < least
      · have hli : (x : Int) < (least : Int) := by omega
        have hn := HK.out.2.1 rfl (Or.inl hlo)
        subst hn
        have hs := Q.out.set_ 2 (.int .i64 5)
        have c2 := Q.out.cell 2
        have f2 := Q.out.frozen 2
        have HS := Lib.hid hs
        have HG3 := Lib.hid (HG2.out.trans (grown_set w2 ⟨g, 2, none⟩ (.int .i64 5)))
        clear hlo hs HGP HK
        go_wp2_with fail
        exact bodyPost_ret (results_tmp rfl _ _ _) rfl ⟨rfl, HS.out, HG3.out⟩
      · by_cases hhi : most < x
        · have hli : ¬ (x : Int) < (least : Int) := by omega
          have hmi : (most : Int) < (x : Int) := by omega
          have hn := HK.out.2.1 rfl (Or.inr hhi)
          subst hn
          have hs := Q.out.set_ 2 (.int .i64 5)
          have c2 := Q.out.cell 2
          have f2 := Q.out.frozen 2
          have HS := Lib.hid hs
          have HG3 := Lib.hid (HG2.out.trans (grown_set w2 ⟨g, 2, none⟩ (.int .i64 5)))
          clear hlo hhi hs HGP HK
          go_wp2_with fail
          exact bodyPost_ret (results_tmp rfl _ _ _) rfl ⟨rfl, HS.out, HG3.out⟩
        · have hli : ¬ (x : Int) < (least : Int) := by omega
          have hmi : ¬ (most : Int) < (x : Int) := by omega
          have hn := HK.out.1 rfl hlo hhi
          subst hn
          have hkn : at_ + k ≤ n := by have := HGP.out; simp at this; omega
          have hs := Q.out.set_ 1 (.int .i64 ((at_ + k : Nat) : Int))
          have c1 := Q.out.cell 1
          have f1 := Q.out.frozen 1
          have HS := Lib.hid hs
          have HG3 := Lib.hid (HG2.out.trans (grown_set w2 ⟨g, 1, none⟩ (.int .i64 ((at_ + k : Nat) : Int))))
          obtain ⟨s, hs⟩ : ∃ s, s = at_ + k := ⟨_, rfl⟩
          have hsi : (at_ : Int) + (k : Int) = (s : Int) := by omega
          rw [← hs] at HS HG3 hkn
          have HSS := Lib.hid hs
          clear hlo hhi hs HGP HK
          go_wp2_with fail
          exact bodyPost_ret (results_tmp rfl _ _ _) rfl ⟨rfl, by rw [← HSS.out]; exact HS.out, HG3.out⟩
    · have hzi : ¬ (z : Int) = 0 := by omega
      have hn := HK.out.2.2 hz
      subst hn
      have hs := Q.out.set_ 2 (.int .i64 (z : Int))
      have c2 := Q.out.cell 2
      have f2 := Q.out.frozen 2
      have HS := Lib.hid hs
      have HG3 := Lib.hid (HG2.out.trans (grown_set w2 ⟨g, 2, none⟩ (.int .i64 (z : Int))))
      clear hz hs HGP HK
      go_wp2_with fail
      exact bodyPost_ret (results_tmp rfl _ _ _) rfl ⟨rfl, HS.out, HG3.out⟩
  · have hwi : ¬ (wr : Int) = 0 := by omega
    rw [numW_wrong hw]
    have Q := Lib.hid q
    clear q
    go_enter Try.func28, Try.ntmps28
    go_wp2_with fail
    exact bodyPost_ret (results_tmp rfl _ _ _) rfl ⟨rfl, Q.out, grown_refl _ _⟩
end Go.Proofs.Ytedjolkkidciiaa
