/- What seen.Kept and the document's Seen and Kept come to. For every world in which the slices read as lists. -/
import Derived.Test.YtkkhojealihghaaSn3
import Derived.Deep.RegionWith
import Derived.Deep.RegionHeld3
import Derived.Deep.CutRange
namespace Go.Proofs.Ytkkhojealihghaa.Sn
open Go.RowKit

theorem Boxed.far {W : World} {B : Nat} {t : TypeId} {v : Value} (h : Boxed W B t v) {p : Addr} (hne : B ≠ p.block) (u : Value) : Boxed (W.setCell p u) B t v := (Below.heap_setCell W p u B hne).trans h

def olderFrom (o : Bool) (is : Bool) (kind : Int) : Bool := o || (is && kind == 1)

set_option maxHeartbeats 400000 in
/-- the closure 'keeps' -/
theorem keeps_any (q y : Int) (is o : Bool) (p : Nat) (w : World) (hp : Boxed w p 4 (.bool o)) :
    Calls Try.prog 42 #[.agg #[.int .u64 q, .int .i64 y], .bool is, .pointer (some ⟨p, 0, none⟩)] w fun e w' =>
      e = .returned (.bool (is && olderFrom o is y)) ∧ (w.setCell ⟨p, 0, none⟩ (.bool (olderFrom o is y))).alloc (.cells #[.int .u64 q, .int .i64 y] 105) = w' := by
  have hc := hp.cell
  have hf := hp.frozen
  have hl := hp.lt
  go_enter Try.func42, Try.ntmps42
  cases o <;> cases is
  all_goals go_wp2
  all_goals go_ret
  all_goals exact ⟨ret_bool (by simp [olderFrom]), by simp [olderFrom]⟩

set_option maxHeartbeats 1000000 in
theorem kept_any (l : List Ver) (A : Option Addr) (n c : Nat) (at_ : List Int) (A' : Option Addr) (n' c' : Nat) (w : World) (hn : l.length = n) (hnm : n ≤ 1000000) (hn' : at_.length = n')
    (h : Rd w w.heap.size 2 A n (vcells l)) (h' : Rd w w.heap.size 1 A' n' (at_.map (.int .u64))) :
    Calls Try.prog 38 #[.slice A n c, .slice A' n' c'] w (RetOwn w 4 1 (keptL l at_).length ((keptL l at_).map .bool)) := by
  have hs := Lib.hid (seen_any l A n c at_ A' n' c' w hn hnm hn' h h')
  clear h'
  cases hmay : mayB l with
  | false =>
    have e1 : seenL l at_ = [] := by simp [seenL, hmay]
    have e2 : keptL l at_ = [] := by simp [keptL, hmay]
    rw [e1] at hs
    rw [e2]
    clear hmay e1 e2 h
    go_enter Try.func38, Try.ntmps38
    go_wp2_with fail
    refine hs.out.mono ?_
    rintro e w1 ⟨v, rfl, hown, hb⟩
    obtain ⟨A2, c2, rfl⟩ := own_slice hown
    simp only [List.length_nil]
    go_wp2
    go_loop [15] (fun i => i = .int .i64 0) (fun _ => 0)
    case atStart => rfl
    case round =>
      subst hrel
      go_wp2
      go_ret
      exact ⟨_, rfl, hown.alloc _, hb.alloc hb.size _⟩
  | true =>
    have hsl := seenL_len hmay at_
    have hkl := keptL_len hmay at_
    have H0 := Lib.hid (keptCur_0 hmay at_)
    have H1 := Lib.hid (keptCur_all hmay at_)
    rw [hn] at hsl hkl
    rw [hsl] at hs
    rw [hkl]
    clear hmay hsl hkl
    go_enter Try.func38, Try.ntmps38
    go_wp2_with fail
    refine hs.out.mono ?_
    rintro e w1 ⟨v, rfl, hown, hb⟩
    obtain ⟨A2, c2, rfl⟩ := own_slice hown
    have hw1 := hb.size
    go_wp2
    go_loopw [15] (fun i wr => ∃ k : Nat, k ≤ n ∧ i = .int .i64 k ∧ Boxed wr w1.heap.size 4 (.bool (oldTo l at_ k)) ∧ wr.ownsRow w.heap.size 4 1 (.slice A2 n c2) n ((keptCur l at_ k).map .bool) ∧ Below w.heap.size w wr) (fun i _ => n - (intOf i).toNat)
    case atStart => exact ⟨0, Nat.zero_le _, rfl, Boxed.new _ _ _, by rw [H0.out]; exact hown.alloc _, hb.alloc hb.size _⟩
    case round =>
      obtain ⟨k, hk, rfl, hbx, hrow, hB⟩ := hrel
      by_cases hlt : k < n
      · obtain ⟨b, off, rfl, hblk, hcell⟩ := h.2.2 (by omega)
        rcases own_form hown with ⟨_, h0, _⟩ | ⟨g, cap, hv, hg, hglt, _⟩
        · omega
        simp only [Value.slice.injEq, true_and] at hv
        obtain ⟨rfl, rfl⟩ := hv
        have hkl : k < l.length := by omega
        have c0 : wr.cell? ⟨b, off + k * 2, none⟩ = some (.int .u64 (seqAt l k)) := (hB.cell (p := ⟨b, off + k * 2, none⟩) hblk).trans (hcell _ _ (vcells_s hkl))
        have c1 : wr.cell? ⟨b, off + k * 2 + 1, none⟩ = some (.int .i64 (kindAt l k)) := (hB.cell (p := ⟨b, off + k * 2 + 1, none⟩) hblk).trans (hcell _ _ (vcells_k hkl))
        have c2 : wr.cell? ⟨g, k, none⟩ = some (.bool (seenAt l at_ k)) := by
          rw [hrow.cellAt k (by omega), List.getElem?_map, keptCur_get at_ hkl]; rfl
        have f2 := hrow.frozenAt k
        have hgne : g ≠ w1.heap.size := by omega
        have hst := fun u => ((ownsRow_setCell_other hrow (a := ⟨w1.heap.size, 0, none⟩) (by simp [Value.ownBlock]; omega) u).stored k (.bool (seenAt l at_ k && oldTo l at_ (k + 1)))).1
        have hki : (k : Int) < (n : Int) := by omega
        have hbl := hbx.lt
        obtain ⟨so, hso⟩ : ∃ so, so = oldTo l at_ k := ⟨_, rfl⟩
        obtain ⟨ss, hss⟩ : ∃ ss, ss = seenAt l at_ k := ⟨_, rfl⟩
        obtain ⟨sq, hsq⟩ : ∃ sq, sq = seqAt l k := ⟨_, rfl⟩
        obtain ⟨sk, hsk⟩ : ∃ sk, sk = kindAt l k := ⟨_, rfl⟩
        rw [← hso] at hbx
        rw [← hss] at c2
        rw [← hsq] at c0
        rw [← hsk] at c1
        have HO := Lib.hid (oldTo_succ l at_ k)
        rw [← hso, ← hss, ← hsk] at HO
        rw [← hss] at hst
        have HS := Lib.hid (keptCur_succ l at_ k)
        rw [← hss] at HS
        have Hst := Lib.hid hst
        clear hso hss hsq hsk hst
        have hgs : g < wr.heap.size := by have := hb.size; have := hB.size; omega
        have c2s : ((wr.setCell ⟨w1.heap.size, 0, none⟩ (.bool (olderFrom so ss sk))).alloc (.cells #[.int .u64 sq, .int .i64 sk] 105)).cell? ⟨g, k, none⟩ = some (.bool ss) := by
          rw [cell_old _ _ (by simpa using hgs), World.cell?_setCell_other _ _ _ _ (fun e => hgne (by injection e with e; exact e.symm))]; exact c2
        have f2s : ((wr.setCell ⟨w1.heap.size, 0, none⟩ (.bool (olderFrom so ss sk))).alloc (.cells #[.int .u64 sq, .int .i64 sk] 105)).frozen? ⟨g, k, none⟩ = false := by
          rw [World.frozen?_alloc_past _ _ _ (by simpa using hgs), World.frozen?_setCell]; exact f2
        go_wp2_with fail
        go_region_with (go_at_call 42; refine (keeps_any sq sk ss so w1.heap.size _ (by exact hbx)).mono ?_; rintro e w' ⟨rfl, rfl⟩)
        all_goals
          go_wp2
          go_roundw
          case rel =>
            refine ⟨k + 1, by omega, by go_num, ?_, ?_, ((((hB.setCell (p := ⟨w1.heap.size, 0, none⟩) hw1 _).setCell (p := ⟨g, k, none⟩) hg _).alloc (by simp; exact hB.size) _).drew)⟩
            · rw [HO.out]; exact (Boxed.far (hbx.set _) (p := ⟨g, k, none⟩) (fun e => hgne e.symm) _).alloc _
            · rw [HS.out, List.map_set, HO.out]
              have := Hst.out (.bool (olderFrom so ss sk))
              rw [HO.out] at this
              exact this.alloc _
          case measure => simp [intOf]; omega
      · obtain rfl : k = n := by omega
        have H1 := H1.out
        rw [hn] at H1
        rw [H1] at hrow
        clear H1
        go_wp2
        go_ret
        exact ⟨_, rfl, hrow, hB⟩
end Go.Proofs.Ytkkhojealihghaa.Sn
