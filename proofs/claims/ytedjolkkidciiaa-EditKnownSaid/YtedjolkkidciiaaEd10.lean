/- Package edit: Put. For every edit. -/
import Derived.Test.YtedjolkkidciiaaEd10k1
import Derived.Test.YtedjolkkidciiaaEd10k2
import Derived.Test.YtedjolkkidciiaaEd10k3
import Derived.Test.YtedjolkkidciiaaEd10k4
import Derived.Test.YtedjolkkidciiaaEd10k5
import Derived.Test.YtedjolkkidciiaaEd10k6
namespace Go.Proofs.Ytedjolkkidciiaa
open Go.RowKit
attribute [local go_sem] Oper.semAt_some

/-- what Put tells -/
def putB (d : Ed) : List UInt8 := if mayEd d then edB d else []
def RetPutE (w : World) (d : Ed) (e : Ending) (w' : World) : Prop :=
  ∃ v, e = .returned (.tuple #[v, .int .i64 (if mayEd d then 0 else 1)]) ∧ w'.ownsRow w.heap.size 5 1 v (putB d).length (bcells (putB d)) ∧ Below w.heap.size w w'
set_option maxRecDepth 100000 in
set_option maxHeartbeats 4000000 in
theorem putEd_no (d : Ed) (hd : d.fits) (A : Option Addr) (n c : Nat) (w : World) (hn : d.seals.length = n) (hr : Rd w w.heap.size 5 A n (slCells d.seals)) (hnc : n ≤ c) (hm : mayEd d = false) :
    Calls Try.prog 15 #[.agg (edC d ⟨d.name.toArray⟩ (.slice A n c))] w (RetPutE w d) := by
  obtain ⟨E, hE⟩ : ∃ E, E = edC d ⟨d.name.toArray⟩ (.slice A n c) := ⟨_, rfl⟩
  have hsz : E.size = 5 := by rw [hE]; rfl
  have b1 := (Below.refl w.heap.size w).alloc (Nat.le_refl _) (.cells E 28)
  have q1 := Blk.new w 28 E
  have HM := mayEd_any d hd A n c (w.alloc (.cells E 28)) hn ((hr.below b1 (Nat.le_refl _)).more b1.size) hnc
  rw [hm, ← hE] at HM
  rw [← hE]
  have hz1 : putB d = [] := by unfold putB; rw [hm]; rfl
  have hz2 : (if mayEd d then (0 : Int) else 1) = 1 := by rw [hm]; rfl
  have HZ1 := Lib.hid hz1
  have HZ2 := Lib.hid hz2
  have HMM := Lib.hid HM
  clear HM hm hE hz1 hz2
  go_enter Try.func15, Try.ntmps15
  go_upto_region 1 with (fail)
  generalize w.alloc (.cells E 28) = w1 at *
  have Q1 := Lib.hid q1
  go_wp2_with (first | (refine wpList_value rfl (exec_load_blk rfl rfl Q1.out Try.underlying28 rfl (by rw [hsz]; kernel_rfl)) ?_) | fail)
  refine HMM.out.mono ?_
  rintro e w2 ⟨rfl, b2⟩
  have hb := belowGo b1 b2
  go_wp2_with fail
  refine bodyPost_ret (results_tmp2 rfl) rfl ⟨.slice none 0 0, by rw [HZ2.out]; rfl, ?_, hb⟩
  rw [HZ1.out]
  exact World.ownsRow_nil _ _ _ _
theorem retPut_yes {w : World} {d : Ed} (hm : mayEd d = true) {e : Ending} {w' : World} (h : RetPut w (edB d) e w') : RetPutE w d e w' := by
  obtain ⟨v, rfl, ho, hb⟩ := h
  refine ⟨v, by rw [hm]; rfl, ?_, hb⟩
  unfold putB
  rw [hm]
  exact ho
theorem kind_of {d : Ed} (hm : mayEd d = true) : d.kind = 1 ∨ d.kind = 2 ∨ d.kind = 3 ∨ d.kind = 4 ∨ d.kind = 5 ∨ d.kind = 6 := by
  have : isKind d.kind = true := by
    cases h : isKind d.kind with
    | true => rfl
    | false => rw [mayEd_bad h] at hm; cases hm
  unfold isKind at this
  simp at this
  omega
theorem putEd_any (d : Ed) (hd : d.fits) (A : Option Addr) (n c : Nat) (w : World) (hn : d.seals.length = n) (hr : Rd w w.heap.size 5 A n (slCells d.seals)) (hnc : n ≤ c) :
    Calls Try.prog 15 #[.agg (edC d ⟨d.name.toArray⟩ (.slice A n c))] w (RetPutE w d) := by
  cases hm : mayEd d with
  | false => exact putEd_no d hd A n c w hn hr hnc hm
  | true =>
    have hk := kind_of hm
    refine Calls.mono ?_ fun e w' h => retPut_yes hm h
    obtain ⟨k, nm, seq, id, sl⟩ := d
    dsimp only at hk
    rcases hk with rfl | rfl | rfl | rfl | rfl | rfl
    · exact putE_k1 nm _ rfl seq id sl A n c w hn hd hr hnc hm
    · exact putE_k2 nm _ rfl seq id sl A n c w hn hd hr hnc hm
    · exact putE_k3 nm _ rfl seq id sl A n c w hn hd hr hnc hm
    · exact putE_k4 nm _ rfl seq id sl A n c w hn hd hr hnc hm
    · exact putE_k5 nm _ rfl seq id sl A n c w hn hd hr hnc hm
    · exact putE_k6 nm _ rfl seq id sl A n c w hn hd hr hnc hm
end Go.Proofs.Ytedjolkkidciiaa
