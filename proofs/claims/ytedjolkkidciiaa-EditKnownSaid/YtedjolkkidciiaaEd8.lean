/- Package edit: May. For every edit. -/
import Derived.Test.YtedjolkkidciiaaEd8k1
import Derived.Test.YtedjolkkidciiaaEd8k2
import Derived.Test.YtedjolkkidciiaaEd8k3
import Derived.Test.YtedjolkkidciiaaEd8k4
import Derived.Test.YtedjolkkidciiaaEd8k5
import Derived.Test.YtedjolkkidciiaaEd8k6
namespace Go.Proofs.Ytedjolkkidciiaa
open Go.RowKit
attribute [local go_sem] Oper.semAt_some

/-- an edit as Go holds it -/
def Ed.fits (d : Ed) : Prop := d.seq < 18446744073709551616 ∧ d.id < 4294967296 ∧ d.name.length ≤ 1000000000000 ∧ ∀ s ∈ d.seals, s.fits
set_option maxRecDepth 100000 in
set_option maxHeartbeats 4000000 in
theorem mayE_bad (k : Int) (hk : isKind k = false) (S : ByteArray) (seq id : Nat) (A : Option Addr) (n c : Nat) (w : World) :
    Calls Try.prog 17 #[.agg #[.int .i64 k, .string S, .int .u64 (seq : Int), .int .u32 (id : Int), .slice A n c]] w fun e w' => e = .returned (.bool false) ∧ Below w.heap.size w w' := by
  have b1 := (Below.refl w.heap.size w).alloc (Nat.le_refl _) (.cells #[.int .i64 k, .string S, .int .u64 (seq : Int), .int .u32 (id : Int), .slice A n c] 28)
  have PA := fun W => Lib.hid (parts_any k W)
  rw [hk] at PA
  go_enter Try.func17, Try.ntmps17
  go_wp2_with fail
  refine (PA _).out.mono ?_
  rintro e w2 ⟨rfl, b2⟩
  have hb := belowAlloc (belowGo b1 b2) (.cells (hasV k) 67)
  have hhv : hasV k = #[.bool (hasSeq k), .bool (hasName k), .bool (hasId k), .bool (hasSeals k)] := rfl
  rw [hhv] at hb ⊢
  generalize hasSeq k = b1 at *
  generalize hasName k = b2 at *
  generalize hasId k = b4 at *
  generalize hasSeals k = b5 at *
  clear hhv hk
  go_wp2_with fail
  exact bodyPost_ret (results_tmp rfl _ _ _) rfl ⟨rfl, hb⟩
theorem mayEd_bad {d : Ed} (h : isKind d.kind = false) : mayEd d = false := by unfold mayEd; rw [h]; rfl
theorem mayEd_any (d : Ed) (hd : d.fits) (A : Option Addr) (n c : Nat) (w : World) (hn : d.seals.length = n) (hr : Rd w w.heap.size 5 A n (slCells d.seals)) (hnc : n ≤ c) :
    Calls Try.prog 17 #[.agg (edC d ⟨d.name.toArray⟩ (.slice A n c))] w fun e w' => e = .returned (.bool (mayEd d)) ∧ Below w.heap.size w w' := by
  obtain ⟨k, nm, seq, id, sl⟩ := d
  obtain ⟨h1, h2, h3, h4⟩ := hd
  show Calls Try.prog 17 #[.agg #[.int .i64 k, .string ⟨nm.toArray⟩, .int .u64 (seq : Int), .int .u32 (id : Int), .slice A n c]] w _
  by_cases k1 : k = 1
  · subst k1; exact mayE_k1 nm _ rfl seq id sl A n c w hn h1 h2 h3 h4 hr hnc
  by_cases k2 : k = 2
  · subst k2; exact mayE_k2 nm _ rfl seq id sl A n c w hn h1 h2 h3 h4 hr hnc
  by_cases k3 : k = 3
  · subst k3; exact mayE_k3 nm _ rfl seq id sl A n c w hn h1 h2 h3 h4 hr hnc
  by_cases k4 : k = 4
  · subst k4; exact mayE_k4 nm _ rfl seq id sl A n c w hn h1 h2 h3 h4 hr hnc
  by_cases k5 : k = 5
  · subst k5; exact mayE_k5 nm _ rfl seq id sl A n c w hn h1 h2 h3 h4 hr hnc
  by_cases k6 : k = 6
  · subst k6; exact mayE_k6 nm _ rfl seq id sl A n c w hn h1 h2 h3 h4 hr hnc
  have hk : isKind k = false := by unfold isKind; simp; omega
  rw [mayEd_bad (d := ⟨k, nm, seq, id, sl⟩) hk]
  exact mayE_bad k hk _ seq id A n c w
end Go.Proofs.Ytedjolkkidciiaa
