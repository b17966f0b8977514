/- Package edit: the reader's edit, whatever the kind. For every bytes. -/
import Derived.Test.YtedjolkkidciiaaEd4k1
import Derived.Test.YtedjolkkidciiaaEd4k2
import Derived.Test.YtedjolkkidciiaaEd4k3
import Derived.Test.YtedjolkkidciiaaEd4k4
import Derived.Test.YtedjolkkidciiaaEd4k5
import Derived.Test.YtedjolkkidciiaaEd4k6
import Derived.Deep.CutRange
namespace Go.Proofs.Ytedjolkkidciiaa
open Go.RowKit
attribute [local go_sem] Oper.semAt_some

set_option maxRecDepth 100000 in
set_option maxHeartbeats 4000000 in
theorem edit_nil (B r : Nat) (w : World) (h : Stands w B r []) (hB : B ≤ r) : Calls Try.prog 26 #[.pointer (some ⟨r, 0, none⟩)] w (RetEd w r (rdEd [])) := by
  have k0 := (Kept.refl r w).alloc (.cells #[.int .i64 0, .string ⟨#[]⟩, .int .u64 0, .int .u32 0, .slice none 0 0] 28)
  have s0 := h.alloc hB (.cells #[.int .i64 0, .string ⟨#[]⟩, .int .u64 0, .int .u32 0, .slice none 0 0] 28)
  go_enter Try.func26, Try.ntmps26
  go_upto_region 1 with (fail)
  generalize w.alloc (.cells #[.int .i64 0, .string ⟨#[]⟩, .int .u64 0, .int .u32 0, .slice none 0 0] 28) = w0 at *
  have N := Lib.hid (text_any 1 [] B r w0 s0 hB)
  rw [show rdText 1 [] = .error 4 from rfl] at N
  go_wp2_with fail
  refine N.out.mono ?_
  rintro e w1 ⟨rfl, g1⟩
  exact ⟨rfl, by rw [rdEd_nil]; exact ⟨rfl, kept_grown.1 (k0.go g1)⟩⟩

set_option maxRecDepth 100000 in
set_option maxHeartbeats 4000000 in
theorem edit_bad (c : UInt8) (hc : isKind (c.toNat : Int) = false) (l1 : List UInt8) (B r : Nat) (w : World) (h : Stands w B r (c :: l1)) (hB : B ≤ r) :
    Calls Try.prog 26 #[.pointer (some ⟨r, 0, none⟩)] w (RetEd w r (rdEd (c :: l1))) := by
  rw [rdBad hc]
  have k0 := (Kept.refl r w).alloc (.cells #[.int .i64 0, .string ⟨#[]⟩, .int .u64 0, .int .u32 0, .slice none 0 0] 28)
  have s0 := h.alloc hB (.cells #[.int .i64 0, .string ⟨#[]⟩, .int .u64 0, .int .u32 0, .slice none 0 0] 28)
  obtain ⟨n, hn⟩ : ∃ n, n = c.toNat := ⟨_, rfl⟩
  have hn8 : n < 256 := by rw [hn]; exact c.toNat_lt
  have hidx : ∀ W, (Instr.index 9 (.string ⟨([c] : List UInt8).toArray⟩) (.int .i64 0)).run Try.prog W = .ok (.int .u8 (n : Int)) W := fun W => by
    have := run_index_string (P := Try.prog) (w := W) 9 ⟨([c] : List UInt8).toArray⟩ .i64 0 Try.underlying9
    rw [this]
    show Result.ok (Value.int .u8 (c.toNat : Int)) W = _
    rw [hn]
  rw [← hn] at hc
  have HIX := Lib.hid hidx
  have PA := fun W => Lib.hid (parts_any (n : Int) W)
  rw [hc] at PA
  clear hidx hn
  go_enter Try.func26, Try.ntmps26
  go_upto_region 1 with (fail)
  generalize w.alloc (.cells #[.int .i64 0, .string ⟨#[]⟩, .int .u64 0, .int .u32 0, .slice none 0 0] 28) = w0 at *
  have N := Lib.hid (text_any 1 (c :: l1) B r w0 s0 hB)
  rw [show rdText 1 (c :: l1) = .ok ([c], l1) by unfold rdText; rw [if_neg (by simp)]; rfl] at N
  go_wp2_with fail
  refine N.out.mono ?_
  rintro e w1 ⟨rfl, s1, g1⟩
  have k1 := (k0.go g1).alloc (.cells #[.int .i64 (n : Int), .string ⟨#[]⟩, .int .u64 0, .int .u32 0, .slice none 0 0] 28)
  have hidx := HIX.out w1
  go_wp2_with fail
  refine (PA _).out.mono ?_
  rintro e w3 ⟨rfl, b3⟩
  have k3 := (k1.below (b3.mono k1.2.2.2.1)).alloc (.cells (hasV (n : Int)) 67)
  have hhv : hasV (n : Int) = #[.bool (hasSeq (n : Int)), .bool (hasName (n : Int)), .bool (hasId (n : Int)), .bool (hasSeals (n : Int))] := rfl
  rw [hhv] at k3 ⊢
  clear hidx hc
  generalize hasSeq (n : Int) = b1 at *
  generalize hasName (n : Int) = b2 at *
  generalize hasId (n : Int) = b4 at *
  generalize hasSeals (n : Int) = b5 at *
  clear hhv
  go_wp2_with fail
  exact ⟨rfl, rfl, kept_grown.1 k3⟩

theorem edit_any (l : List UInt8) (B r : Nat) (w : World) (h : Stands w B r l) (hB : B ≤ r) : Calls Try.prog 26 #[.pointer (some ⟨r, 0, none⟩)] w (RetEd w r (rdEd l)) := by
  cases l with
  | nil => exact edit_nil B r w h hB
  | cons c l =>
    by_cases h1 : c.toNat = 1
    · exact edit_k1 c h1 l B r w h hB
    by_cases h2 : c.toNat = 2
    · exact edit_k2 c h2 l B r w h hB
    by_cases h3 : c.toNat = 3
    · exact edit_k3 c h3 l B r w h hB
    by_cases h4 : c.toNat = 4
    · exact edit_k4 c h4 l B r w h hB
    by_cases h5 : c.toNat = 5
    · exact edit_k5 c h5 l B r w h hB
    by_cases h6 : c.toNat = 6
    · exact edit_k6 c h6 l B r w h hB
    exact edit_bad c (by unfold isKind; simp; omega) l B r w h hB
end Go.Proofs.Ytedjolkkidciiaa
