/- Chapter 10's statements: knows, HeadKnown. -/
import Derived.Test.YtbkolnfcmhlmoaaDoorHeadLaw
import Derived.Test.YtbkolnfcmhlmoaaDoorConv
namespace Go.Proofs.YtbkolnfcmhlmoaaDoor
open Go.RowKit

def RetP (w : World) (n : Nat) (l : List UInt8) (code : Int) (e : Ending) (w' : World) : Prop := ∃ v, e = .returned (.tuple #[v, .int .i64 code]) ∧ w'.ownsRow w.heap.size 5 1 v n (bcells l) ∧ Below w.heap.size w w'
theorem putH_no (k : Int) (id : Nat) (I : Int) (hI : I = id) (hid : id < 4294967296) (hm : mayH k id = false) (w : World) (hT : Tab w) : Calls Tryd.prog 6 #[.int .i64 k, .int .u32 I] w (RetP w 0 [] 1) := by
  have h := putH_any k id hid w hT
  rw [headP_len] at h
  unfold headP at h
  rw [hm] at h
  subst hI
  exact h
theorem putH_yes (k : Int) (id : Nat) (I : Int) (hI : I = id) (hid : id < 4294967296) (hm : mayH k id = true) (w : World) (hT : Tab w) : Calls Tryd.prog 6 #[.int .i64 k, .int .u32 I] w (RetP w 16 (headB k id) 0) := by
  have h := putH_any k id hid w hT
  rw [headP_len] at h
  unfold headP at h
  rw [hm] at h
  subst hI
  exact h
theorem checkH_at (l : List UInt8) (A : Option Addr) (n c : Nat) (k : Int) (id : Nat) (I Z : Int) (hI : I = id) (w : World) (hT : Tab w) (hnc : n ≤ c) (h : Rd w w.heap.size 1 A n (bcells l)) (hZ : (chkH l k id : Int) = Z) :
    Calls Tryd.prog 10 #[.slice A n c, .int .i64 k, .int .u32 I] w fun e w' => e = .returned (.int .i64 Z) ∧ Below w.heap.size w w' := by
  subst hI; subst hZ
  exact checkH_any l A n c k id w hT hnc h

set_option maxRecDepth 10000 in
set_option maxHeartbeats 1000000 in
theorem knows_any (w : World) (hT : Tab w) : Calls Tryd.prog 12 #[] w fun e w' => e = .returned (.bool true) ∧ Below w.heap.size w w' := by
  have H1 := Lib.hid (putH_yes 1 258 258 rfl (by decide) (by decide) w hT)
  have e12 : (headB 1 258).take 12 = [104, 111, 117, 114, 98, 107, 49, 1, 2, 1, 0, 0] := by
    unfold headB coverC
    rw [List.take_append_of_le_length (by rw [headF_len]; exact Nat.le_refl _), List.take_of_length_le (by rw [headF_len]; exact Nat.le_refl _)]
    decide
  generalize headB 1 258 = B at *
  have HG := fun A W hT' h => Lib.hid (getH_any (List.replicate 16 0) A 16 16 W hT' (by omega) h)
  have eG : headGet (List.replicate 16 0) = (0, 0, 23) := by
    unfold headGet isH
    rw [if_neg (by decide), show mayH (((List.replicate 16 (0 : UInt8)).getD 7 0).toNat : Int) (numLE ((List.drop 8 (List.replicate 16 (0 : UInt8))).take 4)) = false by decide]
    rfl
  rw [eG] at HG
  unfold RetHead at HG
  have E12 := Lib.hid e12
  clear eG e12
  go_enter Tryd.func12, Tryd.ntmps12
  go_wp2_with fail
  refine H1.out.mono ?_
  rintro e w1 ⟨v1, rfl, o1, b1⟩
  obtain ⟨g1, c1, rfl, hc1, _⟩ := own_ptr o1 (by omega)
  have r1 := own_rd o1
  have hT1 := hT.after b1
  clear H1 o1
  have hMk : ∀ W : World, (Instr.makeSlice 23 (.int .i64 16) (.int .i64 16)).run Tryd.prog W = .ok (.slice (some ⟨W.heap.size, 0, none⟩) 16 16) (W.alloc (.cells (madeCells #[.int .u8 0] 16) 5)) := fun W =>
    run_make_rowN (P := Tryd.prog) 23 5 ((Tryd.prog.info? 5).get!) (.int .u8 0) Tryd.underlying23 (by kernel_rfl) (by kernel_rfl) .i64 .i64 16 16 (Nat.le_refl _) (by show 1 * 16 ≤ _; omega) (by omega) W
  go_wp2_with fail
  have o2 := own_made w1 w1.heap.size 5 (.int .u8 0) 16 (Nat.le_refl _) (by unfold maxLen; omega)
  have o2 : (w1.alloc (.cells (madeCells #[.int .u8 0] 16) 5)).ownsRow w1.heap.size 5 1 (.slice (some ⟨w1.heap.size, 0, none⟩) 16 16) 16 (bcells (List.replicate 16 0)) := o2
  have r2 := own_rd o2
  have r1 := r1.allocs (.cells (madeCells #[.int .u8 0] 16) 5)
  have hT2 := hT1.alloc (.cells (madeCells #[.int .u8 0] 16) 5)
  have hb := belowAlloc b1 (.cells (madeCells #[.int .u8 0] 16) 5)
  clear hMk o2 b1
  generalize w1.alloc (.cells (madeCells #[.int .u8 0] 16) 5) = w2 at *
  refine (HG _ _ hT2 r2).out.mono ?_
  rintro e w3 ⟨rfl, b3⟩
  have hb := belowGo hb b3
  have r1 := (r1.after b3).btake (k := 12) (by omega)
  rw [E12.out] at r1
  have f1 : ∀ c, (convert 23 9 (.slice (some ⟨g1, 0, none⟩) 12 c)).run Tryd.prog w3 = .ok (.string ⟨#[104, 111, 117, 114, 98, 107, 49, 1, 2, 1, 0, 0]⟩) w3 := fun c =>
    run_conv (P := Tryd.prog) Tryd.underlying23 Tryd.underlying5 Tryd.underlying9 c r1
  have i1 : (12 : Int) ≤ (c1 : Int) := by omega
  have i2 : 12 ≤ c1 := by omega
  have e1 : ((⟨#[104, 111, 117, 114, 98, 107, 49, 1, 2, 1, 0, 0]⟩ : ByteArray) == ⟨#[104, 111, 117, 114, 98, 107, 49, 1, 2, 1, 0, 0]⟩) = true := by decide +kernel
  clear HG r2 b3 r1
  go_wp2_with fail
  go_ret
  exact ⟨rfl, hb⟩

set_option maxRecDepth 10000 in
set_option maxHeartbeats 1000000 in
theorem known_walk (w : World) (hT : Tab w) : Calls Tryd.prog 5 #[] w fun e w' => e = .returned (.bool true) ∧ Below w.heap.size w w' := by
  have P1 := fun W h => Lib.hid (putH_no 0 0 0 rfl (by decide) (by decide) W h)
  have P2 := fun W h => Lib.hid (putH_no 3 1 1 rfl (by decide) (by decide) W h)
  have P3 := fun W h => Lib.hid (putH_no 1 0 0 rfl (by decide) (by decide) W h)
  have P4 := fun W h => Lib.hid (putH_no 1 16777216 16777216 rfl (by decide) (by decide) W h)
  have P5 := fun W h => Lib.hid (putH_no 2 1 1 rfl (by decide) (by decide) W h)
  have P6 := fun W h => Lib.hid (putH_no (-255) 1 1 rfl (by decide) (by decide) W h)
  have P7 := fun W h => Lib.hid (putH_yes 2 0 0 rfl (by decide) (by decide) W h)
  have G1 : headGet (headB 2 0) = (2, 0, 0) := by have := headGet_put (k := 2) (id := 0) (by decide) []; rwa [List.append_nil] at this
  have C1 := fun W h => Lib.hid (checkH_at [] none 0 0 2 0 0 22 rfl W h (Nat.le_refl _) (Rd.nil_ _ _ _ _) (by decide))
  have C2 := fun A c W h hnc r => Lib.hid (checkH_at (headB 2 0) A 16 c 2 0 0 0 rfl W h hnc r (by unfold chkH; rw [G1]; decide))
  have C3 := fun A c W h hnc r => Lib.hid (checkH_at (headB 2 0) A 16 c 1 0 0 23 rfl W h hnc r (by unfold chkH; rw [G1]; decide))
  clear G1
  generalize headB 2 0 = B at *
  have hb := Below.refl w.heap.size w
  go_enter Tryd.func5, Tryd.ntmps5
  go_wp2_with fail
  refine (P1 _ hT).out.mono ?_
  rintro e x1 ⟨v1, rfl, o1, b⟩
  obtain ⟨A1, c1, rfl, _⟩ := own_cap o1
  clear o1 P1
  have hT := hT.after b
  have hb := belowGo hb b
  clear b
  go_wp2_with fail
  refine (P2 _ hT).out.mono ?_
  rintro e x2 ⟨v2, rfl, o2, b⟩
  obtain ⟨A2, c2, rfl, _⟩ := own_cap o2
  clear o2 P2
  have hT := hT.after b
  have hb := belowGo hb b
  clear b
  go_wp2_with fail
  refine (P3 _ hT).out.mono ?_
  rintro e x3 ⟨v3, rfl, o3, b⟩
  obtain ⟨A3, c3, rfl, _⟩ := own_cap o3
  clear o3 P3
  have hT := hT.after b
  have hb := belowGo hb b
  clear b
  go_wp2_with fail
  refine (P4 _ hT).out.mono ?_
  rintro e x4 ⟨v4, rfl, o4, b⟩
  obtain ⟨A4, c4, rfl, _⟩ := own_cap o4
  clear o4 P4
  have hT := hT.after b
  have hb := belowGo hb b
  clear b
  go_wp2_with fail
  refine (P5 _ hT).out.mono ?_
  rintro e x5 ⟨v5, rfl, o5, b⟩
  obtain ⟨A5, c5, rfl, _⟩ := own_cap o5
  clear o5 P5
  have hT := hT.after b
  have hb := belowGo hb b
  clear b
  go_wp2_with fail
  refine (P6 _ hT).out.mono ?_
  rintro e x6 ⟨v6, rfl, o6, b⟩
  obtain ⟨A6, c6, rfl, _⟩ := own_cap o6
  clear o6 P6
  have hT := hT.after b
  have hb := belowGo hb b
  clear b
  go_wp2_with fail
  refine (P7 _ hT).out.mono ?_
  rintro e x7 ⟨v7, rfl, o7, b⟩
  obtain ⟨g7, c7, rfl, hc7, _⟩ := own_ptr o7 (by omega)
  have r7 := own_rd o7
  clear o7 P7
  have hT := hT.after b
  have hb := belowGo hb b
  clear b
  go_wp2_with fail
  refine (C1 _ hT).out.mono ?_
  rintro e y1 ⟨rfl, b⟩
  have hT := hT.after b
  have r7 := r7.after b
  have hb := belowGo hb b
  clear b C1
  go_wp2_with fail
  refine (C2 _ _ _ hT hc7 r7).out.mono ?_
  rintro e y2 ⟨rfl, b⟩
  have hT := hT.after b
  have r7 := r7.after b
  have hb := belowGo hb b
  clear b C2
  go_wp2_with fail
  refine (C3 _ _ _ hT hc7 r7).out.mono ?_
  rintro e y3 ⟨rfl, b⟩
  have hT := hT.after b
  have hb := belowGo hb b
  clear b C3 r7
  go_wp2_with fail
  refine (knows_any _ hT).mono ?_
  rintro e y4 ⟨rfl, b⟩
  go_wp2_with fail
  go_ret
  exact ⟨rfl, belowGo hb b⟩
end Go.Proofs.YtbkolnfcmhlmoaaDoor
