/- Chapter 10: HeadTells. -/
import Derived.Test.YtbkolnfcmhlmoaaDoorHeadR2
namespace Go.Proofs.YtbkolnfcmhlmoaaDoor
open Go.RowKit

set_option maxRecDepth 10000 in
set_option maxHeartbeats 1000000 in
theorem tells_walk (k : Int) (id : Nat) (hid : id < 4294967296) (l : List UInt8) (A : Option Addr) (n c : Nat) (w : World) (hT : Tab w) (hnc : n ≤ c) (h : Rd w w.heap.size 1 A n (bcells l)) :
    Calls Tryd.prog 3 #[.int .i64 k, .int .u32 (id : Int), .slice A n c] w fun e w' => e = .returned (.bool true) ∧ Below w.heap.size w w' := by
  have hln := h.1
  have hmx := h.2.1
  unfold maxLen at hmx
  rw [bcells_len, Nat.mul_one] at hln
  obtain ⟨q, hq⟩ : ∃ q, q = min n 40 := ⟨_, rfl⟩
  have hqn : q ≤ n := by omega
  have hM : min (n : Int) 40 = (q : Int) := by omega
  have ht := h.btake (k := q) hqn
  obtain ⟨m, hm⟩ : ∃ m, m = l.take q := ⟨_, rfl⟩
  rw [← hm] at ht
  have i1 : (q : Int) ≤ (c : Int) := by omega
  have i2 : q ≤ c := by omega
  obtain ⟨P, hP⟩ : ∃ P, P = headP k id := ⟨_, rfl⟩
  have H1 := Lib.hid (putH_any k id hid w hT)
  have H2 := fun W => Lib.hid (rputH_any k id hid W)
  rw [← hP] at H1 H2
  obtain ⟨cd, hcd⟩ : ∃ cd : Nat, cd = (if mayH k id then 0 else 1) := ⟨_, rfl⟩
  rw [← hcd] at H1 H2
  have H3 := fun W hT' r => Lib.hid (getH_any m A q c W hT' i2 r)
  have H4 := fun W r => Lib.hid (rgetH_any m A q c W i2 r)
  have H5 := fun W hT' r => Lib.hid (checkH_any m A q c k id W hT' i2 r)
  have H6 := fun W r => Lib.hid (rcheckH_any m A q c k id W i2 r)
  unfold RetHead at H3 H4
  generalize headGet m = G at *
  obtain ⟨gk, gi, ge⟩ := G
  simp only at H3 H4
  generalize chkH m k id = Z at *
  generalize hPl : P.length = pl at *
  have HPL := Lib.hid hPl
  clear hPl hcd hP hm hq hqn
  go_enter Tryd.func3, Tryd.ntmps3
  go_wp2_with fail
  refine H1.out.mono ?_
  rintro e w1 ⟨v1, rfl, o1, b1⟩
  obtain ⟨A1, c1, rfl, _⟩ := own_cap o1
  have r1 := own_rd o1
  have ht := ht.after b1
  have hT := hT.after b1
  have hb := b1
  clear o1 H1 b1 h
  go_wp2_with fail
  refine (H2 _).out.mono ?_
  rintro e w2 ⟨v2, rfl, o2, b2⟩
  obtain ⟨A2, c2, rfl, _⟩ := own_cap o2
  have r2 := own_rd o2
  have ht := ht.after b2
  have r1 := r1.after b2
  have hT := hT.after b2
  have hb := belowGo hb b2
  clear o2 H2 b2
  go_wp2_with fail
  refine (H3 _ hT ht).out.mono ?_
  rintro e w3 ⟨rfl, b3⟩
  have ht := ht.after b3
  have r1 := r1.after b3
  have r2 := r2.after b3
  have hT := hT.after b3
  have hb := belowGo hb b3
  clear H3 b3
  go_wp2_with fail
  refine (H4 _ ht).out.mono ?_
  rintro e w4 ⟨rfl, b4⟩
  have ht := ht.after b4
  have r1 := r1.after b4
  have r2 := r2.after b4
  have hT := hT.after b4
  have hb := belowGo hb b4
  clear H4 b4
  have f1 : (convert 23 9 (.slice A1 pl c1)).run Tryd.prog w4 = .ok (.string ⟨P.toArray⟩) w4 := run_conv (P := Tryd.prog) Tryd.underlying23 Tryd.underlying5 Tryd.underlying9 c1 r1
  have f2 : (convert 23 9 (.slice A2 pl c2)).run Tryd.prog w4 = .ok (.string ⟨P.toArray⟩) w4 := run_conv (P := Tryd.prog) Tryd.underlying23 Tryd.underlying5 Tryd.underlying9 c2 r2
  generalize (⟨P.toArray⟩ : ByteArray) = S at *
  clear r1 r2
  go_wp2_with fail
  refine (H5 _ hT ht).out.mono ?_
  rintro e w5 ⟨rfl, b5⟩
  have ht := ht.after b5
  have hT := hT.after b5
  have hb := belowGo hb b5
  clear H5 b5
  go_wp2_with fail
  refine (H6 _ ht).out.mono ?_
  rintro e w6 ⟨rfl, b6⟩
  have hT := hT.after b6
  have hb := belowGo hb b6
  clear H6 b6
  go_wp2_with fail
  refine (knows_any _ hT).mono ?_
  rintro e w7 ⟨rfl, b7⟩
  go_wp2_with fail
  go_ret
  exact ⟨rfl, belowGo hb b7⟩
end Go.Proofs.YtbkolnfcmhlmoaaDoor
