/- What the law EditReads comes to: true. -/
import Derived.Test.YtedjolkkidciiaaEdR5
import Derived.Test.YtedjolkkidciiaaEdR7
import Derived.Test.YtedjolkkidciiaaEdFLaw
import Derived.Test.YtedjolkkidciiaaEd11
namespace Go.Proofs.Ytedjolkkidciiaa
open Go.RowKit
attribute [local go_sem] Oper.semAt_some

theorem getE_fits (l : List UInt8) : (getE l).1.fits := by
  unfold getE
  cases h : rdEd l with
  | error e => exact ⟨by show 0 < _; decide, by show 0 < _; decide, by show 0 ≤ _; decide, fun s hs => by cases hs⟩
  | ok d => exact (rdEd_is h).1
theorem getE_seals (l : List UInt8) : (getE l).1.seals.length ≤ 1000000 := by
  unfold getE
  cases h : rdEd l with
  | error e => show 0 ≤ _; omega
  | ok d => have := (mayEd_bounds (rdEd_is h).2.1).2; show d.seals.length ≤ _; omega

set_option maxRecDepth 100000 in
set_option maxHeartbeats 8000000 in
theorem reads_walk (l0 : List UInt8) (A : Option Addr) (n c : Nat) (w : World) (hnc : n ≤ c) (r : Rd w w.heap.size 1 A n (bcells l0)) :
    Calls Try.prog 3 #[.slice A n c] w fun e w' => e = .returned (.bool true) ∧ Below w.heap.size w w' := by
  have hmx := r.2.1
  unfold maxLen at hmx
  have hlen' : l0.length = n := by have := r.1; rw [bcells_len] at this; omega
  obtain ⟨m, hm⟩ : ∃ m, m = min n 3000 := ⟨_, rfl⟩
  have r2 : Rd w w.heap.size 1 A m (bcells (l0.take m)) := r.btake (by omega)
  have hmin : min (n : Int) 3000 = (m : Int) := by omega
  have hm0 : m ≤ 3000 := by omega
  have hmc : m ≤ c := by omega
  have hni : (n : Int) ≤ 9223372036854775807 := by omega
  have hmi : (m : Int) ≤ (c : Int) := by omega
  generalize l0.take m = l at *
  have R2 := Lib.hid r2
  have OW := Lib.hid (rown_any l A m c w r2 (by omega))
  have G2 := fun W (h : Below w.heap.size w W) => Lib.hid (rgetE_any l A m c W hmc ((r2.below h (Nat.le_refl _)).more h.size))
  clear r r2 hm hlen' hmx hnc
  go_enter Try.func3, Try.ntmps3
  go_wp2_with fail
  refine OW.out.mono ?_
  rintro e w1 ⟨v1, rfl, o1, b1⟩
  obtain ⟨A1, c1, rfl, hc1⟩ := own_cap o1
  have r1 := Rd.of_own o1
  have G1 := Lib.hid (getEd_any l A1 m c1 w1 hc1 r1)
  have HB := Lib.hid b1
  have R1 := Lib.hid r1
  clear OW o1 b1 r1
  go_wp2_with fail
  refine G1.out.mono ?_
  rintro e w2 ⟨v2, rfl, o2, b2⟩
  have hf := getE_fits l
  have hs := getE_seals l
  obtain ⟨g, hg⟩ : ∃ g, g = getE l := ⟨_, rfl⟩
  rw [← hg] at o2 hf hs ⊢
  have HG := Lib.hid hg
  clear hg
  obtain ⟨d, ge⟩ := g
  dsimp only at o2 hf hs ⊢
  obtain ⟨A2, c2, rfl, hc2⟩ := own_cap o2
  obtain ⟨X, hX⟩ : ∃ X, X = edC d ⟨d.name.toArray⟩ (.slice A2 d.seals.length c2) := ⟨_, rfl⟩
  have hsz : X.size = 5 := by rw [hX]; rfl
  have hoz : X.all (·.oneCell') = true := by rw [hX]; simp [edC, Value.oneCell']
  rw [← hX]
  have RS := Lib.hid (Rd.of_own o2)
  have HB := Lib.hid (belowGo HB.out b2)
  have R1 := Lib.hid (R1.out.after b2)
  have HX := Lib.hid hX
  have HF := Lib.hid hf
  have HS := Lib.hid hs
  clear G1 o2 b2 hc2 hX hf hs
  have qn := Blk.new w2 28 #[.int .i64 0, .string ⟨#[]⟩, .int .u64 0, .int .u32 0, .slice none 0 0]
  have bz := row_below (belowAlloc (Below.refl w2.heap.size w2) (.cells #[.int .i64 0, .string ⟨#[]⟩, .int .u64 0, .int .u32 0, .slice none 0 0] 28)) (Nat.le_refl _) X
  have QX := Lib.hid (qn.row X)
  have QN := Lib.hid qn
  have RS := Lib.hid (RS.out.after bz)
  have HB := Lib.hid (belowGo HB.out bz)
  have R1 := Lib.hid (R1.out.after bz)
  obtain ⟨g2, hg2⟩ : ∃ g, g = w2.heap.size := ⟨_, rfl⟩
  clear qn bz
  go_upto_region 4 with (first
    | (refine wpList_storeB rfl 28 (.tmp 4) (.tmp 18) rfl rfl rfl QN.out (by rw [hsz]; kernel_rfl) (by rw [hsz]; rfl) hoz ?_)
    | fail)
  generalize (w2.alloc (.cells #[.int .i64 0, .string ⟨#[]⟩, .int .u64 0, .int .u32 0, .slice none 0 0] 28)).setRow w2.heap.size X = w3 at *
  rw [← hg2] at QX ⊢
  clear QN hg2
  have G2 := G2 w3 HB.out
  go_wp2_with fail
  refine G2.out.mono ?_
  rintro e w4 ⟨v4, rfl, o4, b4⟩
  rw [← HG.out] at o4 ⊢
  dsimp only at o4 ⊢
  obtain ⟨A4, c4, rfl, hc4⟩ := own_cap o4
  obtain ⟨Y, hY⟩ : ∃ Y, Y = edC d ⟨d.name.toArray⟩ (.slice A4 d.seals.length c4) := ⟨_, rfl⟩
  have hsy : Y.size = 5 := by rw [hY]; rfl
  have hoy : Y.all (·.oneCell') = true := by rw [hY]; simp [edC, Value.oneCell']
  rw [← hY]
  have RT := Lib.hid (Rd.of_own o4)
  have HB := Lib.hid (belowGo HB.out b4)
  have R1 := Lib.hid (R1.out.after b4)
  have RS := Lib.hid (RS.out.after b4)
  have QX := Lib.hid (QX.out.after b4)
  have HY := Lib.hid hY
  clear G2 o4 b4 hc4 hY
  have qn := Blk.new w4 32 #[.int .i64 0, .string ⟨#[]⟩, .int .u64 0, .int .u32 0, .slice none 0 0]
  have bz := row_below (belowAlloc (Below.refl w4.heap.size w4) (.cells #[.int .i64 0, .string ⟨#[]⟩, .int .u64 0, .int .u32 0, .slice none 0 0] 32)) (Nat.le_refl _) Y
  have QY := Lib.hid (qn.row Y)
  have QN := Lib.hid qn
  have RS := Lib.hid (RS.out.after bz)
  have RT := Lib.hid (RT.out.after bz)
  have HB := Lib.hid (belowGo HB.out bz)
  have R1 := Lib.hid (R1.out.after bz)
  have QX := Lib.hid (QX.out.after bz)
  obtain ⟨g4, hg4⟩ : ∃ g, g = w4.heap.size := ⟨_, rfl⟩
  clear qn bz
  go_upto_region 5 with (first
    | (refine wpList_storeB rfl 32 (.tmp 6) (.tmp 23) rfl rfl rfl QN.out (by rw [hsy]; kernel_rfl) (by rw [hsy]; rfl) hoy ?_)
    | fail)
  generalize (w4.alloc (.cells #[.int .i64 0, .string ⟨#[]⟩, .int .u64 0, .int .u32 0, .slice none 0 0] 32)).setRow w4.heap.size Y = w5 at *
  rw [← hg4] at QY ⊢
  clear QN hg4
  have SM := Lib.hid (rsame_any d d HF.out HF.out A2 d.seals.length c2 A4 d.seals.length c4 w5 rfl rfl RS.out RT.out HS.out)
  rw [← HX.out, ← HY.out, decide_eq_true rfl] at SM
  go_wp2_with (first
    | (refine wpList_value rfl (exec_load_blk rfl rfl QX.out Try.underlying28 rfl (by rw [hsz]; kernel_rfl)) ?_)
    | (refine wpList_value rfl (exec_load_blk rfl rfl QY.out Try.underlying32 rfl (by rw [hsy]; kernel_rfl)) ?_)
    | fail)
  refine SM.out.mono ?_
  rintro e w6 ⟨rfl, b6⟩
  have hb := belowGo HB.out b6
  have E1 := Lib.hid (equal_any l l A1 m c1 A m c w6 (R1.out.after b6) (R2.out.below hb (Nat.le_refl _)))
  rw [show (l == l) = true by simp] at E1
  clear SM b6
  go_wp2_with fail
  refine E1.out.mono ?_
  rintro e w7 ⟨rfl, rfl⟩
  go_wp2_with fail
  refine (wakes_any _).mono ?_
  rintro e w8 ⟨rfl, b8⟩
  have hb := belowGo hb b8
  go_wp2_with fail
  exact bodyPost_ret (results_tmp rfl _ _ _) rfl ⟨rfl, hb⟩
end Go.Proofs.Ytedjolkkidciiaa
