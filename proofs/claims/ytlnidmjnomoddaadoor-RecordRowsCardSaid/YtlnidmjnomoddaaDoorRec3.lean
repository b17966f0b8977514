/- Package record: Put. For every record; the tables as they are laid. -/
import Derived.Test.YtlnidmjnomoddaaDoorRec2
namespace Go.Proofs.YtlnidmjnomoddaaDoor
open Go.RowKit

set_option maxRecDepth 10000 in
set_option maxHeartbeats 1000000 in
theorem putR_yes (q k : Nat) (a b : List UInt8) (A : Option Addr) (n c : Nat) (B : Option Addr) (m d : Nat) (s o : Nat) (w : World) (hT : TabR w) (hm : mayR q (k : Int) n m s o = true)
    (ha : Rd w w.heap.size 1 A n (bcells a)) (hb : Rd w w.heap.size 1 B m (bcells b)) :
    Calls Tryd.prog 14 #[recV q (k : Int) (.slice A n c) (.slice B m d) s o] w (RetFixed w 5 (25 + n + m) (bcells (runR q k a b s o)) 0) := by
  have hla := ha.1
  have hlb := hb.1
  rw [bcells_len, Nat.mul_one] at hla hlb
  obtain ⟨h1, h2, h3, h4, h5, h6, h7, h8, h9⟩ := mayR_bounds hm
  have hk : 0 < k ∧ k ≤ 2 := by omega
  have HM := fun W => Lib.hid (mayR_any q (k : Int) A n c B m d s o W (by omega))
  rw [hm] at HM
  have hfit : ∀ j : Nat, j < 6 → numR (numsR q k n m s o) j < 2 ^ (8 * sizeC j) := fun j hj => numR_fits hm hj
  have hfx : ∀ j : Nat, j < 6 → fixedB (partR (numsR q k n m s o) j) (numR (numsR q k n m s o) j) ((sizeC j : Nat) : Int) = partR (numsR q k n m s o) (j + 1) := fun j hj => fixedB_part hj (hfit j hj)
  have hid6 : ∀ j : Nat, j < 6 → ∀ W, (Instr.index 56 (.agg #[.int .u64 (k : Int), .int .u64 (n : Int), .int .u64 (m : Int), .int .u64 (q : Int), .int .u64 (s : Int), .int .u64 (o : Int)]) (.int .i64 (j : Int))).run Tryd.prog W = .ok (.int .u64 ((numR (numsR q k n m s o) j : Nat) : Int)) W := fun j hj W => idx6 k n m q s o hj W
  have hrun : runR q k a b s o = coverC (coverC (partR (numsR q k n m s o) 6) ++ a ++ b) := by unfold runR headR; rw [hla, hlb]
  rw [hrun]
  have hpl : ∀ j : Nat, j ≤ 6 → (partR (numsR q k n m s o) j).length = lenP j := fun j hj => partR_len _ j hj
  have hf64 : ∀ j : Nat, j < 6 → numR (numsR q k n m s o) j < 18446744073709551616 := fun j hj => by
    have h := hfit j hj
    have := (sizeC_in hj).2
    have h2 : (2 : Nat) ^ (8 * sizeC j) ≤ 2 ^ 64 := Nat.pow_le_pow_right (by omega) (by omega)
    omega
  generalize numsR q k n m s o = L at *
  clear hrun h7 h1 hfit
  unfold recV at *
  have q0 := Blk.new w 28 #[.int .u64 (q : Int), .int .i64 (k : Int), .slice A n c, .slice B m d, .int .u32 (s : Int), .int .u32 (o : Int)]
  have b0 := (Below.refl w.heap.size w).alloc (Nat.le_refl _) (.cells #[.int .u64 (q : Int), .int .i64 (k : Int), .slice A n c, .slice B m d, .int .u32 (s : Int), .int .u32 (o : Int)] 28)
  have hT := hT.alloc (.cells #[.int .u64 (q : Int), .int .i64 (k : Int), .slice A n c, .slice B m d, .int .u32 (s : Int), .int .u32 (o : Int)] 28)
  have ha := ha.allocs (.cells #[.int .u64 (q : Int), .int .i64 (k : Int), .slice A n c, .slice B m d, .int .u32 (s : Int), .int .u32 (o : Int)] 28)
  have hb := hb.allocs (.cells #[.int .u64 (q : Int), .int .i64 (k : Int), .slice A n c, .slice B m d, .int .u32 (s : Int), .int .u32 (o : Int)] 28)
  go_enter Tryd.func14, Tryd.ntmps14
  go_wp2_with fail
  refine (HM _).out.mono ?_
  rintro e w1 ⟨rfl, b1⟩
  clear HM
  have q1 := q0.after b1
  have ha := ha.after b1
  have hb := hb.after b1
  have hT := hT.after b1
  have bw := b0.trans (b1.mono b0.size)
  obtain ⟨g, hg⟩ : ∃ g, g = w.heap.size := ⟨_, rfl⟩
  have hgw : w.heap.size ≤ g := by omega
  rw [← hg] at q1 ⊢
  clear hg b1 b0 q0
  have c0 := q1.cell 0
  have c1 := q1.cell 1
  have c2 := q1.cell 2
  have c3 := q1.cell 3
  have c4 := q1.cell 4
  have c5 := q1.cell 5
  go_wp2_with fail
  have o0 : w1.ownsRow w1.heap.size 5 1 (.slice none 0 0) 0 [] := World.ownsRow_nil _ _ _ _
  go_loopw [4, 33] (fun v i wr => ∃ j : Nat, j ≤ 6 ∧ i = .int .i64 (j : Int) ∧ wr.ownsRow w1.heap.size 5 1 v (lenP j) (bcells (partR L j)) ∧ Below w1.heap.size w1 wr) (fun _ i _ => 6 - (intOf i).toNat)
  case atStart => exact ⟨0, by omega, rfl, o0, Below.refl _ _⟩
  case round =>
    obtain ⟨j, hj, rfl, ho, hbr⟩ := hrel
    have hsz := hbr.size
    by_cases hlt : j < 6
    · have hid := hid6 j hlt
      obtain ⟨A4, c4', rfl, hc4⟩ := own_cap ho
      have hr := own_rd ho
      have hTr := hT.after hbr
      have cs := hTr.2.2 j hlt
      have hx64 := hf64 j hlt
      have HF := Lib.hid (fixed_any (partR L j) A4 (lenP j) c4' (numR L j) hx64 ((sizeC j : Nat) : Int) wr hr (by have := lenP_le hj; omega))
      have e2 : fixedE (numR L j) ((sizeC j : Nat) : Int) = 0 ∨ True := .inr trivial
      rw [hfx j hlt, hpl (j + 1) (by omega)] at HF
      generalize fixedE (numR L j) ((sizeC j : Nat) : Int) = fe at *
      generalize numR L j = x at *
      generalize sizeC j = sj at *
      clear e2 hid6 hf64 hfx hpl
      go_wp2_with fail
      refine HF.out.mono ?_
      rintro e w2 ⟨v2, rfl, o2, b2⟩
      clear HF
      go_wp2_with fail
      go_roundw
      case rel => exact ⟨j + 1, by omega, by go_num, own_low o2 hsz, hbr.trans (b2.mono hsz)⟩
      case measure => simp [intOf]; omega
    · obtain rfl : j = 6 := by omega
      obtain ⟨g4, c4', rfl, hc4, _⟩ := own_ptr ho (by decide)
      have hr := own_rd ho
      have hTr := hT.after hbr
      have hlen : lenP 6 = 17 := rfl
      rw [hlen] at hr hc4 ⊢
      have HC := Lib.hid (cover_any (partR L 6) (some ⟨g4, 0, none⟩) 17 c4' wr hTr.1 hr (by omega))
      have hp6 : (partR L 6).length = 17 := hpl 6 (by omega)
      have hcl : (coverC (partR L 6)).length = 21 := by rw [coverC_len, hp6]
      have HC2 := fun l A n c W hT' h h' => Lib.hid (cover_any l A n c W hT' h h')
      have q2 := q1.after hbr
      have ha2 := ha.after hbr
      have hb2 := hb.after hbr
      have bw2 := bw.trans (hbr.mono bw.size)
      generalize partR L 6 = P6 at *
      have HCL := Lib.hid hcl
      clear hlen hp6 hcl hid6 hf64 hfx hpl c0 c1 c2 c3 c4 c5 q1 ha hb ho o0 hT
      go_wp2_with fail
      refine HC.out.mono ?_
      rintro e w3 ⟨v3, rfl, o3, b3⟩
      clear HC
      have q3 := q2.after b3
      have ha3 := ha2.below b3 (Nat.le_refl _)
      have hb3 := hb2.below b3 (Nat.le_refl _)
      have bw3 := bw2.trans (b3.mono bw2.size)
      have hgl := q2.lt
      have hTr3 := hTr.after b3
      go_wp2_with fail
      have o3 : w3.ownsRow wr.heap.size 5 1 v3 21 (bcells (coverC P6)) := o3
      have hcur : Below wr.heap.size w3 w3.drew := ⟨rfl, rfl, rfl, Nat.le_refl _, fun _ _ => rfl⟩
      have hs3 : wr.heap.size ≤ w3.heap.size := b3.size
      refine wp_region_plan (fun W => Below wr.heap.size w3 W) [.calms [0, 1, 4], .read 2, .read 5, .act 3, .act 6, .act 7, .calms [8, 9]] (by kernel_rfl) (by rfl) (by kernel_rfl) (by kernel_rfl) hcur ?_
      have o4 : w3.drew.ownsRow wr.heap.size 5 1 v3 21 (bcells (coverC P6)) := o3
      have hs4 : wr.heap.size ≤ w3.drew.heap.size := hs3
      generalize w3.drew = w4 at *
      clear o3
      refine plan_calms (by simp [calmRow, need]; rfl) ?_
      go_wp2_with fail
      refine plan_read (by rfl) (.slice A n c) (by rfl) (fun W hW => exec_load rfl rfl (by kernel_rfl) ((q3.below hW hgl).cell 2)) ?_
      refine plan_read (by rfl) (.slice B m d) (by rfl) (fun W hW => exec_load rfl rfl (by kernel_rfl) ((q3.below hW hgl).cell 3)) ?_
      refine plan_act (by rfl) ?_
      refine wpList_app eltU8 rfl (.tmp 49) (.tmp 51) rfl rfl o4 rfl (ha3.below hcur (Nat.le_refl _)) (bcells_one a) (by omega) (by unfold maxLen; omega) hcur hs4 ?_
      intro v5 w5 o5 c5 x1 x2
      clear x1 x2
      refine plan_next c5 ?_
      have hs5 : wr.heap.size ≤ w5.heap.size := Nat.le_trans hs3 c5.size
      refine plan_last (by rfl) (by kernel_rfl) ?_
      refine wpList_app eltU8 rfl (.tmp 52) (.tmp 54) rfl rfl o5 rfl (hb3.below c5 (Nat.le_refl _)) (bcells_one b) (by omega) (by unfold maxLen; omega) c5 hs5 ?_
      intro v6 w6 o6 c6 x1 x2
      clear x1 x2
      refine plan_done (plan_last (by rfl) (by kernel_rfl) ?_)
      rw [← bcells_append, ← bcells_append] at o6
      obtain ⟨g6, c6', rfl, hc6, _⟩ := own_ptr o6 (by omega)
      have r6 := own_rd o6
      have hT6 : TabR w6 := hTr3.below c6 hTr.1.1 hTr.2.1
      have HC := HC2 _ _ _ c6' _ hT6.1 r6 (by omega)
      go_wp2_with fail
      refine HC.out.mono ?_
      rintro e w7 ⟨v7, rfl, o7, b7⟩
      clear HC HC2
      have bw6 := bw3.trans (c6.mono bw2.size)
      have e7 : 21 + n + m + 4 = 25 + n + m := by omega
      rw [e7] at o7
      go_wp2_with fail
      refine plan_calms (by simp [calmRow, need]; rfl) ?_
      go_wp2_with fail
      refine plan_end ?_
      go_wp2_with fail
      go_ret2
      exact ⟨_, rfl, own_low o7 bw6.size, bw6.trans (b7.mono bw6.size)⟩

set_option maxRecDepth 10000 in
theorem putR_no (q : Nat) (k : Int) (A : Option Addr) (n c : Nat) (B : Option Addr) (m d : Nat) (s o : Nat) (w : World) (hn : n ≤ 9223372036854775807) (hm : mayR q k n m s o = false) :
    Calls Tryd.prog 14 #[recV q k (.slice A n c) (.slice B m d) s o] w (RetFixed w 5 0 [] 1) := by
  have HM := fun W => Lib.hid (mayR_any q k A n c B m d s o W hn)
  rw [hm] at HM
  clear hm
  unfold recV at *
  have q0 := Blk.new w 28 #[.int .u64 (q : Int), .int .i64 k, .slice A n c, .slice B m d, .int .u32 (s : Int), .int .u32 (o : Int)]
  have b0 := (Below.refl w.heap.size w).alloc (Nat.le_refl _) (.cells #[.int .u64 (q : Int), .int .i64 k, .slice A n c, .slice B m d, .int .u32 (s : Int), .int .u32 (o : Int)] 28)
  go_enter Tryd.func14, Tryd.ntmps14
  go_wp2_with fail
  refine (HM _).out.mono ?_
  rintro e w1 ⟨rfl, b1⟩
  clear HM
  go_wp2_with fail
  go_ret2
  exact ⟨_, rfl, World.ownsRow_nil _ _ _ _, b0.trans (b1.mono b0.size)⟩
end Go.Proofs.YtlnidmjnomoddaaDoor
