/- What the law EditSeals comes to: true. -/
import Derived.Test.YtedjolkkidciiaaEdSLaw
import Derived.Test.YtedjolkkidciiaaEdSame
namespace Go.Proofs.Ytedjolkkidciiaa
open Go.RowKit
attribute [local go_sem] Oper.semAt_some

theorem rd_one (w : World) (s : Sl) : Rd (w.alloc (.cells s.cells.toArray 40)) (w.alloc (.cells s.cells.toArray 40)).heap.size 5 (some ⟨w.heap.size, 0, none⟩) 1 (slCells [s]) := by
  have q := Blk.new w 40 s.cells.toArray
  exact ⟨rfl, by unfold maxLen; omega, fun _ => ⟨w.heap.size, 0, rfl, q.lt, fun j u hu => by rw [Nat.zero_add, q.cell j, List.getElem?_toArray, ← hu]; rfl⟩⟩

theorem own_eq2 {w : World} {base n n' size : Nat} {e : TypeId} {v : Value} {xs xs' : List Value} (h : Ow w base e size v n xs) (hn : n = n') (hx : xs = xs') : Ow w base e size v n' xs' := by subst hn; subst hx; exact h
theorem fitsK (k : Int) (seq : Nat) (l : List Sl) (hs : seq < 18446744073709551616) (hl : ∀ s ∈ l, s.fits) : (Ed.mk k [] seq 0 l).fits := ⟨hs, by show 0 < 4294967296; decide, by show 0 ≤ 1000000000000; decide, hl⟩

set_option maxRecDepth 100000 in
set_option maxHeartbeats 8000000 in
theorem seals_walk (i0 i1 i2 i3 i4 : Nat) (hs : (Sl.mk i0 i1 i2 i3 i4).fits) (ah be : Nat) (w : World) :
    Calls Try.prog 4 #[.agg #[.int .u32 (i0 : Int), .int .u32 (i1 : Int), .int .u32 (i2 : Int), .int .u64 (i3 : Int), .int .u64 (i4 : Int)], .int .u8 (ah : Int), .int .u8 (be : Int)] w fun e w' => e = .returned (.bool true) ∧ Below w.heap.size w w' := by
  have q0 := Blk.new w 40 #[.int .u32 (i0 : Int), .int .u32 (i1 : Int), .int .u32 (i2 : Int), .int .u64 (i3 : Int), .int .u64 (i4 : Int)]
  have hb := belowAlloc (Below.refl w.heap.size w) (.cells #[.int .u32 (i0 : Int), .int .u32 (i1 : Int), .int .u32 (i2 : Int), .int .u64 (i3 : Int), .int .u64 (i4 : Int)] 40)
  have f5 : (Ed.mk 5 [] 0 0 [(Sl.mk i0 i1 i2 i3 i4)]).fits := fitsK _ 0 _ (by decide) fun s h => by rw [List.mem_singleton.1 h]; exact hs
  have f6 : (Ed.mk 6 [] 0 0 [(Sl.mk i0 i1 i2 i3 i4)]).fits := fitsK _ 0 _ (by decide) fun s h => by rw [List.mem_singleton.1 h]; exact hs
  have MS := fun W => Lib.hid (maySl_any (Sl.mk i0 i1 i2 i3 i4) hs W)
  have HS := Lib.hid hs
  have F5 := Lib.hid f5
  have F6 := Lib.hid f6
  clear f5 f6 hs
  go_enter Try.func4, Try.ntmps4
  go_upto_region 1 with (fail)
  generalize w.alloc (.cells #[.int .u32 (i0 : Int), .int .u32 (i1 : Int), .int .u32 (i2 : Int), .int .u64 (i3 : Int), .int .u64 (i4 : Int)] 40) = w1 at *
  have Q0 := Lib.hid q0
  have HB := Lib.hid hb
  have P1 := Lib.hid (put_gen ⟨5, [], 0, 0, [(Sl.mk i0 i1 i2 i3 i4)]⟩ F5.out #[.int .i64 5, .string ⟨#[]⟩, .int .u64 0, .int .u32 0, .slice (some ⟨w1.heap.size, 0, none⟩) 1 1] (some ⟨w1.heap.size, 0, none⟩) 1 1 rfl _ rfl (rd_one w1 (Sl.mk i0 i1 i2 i3 i4)) (Nat.le_refl _))
  have ba := belowAlloc (Below.refl w1.heap.size w1) (.cells #[.int .u32 (i0 : Int), .int .u32 (i1 : Int), .int .u32 (i2 : Int), .int .u64 (i3 : Int), .int .u64 (i4 : Int)] 40)
  have BA := Lib.hid ba
  clear q0 hb ba
  go_wp2_with (first
    | (refine wpList_value rfl (exec_load_blk rfl rfl Q0.out Try.underlying40 rfl (by kernel_rfl)) ?_)
    | fail)
  refine P1.out.mono ?_
  rintro e w2 ⟨v1, rfl, o1, b1⟩
  obtain ⟨k1, hk1⟩ : ∃ k, k = (if mayEd ⟨5, [], 0, 0, [(Sl.mk i0 i1 i2 i3 i4)]⟩ = true then (0 : Int) else 1) := ⟨_, rfl⟩
  rw [← hk1]
  rw [may5] at hk1
  have K1 := Lib.hid hk1
  clear hk1
  have b1 : Below w1.heap.size w1 w2 := belowGo BA.out b1
  have Q0 := Lib.hid (Q0.out.after b1)
  have HB := Lib.hid (belowGo HB.out b1)
  have M1 := MS w2
  obtain ⟨A1, c1, rfl, hj1⟩ := own_cap o1
  have O1 := Lib.hid (Rd.of_own o1)
  clear P1 BA b1 MS o1
  go_wp2_with (first
    | (refine wpList_value rfl (exec_load_blk rfl rfl Q0.out Try.underlying40 rfl (by kernel_rfl)) ?_)
    | fail)
  refine M1.out.mono ?_
  rintro e w3 ⟨rfl, b3⟩
  have Q0 := Lib.hid (Q0.out.after b3)
  have HB := Lib.hid (belowGo HB.out b3)
  have O1 := Lib.hid (O1.out.after b3)
  clear M1 b3
  cases hm : maySl (Sl.mk i0 i1 i2 i3 i4) with
  | false =>
    rw [hm, if_neg (show ¬ false = true by decide)] at K1
    have e1 := K1.out
    subst e1
    have P2 := Lib.hid (put_gen ⟨6, [], 0, 0, [(Sl.mk i0 i1 i2 i3 i4)]⟩ F6.out #[.int .i64 6, .string ⟨#[]⟩, .int .u64 0, .int .u32 0, .slice (some ⟨w3.heap.size, 0, none⟩) 1 1] (some ⟨w3.heap.size, 0, none⟩) 1 1 rfl _ rfl (rd_one w3 (Sl.mk i0 i1 i2 i3 i4)) (Nat.le_refl _))
    have BA := Lib.hid (belowAlloc (Below.refl w3.heap.size w3) (.cells #[.int .u32 (i0 : Int), .int .u32 (i1 : Int), .int .u32 (i2 : Int), .int .u64 (i3 : Int), .int .u64 (i4 : Int)] 40))
    have HM := Lib.hid hm
    clear hm hj1 O1 K1
    go_wp2_with (first
      | (refine wpList_value rfl (exec_load_blk rfl rfl Q0.out Try.underlying40 rfl (by kernel_rfl)) ?_)
      | fail)
    refine P2.out.mono ?_
    rintro e w4 ⟨v2, rfl, o2, b4⟩
    rw [may6one, HM.out, if_neg (show ¬ false = true by decide)]
    have hb := belowGo HB.out (belowGo BA.out b4)
    clear o2 b4 BA P2 Q0
    go_wp2_with fail
    refine (wakes_any _).mono ?_
    rintro e w5 ⟨rfl, b5⟩
    have hb := belowGo hb b5
    go_wp2_with fail
    exact bodyPost_ret (results_tmp rfl _ _ _) rfl ⟨rfl, hb⟩
  | true =>
    rw [hm, if_pos rfl] at K1
    have e1 := K1.out
    subst e1
    have m5 : mayEd ⟨5, [], 0, 0, [(Sl.mk i0 i1 i2 i3 i4)]⟩ = true := by rw [may5, hm]
    have pb : putB ⟨5, [], 0, 0, [(Sl.mk i0 i1 i2 i3 i4)]⟩ = edB ⟨5, [], 0, 0, [(Sl.mk i0 i1 i2 i3 i4)]⟩ := by unfold putB; rw [m5]; rfl
    have ge : getE (edB ⟨5, [], 0, 0, [(Sl.mk i0 i1 i2 i3 i4)]⟩) = (⟨5, [], 0, 0, [(Sl.mk i0 i1 i2 i3 i4)]⟩, 0) := by unfold getE; rw [rdEd_put F5.out m5]
    have o1 := O1.out
    rw [pb] at o1 hj1
    have hmi := maySl_iff.1 hm
    dsimp only at hmi
    have G1 := Lib.hid (getEd_any (edB ⟨5, [], 0, 0, [(Sl.mk i0 i1 i2 i3 i4)]⟩) A1 (edB ⟨5, [], 0, 0, [(Sl.mk i0 i1 i2 i3 i4)]⟩).length c1 w3 hj1 o1)
    rw [pb]
    have GE := Lib.hid ge
    have HM := Lib.hid hm
    clear hm hj1 O1 K1 pb ge o1 m5 F6
    generalize edB ⟨5, [], 0, 0, [(Sl.mk i0 i1 i2 i3 i4)]⟩ = l1 at *
    go_wp2_with fail
    refine G1.out.mono ?_
    rintro e w4 ⟨v2, rfl, o2, b4⟩
    rw [GE.out] at o2
    rw [GE.out]
    have o2 : Ow w4 w3.heap.size 40 5 v2 1 (slCells [(Sl.mk i0 i1 i2 i3 i4)]) := o2
    obtain ⟨g2, c2, rfl, hk2, hg2⟩ := own_ptr o2 (by omega)
    rw [show edC (Ed.mk 5 [] 0 0 [(Sl.mk i0 i1 i2 i3 i4)], 0).1 ⟨(Ed.mk 5 [] 0 0 [(Sl.mk i0 i1 i2 i3 i4)], 0).1.name.toArray⟩ (.slice (some ⟨g2, 0, none⟩) 1 c2) = #[.int .i64 5, .string ⟨#[]⟩, .int .u64 0, .int .u32 0, .slice (some ⟨g2, 0, none⟩) 1 c2] from rfl]
    have r2 := Rd.of_own o2
    have at2 : At w4 g2 0 (Sl.mk i0 i1 i2 i3 i4).cells := fun j v hv => by
      obtain ⟨p, off, e, hp, hc⟩ := r2.2.2 (by omega)
      injection e with e
      injection e with e1 e2
      subst e1; subst e2
      exact hc j v hv
    have lt2 : g2 < w4.heap.size := (r2.2.2 (by omega)).elim fun p h => by obtain ⟨off, e, hp, _⟩ := h; injection e with e; injection e with e1; omega
    have qn := Blk.new w4 28 #[.int .i64 0, .string ⟨#[]⟩, .int .u64 0, .int .u32 0, .slice none 0 0]
    have q4 := qn.row #[.int .i64 5, .string ⟨#[]⟩, .int .u64 0, .int .u32 0, .slice (some ⟨g2, 0, none⟩) 1 c2]
    have bz := row_below (belowAlloc (Below.refl w4.heap.size w4) (.cells #[.int .i64 0, .string ⟨#[]⟩, .int .u64 0, .int .u32 0, .slice none 0 0] 28)) (Nat.le_refl _) #[.int .i64 5, .string ⟨#[]⟩, .int .u64 0, .int .u32 0, .slice (some ⟨g2, 0, none⟩) 1 c2]
    have at2 := at2.after lt2 bz
    have q0 := (Q0.out.after b4).after bz
    have hb := belowGo (belowGo HB.out b4) bz
    have QN := Lib.hid qn
    obtain ⟨g4, e4⟩ : ∃ g, g = w4.heap.size := ⟨_, rfl⟩
    clear G1 o2 b4 bz lt2 hk2 hg2 r2 qn GE Q0 HB F5
    go_upto_region 6 with (first
      | (refine wpList_storeB rfl 28 (.tmp 11) (.tmp 52) rfl rfl rfl QN.out (by kernel_rfl) (by rfl) (by simp [Value.oneCell']) ?_)
      | fail)
    generalize (w4.alloc (.cells #[.int .i64 0, .string ⟨#[]⟩, .int .u64 0, .int .u32 0, .slice none 0 0] 28)).setRow w4.heap.size #[.int .i64 5, .string ⟨#[]⟩, .int .u64 0, .int .u32 0, .slice (some ⟨g2, 0, none⟩) 1 c2] = w5 at *
    rw [← e4] at q4
    rw [← e4]
    clear QN e4
    have EQ := Lib.hid (fun W => (run_equal_seal (Sl.mk i0 i1 i2 i3 i4) (Sl.mk i0 i1 i2 i3 i4) HS.out HS.out W).trans (by rw [decide_eq_true rfl]))
    have Q0 := Lib.hid q0
    have Q4 := Lib.hid q4
    have AT2 := Lib.hid at2
    have HB := Lib.hid hb
    have HMI := Lib.hid hmi
    obtain ⟨nmi1, nmi2⟩ : 1 ≤ i0 ∧ i0 ≤ 16777215 := ⟨hmi.1, hmi.2.1⟩
    have hl : i4 ≤ 1099511627776 := by
      obtain ⟨-, -, -, -, n5, n6⟩ := hmi
      by_cases h : i2 = 0
      · rw [(n5 h).2]; omega
      · exact (n6 h).2.2.1
    clear q0 q4 at2 hb hmi
    go_cut [90] from 54 to 90 (fun v wx => v = .bool false ∧ Below w5.heap.size w5 wx)
    case first =>
      have q0 : Blk w5.drew w.heap.size 40 #[.int .u32 (i0 : Int), .int .u32 (i1 : Int), .int .u32 (i2 : Int), .int .u64 (i3 : Int), .int .u64 (i4 : Int)] := Q0.out
      have q4 : Blk w5.drew g4 28 #[.int .i64 5, .string ⟨#[]⟩, .int .u64 0, .int .u32 0, .slice (some ⟨g2, 0, none⟩) 1 c2] := Q4.out
      have at2 : At w5.drew g2 0 (Sl.mk i0 i1 i2 i3 i4).cells := AT2.out
      have hd : Below w5.heap.size w5 w5.drew := below_of_drewN ⟨1, rfl⟩
      obtain ⟨n1, n2, -, -, n5, n6⟩ := HMI.out
      clear Q0 Q4 AT2 HB HMI
      have HMI := Lib.hid n6
      have Q0 := Lib.hid q0
      have Q4 := Lib.hid q4
      have AT2 := Lib.hid at2
      have HD := Lib.hid hd
      clear q0 q4 at2 n5 n6 hd
      refine wp_region_plan (fun W => W = w5.drew) [.calms [0, 1, 2, 3, 4, 5, 6, 7], .act 8, .calms [9, 10, 11, 12, 13], .read 14, .calms [15], .read 16, .act 17, .act 18, .calms [19, 20, 21], .act 22, .calms [23, 24, 25, 27, 30], .read 26, .read 28, .calms [29], .act 31, .calms [32, 33, 34, 35, 36]] (by kernel_rfl) (by rfl) (by kernel_rfl) (by kernel_rfl) rfl ?_
      refine plan_calms (by simp [calmRow, need, chk]; rfl) ?_
      generalize w5.drew = w6 at *
      go_wp2_with fail
      refine plan_act (by rfl) ?_
      refine wpList_value rfl (exec_load (p := ⟨g4, 4, none⟩) rfl rfl (by kernel_rfl) (Q4.out.cell 4)) ?_
      refine plan_next rfl ?_
      refine plan_calms (by simp [calmRow, need, chk]; rfl) ?_
      go_wp2_with fail
      refine plan_read (by rfl) (.slice (some ⟨g2, 0, none⟩) 1 c2) (by rfl) (fun W hW => by subst hW; exact exec_load (p := ⟨g4, 4, none⟩) rfl rfl (by kernel_rfl) (Q4.out.cell 4)) ?_
      refine plan_calms (by simp [calmRow, need]; rfl) ?_
      go_wp2_with fail
      refine plan_read (by rfl) (.agg (Sl.mk i0 i1 i2 i3 i4).cells.toArray) (by rfl) (fun W hW => by subst hW; exact exec_load_mid rfl rfl AT2.out Try.underlying40 rfl (by kernel_rfl)) ?_
      refine plan_act (by rfl) ?_
      refine wpList_value rfl (exec_load_blk rfl rfl Q0.out Try.underlying40 rfl (by kernel_rfl)) ?_
      refine plan_next rfl ?_
      refine plan_act (by rfl) ?_
      refine wpList_value rfl (exec_bin rfl (run_neq_agg (by kernel_rfl) (EQ.out w6))) ?_
      refine plan_next rfl ?_
      refine plan_calms (by simp [calmRow, need]; rfl) ?_
      go_wp2_with fail
      refine plan_act (by rfl) ?_
      refine wpList_value rfl (exec_load (p := ⟨w.heap.size, 2, none⟩) rfl rfl (by kernel_rfl) (Q0.out.cell 2)) ?_
      refine plan_next rfl ?_
      by_cases hz : i2 = 0
      · have n1 : ¬ 0 < (i2 : Int) := by omega
        have HZ := Lib.hid hz
        clear hz
        have hud : ∀ b : Bool, (some undef = some (Value.bool b)) = False := fun b => by simp [undef]
        refine plan_calms (by simp [calmRow, need, chk]; rfl) ?_
        go_wp2_with fail
        refine plan_skip (by rfl) (by rfl) ?_
        refine plan_skip2 (some 82) (by rfl) (by rfl) (by rfl) ?_
        refine plan_calms (by simp [calmRow, need, chk]; rfl) ?_
        go_wp2_with fail
        refine plan_act (by rfl) ?_
        go_wp2_with fail
        refine ⟨trivial, plan_calms (by simp [calmRow, need, chk]; rfl) ?_⟩
        go_wp2_with fail
        refine plan_end ?_
        go_wp2_with fail
        go_meet
        case rel => exact ⟨rfl, HD.out⟩
      · have n1 : 0 < (i2 : Int) := by omega
        have hnum := HMI.out hz
        have j1 : IntKind.u64.wrap ((i4 : Int) - (i3 : Int)) = ((i4 - i3 : Nat) : Int) := by rw [IntKind.wrap_u64]; omega
        have j2 : IntKind.u64.wrap ((i2 : Int) - 1) = ((i2 - 1 : Nat) : Int) := by rw [IntKind.wrap_u64]; omega
        have j3 : ¬ ((i4 - i3 : Nat) : Int) < ((i2 - 1 : Nat) : Int) := by omega
        refine plan_calms (by simp [calmRow, need, chk]; rfl) ?_
        go_wp2_with fail
        refine plan_read (by rfl) (.int .u64 (i4 : Int)) (by rfl) (fun W hW => by subst hW; exact exec_load (p := ⟨w.heap.size, 4, none⟩) rfl rfl (by kernel_rfl) (Q0.out.cell 4)) ?_
        refine plan_read (by rfl) (.int .u64 (i3 : Int)) (by rfl) (fun W hW => by subst hW; exact exec_load (p := ⟨w.heap.size, 3, none⟩) rfl rfl (by kernel_rfl) (Q0.out.cell 3)) ?_
        refine plan_calms (by simp [calmRow, need, chk]; rfl) ?_
        go_wp2_with fail
        refine plan_act (by rfl) ?_
        refine wpList_value rfl (exec_load (p := ⟨w.heap.size, 2, none⟩) rfl rfl (by kernel_rfl) (Q0.out.cell 2)) ?_
        refine plan_next rfl ?_
        refine plan_calms (by simp [calmRow, need, chk]; rfl) ?_
        go_wp2_with fail
        refine plan_end ?_
        go_wp2_with fail
        go_meet
        case rel => exact ⟨by rw [decide_eq_false (by omega)], HD.out⟩
    case rest =>
    skip
    obtain ⟨rfl, hc⟩ := hcut
    have Q0 := Lib.hid (Q0.out.after hc)
    have HB := Lib.hid (belowGo HB.out hc)
    have QW := Q0
    clear hc Q4 AT2 at2 EQ
    obtain ⟨m1, hm1⟩ : ∃ m, m = ah % 21 := ⟨_, rfl⟩
    obtain ⟨m2, hm2⟩ : ∃ m, m = be % 21 := ⟨_, rfl⟩
    have e1 : (ah : Int) % 21 = (m1 : Int) := by omega
    have e2 : (be : Int) % 21 = (m2 : Int) := by omega
    have lm1 : m1 ≤ 20 := by omega
    have lm2 : m2 ≤ 20 := by omega
    clear hm1 hm2
    go_wp2_with fail
    go_loopw [13, 94] (fun v i wr => ∃ k : Nat, k ≤ m1 ∧ i = .int .u32 (k : Int) ∧ Below wc.heap.size wc wr ∧ Ow wr wc.heap.size 40 5 v (min k (i0 - 1)) (slCells (aheads (min k (i0 - 1))))) (fun _ i _ => m1 - (intOf i).toNat)
    case atStart => exact ⟨0, Nat.zero_le _, rfl, Below.refl _ _, by rw [Nat.zero_min]; exact World.ownsRow_nil _ _ _ _⟩
    case round =>
      obtain ⟨k, hk, rfl, hb, o⟩ := hrel
      have Q0 := Lib.hid (Q0.out.after hb)
      have c0 := Q0.out.cell 0
      by_cases hlt : k < m1
      · have y1 : (k : Int) < (m1 : Int) := by omega
        have y2 : IntKind.u32.wrap ((k : Int) + 1) = ((k + 1 : Nat) : Int) := by rw [IntKind.wrap_u32]; omega
        obtain ⟨A, c, rfl, hcc⟩ := own_cap o
        have O := Lib.hid o
        have HB2 := Lib.hid hb
        clear o hb
        by_cases h0 : k + 1 < i0
        · have y3 : ((k + 1 : Nat) : Int) < (i0 : Int) := by omega
          have e3 : min k (i0 - 1) = k := by omega
          have e4 : min (k + 1) (i0 - 1) = k + 1 := by omega
          rw [e3] at O ⊢
          clear h0 e3
          go_upto_region 14 with (first
            | (at_builtin; refine wpList_push eltSeal rfl (.tmp 102) (.tmp 106) rfl (W := wr) rfl O.out rfl rfl (by simp [Value.oneCell']) (by omega) (by unfold maxLen; omega) HB2.out HB2.out.size ?_; intro v2 w2 o2 b2 x2 y4; have O2 : Hid (Ow _ _ _ _ _ _ _) := Lib.hid o2; have B2 := Lib.hid b2; clear o2 b2 x2 y4)
            | fail)
          go_wp2_with fail
          go_roundw
          case rel =>
            refine ⟨v2, _, _, ⟨k + 1, by omega, rfl, B2.out, ?_⟩, rfl, rfl, by go_num⟩
            exact own_eq2 O2.out (by omega) (by rw [e4, aheads_succ]; unfold slCells; rw [List.flatMap_append]; simp [ahead1, Sl.cells])
          case measure => simp [intOf]; omega
        · have y3 : ¬ ((k + 1 : Nat) : Int) < (i0 : Int) := by omega
          have e4 : min (k + 1) (i0 - 1) = min k (i0 - 1) := by omega
          clear h0
          go_wp2_with fail
          go_roundw
          case rel => exact ⟨k + 1, by omega, by go_num, HB2.out, by rw [e4]; exact O.out⟩
          case measure => simp [intOf]; omega
      · have y1 : ¬ (k : Int) < (m1 : Int) := by omega
        obtain rfl : k = m1 := by omega
        obtain ⟨p, hp⟩ : ∃ p, p = min k (i0 - 1) := ⟨_, rfl⟩
        rw [← hp] at o
        have hp1 : p < i0 := by omega
        have hp2 : p ≤ 20 := by omega
        obtain ⟨A, c, rfl, hcc⟩ := own_cap o
        have O := Lib.hid o
        have HB2 := Lib.hid hb
        clear o hb hlt hp lm1 c0
        have QW' := QW
        go_upto_region 15 with (fail)
        go_wp2_with (first
          | (refine wpList_value rfl (exec_load_blk rfl rfl Q0.out Try.underlying40 rfl (by kernel_rfl)) ?_)
          | (at_builtin; refine wpList_push eltSeal rfl (.tmp 109) (.tmp 111) rfl (W := wr) rfl O.out rfl rfl (by simp [Value.oneCell']) (by omega) (by unfold maxLen; omega) HB2.out HB2.out.size ?_; intro v2 wq o2 b2 x2 y4; have Q0 := Lib.hid (QW.out.after b2); have O2 : Hid (Ow _ _ _ _ _ _ _) := Lib.hid o2; have B2 := Lib.hid b2; clear o2 b2 x2 y4)
          | fail)
        clear O QW Q0 HB2 hcc
        have QW := Lib.hid (QW'.out.after B2.out)
        go_loopw [13, 116] (fun v i wr => ∃ k : Nat, k ≤ m2 ∧ i = .int .u32 (k : Int) ∧ Below wc.heap.size wc wr ∧ Ow wr wc.heap.size 40 5 v (p + 1 + min k (16777215 - i0)) (slCells (sealsOf (Sl.mk i0 i1 i2 i3 i4) p (min k (16777215 - i0))))) (fun _ i _ => m2 - (intOf i).toNat)
        case atStart =>
          refine ⟨0, Nat.zero_le _, rfl, B2.out, ?_⟩
          rw [Nat.zero_min]
          exact own_eq2 O2.out rfl (by unfold sealsOf slCells; rw [List.flatMap_append, List.flatMap_append]; simp [behinds, Sl.cells])
        case round =>
          obtain ⟨k, hk, rfl, hb, o⟩ := hrel
          have Q0 := Lib.hid (QW'.out.after hb)
          have c0 := Q0.out.cell 0
          by_cases hlt : k < m2
          · have y1 : (k : Int) < (m2 : Int) := by omega
            obtain ⟨x, hx⟩ : ∃ x : Nat, x = i0 + k := ⟨_, rfl⟩
            have y5 : IntKind.u32.wrap ((i0 : Int) + (k : Int)) = (x : Int) := by rw [IntKind.wrap_u32]; omega
            have HX := Lib.hid hx
            clear hx
            obtain ⟨A, c, rfl, hcc⟩ := own_cap o
            have O := Lib.hid o
            have HB2 := Lib.hid hb
            clear o hb
            by_cases h0 : i0 + k < 16777215
            · have y3 : (x : Int) < 16777215 := by have := HX.out; omega
              have e3 : min k (16777215 - i0) = k := by omega
              have e4 : min (k + 1) (16777215 - i0) = k + 1 := by omega
              rw [e3] at O ⊢
              clear h0 e3
              go_upto_region 21 with (first
                | (at_builtin; refine wpList_push eltSeal rfl (.tmp 124) (.tmp 134) rfl (W := wr) rfl O.out rfl rfl (by simp [Value.oneCell']) (by omega) (by unfold maxLen; omega) HB2.out HB2.out.size ?_; intro v2 w2 o2 b2 x2 y4; have O2 : Hid (Ow _ _ _ _ _ _ _) := Lib.hid o2; have B2 := Lib.hid b2; clear o2 b2 x2 y4)
                | fail)
              go_wp2_with fail
              go_roundw
              case rel =>
                exact ⟨k + 1, by omega, by go_num, B2.out, own_eq2 O2.out (by omega) (by rw [e4]; unfold sealsOf; rw [behinds_succ]; unfold slCells; simp [behind1, Sl.cells, HX.out])⟩
              case measure => simp [intOf]; omega
            · have y3 : ¬ (x : Int) < 16777215 := by have := HX.out; omega
              have e4 : min (k + 1) (16777215 - i0) = min k (16777215 - i0) := by omega
              clear h0
              go_wp2_with fail
              go_roundw
              case rel => exact ⟨k + 1, by omega, by go_num, HB2.out, by rw [e4]; exact O.out⟩
              case measure => simp [intOf]; omega
          · have y1 : ¬ (k : Int) < (m2 : Int) := by omega
            obtain rfl : k = m2 := by omega
            obtain ⟨q, hq⟩ : ∃ q, q = min k (16777215 - i0) := ⟨_, rfl⟩
            rw [← hq] at o
            have hq1 : i0 + q ≤ 16777215 := by omega
            have hq2 : q ≤ 20 := by omega
            obtain ⟨A, c, rfl, hcc⟩ := own_cap o
            have O := Lib.hid o
            have HB2 := Lib.hid hb
            clear o hb hlt hq lm2 c0 hk
            have hml := (sealsOf_may HM.out hp1 hq1 (by omega : q ≤ 100)).1
            have hln := sealsOf_len (Sl.mk i0 i1 i2 i3 i4) p q
            have hlf := sealsOf_fits HS.out nmi2 (show p ≤ 100 by omega) (show q ≤ 100 by omega)
            obtain ⟨n, hn⟩ : ∃ n, n = p + 1 + q := ⟨_, rfl⟩
            rw [← hn] at O hcc ⊢
            rw [← hn] at hln
            have hn0 : 0 < n := by omega
            have hn1 : n ≤ 60 := by omega
            clear hn
            generalize sealsOf (Sl.mk i0 i1 i2 i3 i4) p q = L at *
            have m7 : mayEd ⟨6, [], i4, 0, L⟩ = true := by rw [may6 _ _ hl (by rw [hln]; omega)]; exact hml
            have f7 : (Ed.mk 6 [] i4 0 L).fits := fitsK _ _ _ (by omega) hlf
            obtain ⟨s0, L0, hL0⟩ : ∃ s0 L0, L = s0 :: L0 := by
              cases L with
              | nil => exact absurd hln (by simp; omega)
              | cons a b => exact ⟨a, b, rfl⟩
            have m8 : mayEd ⟨6, [], 0, 0, L ++ [s0]⟩ = false := by rw [may6 _ _ (by omega) (by rw [List.length_append, hln]; simp; omega), hL0]; exact again_not
            have hs0 : s0.fits := hlf s0 (by rw [hL0]; simp)
            have f8 : (Ed.mk 6 [] 0 0 (L ++ [s0])).fits := fitsK _ _ _ (by omega) (fun s h => by rcases List.mem_append.1 h with h | h; exact hlf s h; rw [List.mem_singleton.1 h]; exact hs0)
            have a0 : L[0]? = some s0 := by rw [hL0]; rfl
            have ge : getE (edB ⟨6, [], i4, 0, L⟩) = (⟨6, [], i4, 0, L⟩, 0) := by unfold getE; rw [rdEd_put f7 m7]
            have pb : putB ⟨6, [], i4, 0, L⟩ = edB ⟨6, [], i4, 0, L⟩ := by unfold putB; rw [m7]; rfl
            have P7 := Lib.hid (put_gen ⟨6, [], i4, 0, L⟩ f7 #[.int .i64 6, .string ⟨#[]⟩, .int .u64 (i4 : Int), .int .u32 0, .slice A n c] A n c rfl wr hln (Rd.of_own O.out) hcc)
            have HLN := Lib.hid hln
            have HLF := Lib.hid hlf
            have M7 := Lib.hid m7
            have M8 := Lib.hid m8
            have F8 := Lib.hid f8
            have A0 := Lib.hid a0
            have HS0 := Lib.hid hs0
            have GE := Lib.hid ge
            have PB := Lib.hid pb
            have HHB := Lib.hid (belowGo HB.out HB2.out)
            have HBC := HB
            have HWC := HB2
            have c4 := Q0.out.cell 4
            clear hml hln hlf m7 f7 hL0 m8 hs0 f8 a0 ge pb hp1 hp2 hq1 hq2 L0
            go_wp2_with fail
            refine P7.out.mono ?_
            rintro e w7 ⟨v7, rfl, o7, b7⟩
            rw [PB.out] at o7
            rw [if_pos M7.out]
            obtain ⟨A7, c7, rfl, hc7⟩ := own_cap o7
            have G7 := Lib.hid (getEd_any (edB ⟨6, [], i4, 0, L⟩) A7 (edB ⟨6, [], i4, 0, L⟩).length c7 w7 hc7 (Rd.of_own o7))
            have O : Hid (Ow _ _ _ _ _ _ _) := Lib.hid (Ow.after O.out b7)
            have HB3 := Lib.hid (belowGo HHB.out b7)
            have HWC := Lib.hid (belowGo HWC.out b7)
            clear P7 o7 b7 PB HHB HB2 Q0 c4 QW QW' B2 O2
            generalize edB ⟨6, [], i4, 0, L⟩ = l7 at *
            go_wp2_with fail
            refine G7.out.mono ?_
            rintro e w8 ⟨v8, rfl, o8, b8⟩
            rw [GE.out] at o8
            rw [GE.out]
            have o8 : Ow w8 w7.heap.size 40 5 v8 L.length (slCells L) := o8
            rw [HLN.out] at o8
            obtain ⟨g8, c8, rfl, hk8, hg8⟩ := own_ptr o8 hn0
            rw [show edC (Ed.mk 6 [] i4 0 L, 0).1 ⟨(Ed.mk 6 [] i4 0 L, 0).1.name.toArray⟩ (.slice (some ⟨g8, 0, none⟩) n c8) = #[.int .i64 6, .string ⟨#[]⟩, .int .u64 (i4 : Int), .int .u32 0, .slice (some ⟨g8, 0, none⟩) n c8] from rfl]
            have qn := Blk.new w8 28 #[.int .i64 0, .string ⟨#[]⟩, .int .u64 0, .int .u32 0, .slice none 0 0]
            have q9 := qn.row #[.int .i64 6, .string ⟨#[]⟩, .int .u64 (i4 : Int), .int .u32 0, .slice (some ⟨g8, 0, none⟩) n c8]
            have bz := row_below (belowAlloc (Below.refl w8.heap.size w8) (.cells #[.int .i64 0, .string ⟨#[]⟩, .int .u64 0, .int .u32 0, .slice none 0 0] 28)) (Nat.le_refl _) #[.int .i64 6, .string ⟨#[]⟩, .int .u64 (i4 : Int), .int .u32 0, .slice (some ⟨g8, 0, none⟩) n c8]
            have O : Hid (Ow _ _ _ _ _ _ _) := Lib.hid (Ow.after (Ow.after O.out b8) bz)
            have O8 : Hid (Ow _ _ _ _ _ _ _) := Lib.hid (Ow.after o8 bz)
            have HB := Lib.hid (belowGo (belowGo HB3.out b8) bz)
            have HWC := Lib.hid (belowGo (belowGo HWC.out b8) bz)
            have QN := Lib.hid qn
            obtain ⟨g9, e9⟩ : ∃ g, g = w8.heap.size := ⟨_, rfl⟩
            clear G7 o8 b8 bz hk8 hg8 qn GE HB3
            go_upto_region 24 with (first
              | (refine wpList_storeB rfl 28 (.tmp 18) (.tmp 148) rfl rfl rfl QN.out (by kernel_rfl) (by rfl) (by simp [Value.oneCell']) ?_)
              | fail)
            generalize (w8.alloc (.cells #[.int .i64 0, .string ⟨#[]⟩, .int .u64 0, .int .u32 0, .slice none 0 0] 28)).setRow w8.heap.size #[.int .i64 6, .string ⟨#[]⟩, .int .u64 (i4 : Int), .int .u32 0, .slice (some ⟨g8, 0, none⟩) n c8] = w9 at *
            rw [← e9] at q9
            rw [← e9]
            clear QN e9
            have c94 := q9.cell 4
            have Q9 := Lib.hid q9
            clear q9
            go_wp2_with fail
            clear c94
            go_loopw [166] (fun i wr => ∃ j : Nat, j ≤ n ∧ i = .int .i64 (j : Int) ∧ Below w9.heap.size w9 wr) (fun i _ => n - (intOf i).toNat)
            case atStart => exact ⟨0, by omega, rfl, Below.refl _ _⟩
            case round =>
              obtain ⟨j, hj, rfl, hb⟩ := hrel
              by_cases hlt : j < n
              · have y1 : (j : Int) < (n : Int) := by omega
                have ra := Rd.of_own O.out
                obtain ⟨pa, oa, rfl, hpa, hca⟩ := ra.2.2 hn0
                have rb := Rd.of_own O8.out
                obtain ⟨pb, ob, eb, hpb, hcb⟩ := rb.2.2 hn0
                injection eb with eb
                injection eb with eb1 eb2
                subst eb1
                subst eb2
                obtain ⟨s, hs⟩ : ∃ s, L[j]? = some s := ⟨L[j]'(by have := HLN.out; omega), List.getElem?_eq_getElem _⟩
                have hsf := HLF.out _ (List.mem_of_getElem? hs)
                have ha := slAt hca hs
                have ha' := slAt hcb hs
                rw [Nat.zero_add] at ha'
                have HA := Lib.hid (fun W (h : Below w9.heap.size w9 W) => ha.after hpa h)
                have HA' := Lib.hid (fun W (h : Below w9.heap.size w9 W) => ha'.after hpb h)
                have EQ := Lib.hid (fun W => (run_equal_seal s s hsf hsf W).trans (by rw [decide_eq_true rfl]))
                have QJ := Lib.hid (fun W (h : Below w9.heap.size w9 W) => Q9.out.after h)
                clear ra rb hca hcb ha ha' hs hsf hpa hpb
                go_upto_region 29 with (fail)
                have hb : Below w9.heap.size w9 wr.drew := ⟨hb.os, hb.tape, hb.output, hb.size, hb.block⟩
                refine wp_region_plan (fun W => Below w9.heap.size w9 W) [.calms [0, 2, 5, 6, 7], .read 1, .calms [3], .read 4, .read 8, .read 9] (by kernel_rfl) (by rfl) (by kernel_rfl) (by kernel_rfl) hb ?_
                refine plan_calms (by simp [calmRow, need]; rfl) ?_
                generalize wr.drew = wd at *
                go_wp2_with fail
                refine plan_read (by rfl) (.slice (some ⟨g8, 0, none⟩) n c8) (by rfl) (fun W hW => exec_load (p := ⟨g9, 4, none⟩) rfl rfl (by kernel_rfl) ((QJ.out W hW).cell 4)) ?_
                refine plan_calms (by simp [calmRow, need]; rfl) ?_
                go_wp2_with fail
                refine plan_read (by rfl) (.agg s.cells.toArray) (by rfl) (fun W hW => exec_load_mid rfl rfl (HA'.out W hW) Try.underlying40 rfl (by kernel_rfl)) ?_
                refine plan_read (by rfl) (.agg s.cells.toArray) (by rfl) (fun W hW => exec_load_mid rfl rfl (HA.out W hW) Try.underlying40 rfl (by kernel_rfl)) ?_
                refine plan_read (by rfl) (.bool !true) (by rfl) (fun W hW => exec_bin rfl (run_neq_agg (by kernel_rfl) (EQ.out W))) ?_
                refine plan_end ?_
                go_wp2_with fail
                go_roundw
                case rel => exact ⟨j + 1, by omega, by go_num, hb⟩
                case measure => simp [intOf]; omega
              · have y1 : ¬ (j : Int) < (n : Int) := by omega
                obtain rfl : j = n := by omega
                have O : Hid (Ow _ _ _ _ _ _ _) := Lib.hid (Ow.after O.out hb)
                have HB := Lib.hid (belowGo HB.out hb)
                have hwc : Below wc.heap.size wc wr := belowGo HWC.out hb
                have HWC := Lib.hid hwc
                have ra := Rd.of_own O.out
                obtain ⟨pa, oa, rfl, hpa, hca⟩ := ra.2.2 hn0
                obtain ⟨t0, t1, t2, t3, t4⟩ := s0
                have ha : At wr pa (oa + 0 * 5) [.int .u32 (t0 : Int), .int .u32 (t1 : Int), .int .u32 (t2 : Int), .int .u64 (t3 : Int), .int .u64 (t4 : Int)] := slAt hca A0.out
                have HA := Lib.hid ha
                clear ra hca ha hpa hb hwc O8 Q9
                go_upto_region 33 with (first
                  | (refine wpList_value rfl (exec_load_mid rfl rfl HA.out Try.underlying40 rfl (by kernel_rfl)) ?_)
                  | (at_builtin; refine wpList_push eltSeal rfl (.tmp 180) (.tmp 184) rfl (W := wr) rfl O.out rfl rfl (by simp [Value.oneCell']) (by omega) (by unfold maxLen; omega) HWC.out HWC.out.size ?_; intro v2 w2 o2 b2 x2 y4; have O2 : Hid (Ow _ _ _ _ _ _ _) := Lib.hid o2; have B2 := Lib.hid b2; clear o2 b2 x2 y4)
                  | fail)
                have f8 := F8.out
                have hln : (L ++ [Sl.mk t0 t1 t2 t3 t4]).length = j + 1 := by rw [List.length_append, HLN.out]; rfl
                have o3 : Ow w2 wc.heap.size 40 5 v2 (j + 1) (slCells (L ++ [Sl.mk t0 t1 t2 t3 t4])) := own_eq2 O2.out rfl (by unfold slCells; rw [List.flatMap_append]; simp [Sl.cells])
                obtain ⟨A2, c2', rfl, hc2⟩ := own_cap o3
                have P8 := Lib.hid (put_gen ⟨6, [], 0, 0, L ++ [Sl.mk t0 t1 t2 t3 t4]⟩ f8 #[.int .i64 6, .string ⟨#[]⟩, .int .u64 0, .int .u32 0, .slice A2 (j + 1) c2'] A2 (j + 1) c2' rfl w2 hln (Rd.of_own o3) hc2)
                have HB4 := Lib.hid (belowGo HBC.out B2.out)
                clear f8 hln o3 hc2 O2
                go_wp2_with fail
                refine P8.out.mono ?_
                rintro e w3 ⟨v3, rfl, o3, b3⟩
                rw [M8.out, if_neg (show ¬ false = true by decide)]
                clear o3
                have hb := belowGo HB4.out b3
                clear b3 P8 HB4
                go_wp2_with fail
                refine (wakes_any _).mono ?_
                rintro e w4 ⟨rfl, b4⟩
                have hb := belowGo hb b4
                go_wp2_with fail
                exact bodyPost_ret (results_tmp rfl _ _ _) rfl ⟨rfl, hb⟩
end Go.Proofs.Ytedjolkkidciiaa
