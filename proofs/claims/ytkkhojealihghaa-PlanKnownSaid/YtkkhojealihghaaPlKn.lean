/- PlanKnown: what may not be, limits. -/
import Derived.Test.YtkkhojealihghaaPlWk
import Derived.Test.YtkkhojealihghaaPlBy
namespace Go.Proofs.Ytkkhojealihghaa
open Go.RowKit
attribute [local go_sem] Oper.semAt_some

theorem exec_index {P : Program} {w : World} {ρ : Operand → Value} {o : Oper} {t : TypeId} {x y : Operand} {v : Value} (ho : o.op = .index t x y) (h : (Instr.index t (ρ x) (ρ y)).run P w = .ok v w) : (execOp ρ o).run P w = .ok (.value v) w := by
  unfold execOp; rw [ho]; simp only [Sem.run_bind, h, Result.andThen_ok, Sem.run_pure]
/-- the items that may not be -/
def badX (gk gz : Nat) : List ItX := [⟨⟨[], 1, 1, 30⟩, none, 0⟩, ⟨⟨(List.replicate 65 0), 1, 1, 30⟩, (some ⟨gz, 0, none⟩), 65⟩, ⟨⟨[107], 0, 1, 30⟩, (some ⟨gk, 0, none⟩), 1⟩, ⟨⟨[107], 1099511627777, 1, 30⟩, (some ⟨gk, 0, none⟩), 1⟩, ⟨⟨[107], 1, 0, 30⟩, (some ⟨gk, 0, none⟩), 1⟩, ⟨⟨[107], 1, 3, 30⟩, (some ⟨gk, 0, none⟩), 1⟩, ⟨⟨[107], 1, 1, 24⟩, (some ⟨gk, 0, none⟩), 1⟩, ⟨⟨[107], 1, 1, 1114⟩, (some ⟨gk, 0, none⟩), 1⟩]
def badC (gk gz : Nat) : Array Value := #[.slice none 0 0, .int .u64 1, .int .i64 1, .int .i64 30, .slice (some ⟨gz, 0, none⟩) 65 65, .int .u64 1, .int .i64 1, .int .i64 30, .slice (some ⟨gk, 0, none⟩) 1 1, .int .u64 0, .int .i64 1, .int .i64 30, .slice (some ⟨gk, 0, none⟩) 1 1, .int .u64 1099511627777, .int .i64 1, .int .i64 30, .slice (some ⟨gk, 0, none⟩) 1 1, .int .u64 1, .int .i64 0, .int .i64 30, .slice (some ⟨gk, 0, none⟩) 1 1, .int .u64 1, .int .i64 3, .int .i64 30, .slice (some ⟨gk, 0, none⟩) 1 1, .int .u64 1, .int .i64 1, .int .i64 24, .slice (some ⟨gk, 0, none⟩) 1 1, .int .u64 1, .int .i64 1, .int .i64 1114]
theorem bad_len (gk gz : Nat) : (badX gk gz).length = 8 := rfl
theorem bad_may {gk gz : Nat} {x : ItX} (h : x ∈ badX gk gz) : mayP [x.it] = false := by
  simp only [badX, List.mem_cons, List.not_mem_nil, or_false] at h
  rcases h with rfl | rfl | rfl | rfl | rfl | rfl | rfl | rfl <;> rfl
theorem bad_ok {gk gz : Nat} {w : World} (h1 : Rd w w.heap.size 1 (some ⟨gk, 0, none⟩) 1 (bcells [107])) (h2 : Rd w w.heap.size 1 (some ⟨gz, 0, none⟩) 65 (bcells (List.replicate 65 0))) {x : ItX} (h : x ∈ badX gk gz) : x.ok w := by
  simp only [badX, List.mem_cons, List.not_mem_nil, or_false] at h
  rcases h with rfl | rfl | rfl | rfl | rfl | rfl | rfl | rfl
  · exact ⟨⟨rfl, by decide, fun h => absurd h (by decide)⟩, Nat.le_refl 0⟩
  · exact ⟨h2, Nat.le_refl 65⟩
  · exact ⟨h1, Nat.le_refl 1⟩
  · exact ⟨h1, Nat.le_refl 1⟩
  · exact ⟨h1, Nat.le_refl 1⟩
  · exact ⟨h1, Nat.le_refl 1⟩
  · exact ⟨h1, Nat.le_refl 1⟩
  · exact ⟨h1, Nat.le_refl 1⟩
theorem bad_small {gk gz : Nat} {x : ItX} (h : x ∈ badX gk gz) : x.it.l.length ≤ 9223372036854775807 := by
  simp only [badX, List.mem_cons, List.not_mem_nil, or_false] at h
  rcases h with rfl | rfl | rfl | rfl | rfl | rfl | rfl | rfl <;> exact Nat.le_of_ble_eq_true rfl
set_option maxRecDepth 100000 in
theorem bad_index (gk gz : Nat) (W : World) {j : Nat} {x : ItX} (h : (badX gk gz)[j]? = some x) : (Instr.index 52 (.agg (badC gk gz)) (.int .i64 (j : Int))).run Try.prog W = .ok (.agg #[.slice x.A x.it.l.length x.c, .int .u64 (x.it.q : Int), .int .i64 x.it.k, .int .i64 x.it.z]) W := by
  have hj : j < 8 := (List.getElem?_eq_some_iff.1 h).1
  have hj2 : j = 0 ∨ j = 1 ∨ j = 2 ∨ j = 3 ∨ j = 4 ∨ j = 5 ∨ j = 6 ∨ j = 7 := by omega
  rcases hj2 with rfl | rfl | rfl | rfl | rfl | rfl | rfl | rfl <;> (have hx := Option.some.inj (show some _ = some x from h); subst hx; rfl)
theorem plan_bad {its : List It} {at_ : List Int} {limit : Int} {first : Nat} (h : mayP its = false ∨ limit < 4096 ∨ 16777216 < limit ∨ first < 1 ∨ 16777215 < first) : planOf its at_ limit first = (1, ⟨[], [], []⟩) := by unfold planOf; rw [if_pos h]
theorem kn5 : (planOf [] [5] 4096 16777215).1 = 0 ∧ (planOf [] [5] 4096 16777215).2.steps = [] ∧ (planOf [] [5] 4096 16777215).2.seals = [] := by decide +kernel
theorem kn6 : (planOf fiveL [5] 4096 16777215).1 = 7 ∧ (planOf fiveL [5] 4096 16777215).2.steps = [] ∧ (planOf fiveL [5] 4096 16777215).2.seals = [] := by decide +kernel
theorem kn7 : (planOf fiveL [5] 4096 16777214).1 = 0 := by decide +kernel
def twoL : List It := [⟨[97], 1, 1, 30⟩, ⟨[97], 1, 1, 30⟩, ⟨[98], 3, 1, 30⟩, ⟨[97], 4, 2, 30⟩, ⟨[98], 5, 1, 30⟩]
theorem kn8 : mayP twoL = false := by decide
theorem five_parts {X : List ItX} (h : X.map ItX.it = fiveL) : ∃ x0 x1 x2 x3 x4, X = [x0, x1, x2, x3, x4] := by
  rcases X with _ | ⟨x0, _ | ⟨x1, _ | ⟨x2, _ | ⟨x3, _ | ⟨x4, _ | ⟨x5, r⟩⟩⟩⟩⟩⟩ <;> simp [fiveL] at h
  exact ⟨_, _, _, _, _, rfl⟩
theorem Try.szItem : (Try.prog.info? 47).map (·.size) = some 4 := by kernel_rfl
set_option maxRecDepth 100000 in
set_option maxHeartbeats 16000000 in
theorem planKnown_walk (w : World) : Calls Try.prog 5 #[] w fun e w' => e = .returned (.bool true) ∧ Below w.heap.size w w' := by
  have k1 : (convert 23 23 (.slice (some ⟨w.heap.size, 0, none⟩) 1 1)).run Try.prog (w.alloc (.cells #[.int .u8 107] 5)) = .ok (.slice (some ⟨w.heap.size, 0, none⟩) 1 1) (w.alloc (.cells #[.int .u8 107] 5 (1, 2))) := Lib.run_convert_bytes_const (P := Try.prog) w 23 5 #[.int .u8 107] 1 1 Try.underlying23 Try.underlying5
  have r1 := lit_rd w 107 (1, 2)
  have b1 := belowAlloc (Below.refl w.heap.size w) (.cells #[.int .u8 107] 5 (1, 2))
  obtain ⟨i0, hi, hz0, hz1, hz2⟩ := info_parts Try.infoU8
  have hmk : ∀ W : World, (Instr.makeSlice 23 (.int .i64 65) (.int .i64 65)).run Try.prog W = .ok (.slice (some ⟨W.heap.size, 0, none⟩) 65 65) (W.alloc (.cells (madeCells #[.int .u8 0] 65) 5)) := fun W => by
    have := run_make_rowN (P := Try.prog) 23 5 i0 (.int .u8 0) Try.underlying23 hi hz0 .i64 .i64 65 65 (Nat.le_refl _) (by rw [hz2]; omega) (by omega) W
    rw [hz1, Nat.mul_one] at this
    exact this
  have HMK := Lib.hid hmk
  clear hi hz0 hz1 hz2 hmk
  go_enter Try.func5, Try.ntmps5
  go_upto_region 2 with fail
  clear k1
  have r1' : Rd (w.alloc (.cells #[.int .u8 107] 5 (1, 2))) (w.alloc (.cells #[.int .u8 107] 5 (1, 2))).heap.size 1 (some ⟨w.heap.size, 0, none⟩) 1 (bcells [107]) := r1
  clear r1
  generalize w.alloc (.cells #[.int .u8 107] 5 (1, 2)) = w1 at *
  obtain ⟨gk, hgk⟩ : ∃ g, g = w.heap.size := ⟨_, rfl⟩
  rw [← hgk] at r1' ⊢
  have q2 := Blk.new w1 5 (madeCells #[.int .u8 0] 65)
  have b2 := belowAlloc (Below.refl w1.heap.size w1) (.cells (madeCells #[.int .u8 0] 65) 5)
  have r2 : Rd (w1.alloc (.cells (madeCells #[.int .u8 0] 65) 5)) _ 1 (some ⟨w1.heap.size, 0, none⟩) 65 (bcells (List.replicate 65 0)) := bcell_rd q2 (by rw [madeCells_one]; rfl) (by rw [size_madeCells]) (by unfold maxLen; omega)
  have RK := Lib.hid ((r1'.below b2 (Nat.le_refl _)).more b2.size)
  have HB := Lib.hid (belowGo b1 b2)
  clear r1' hgk q2 b1 b2
  go_upto_region 3 with (first | (refine wpList_value rfl (exec_make rfl (HMK.out _)) ?_) | fail)
  generalize w1.alloc (.cells (madeCells #[.int .u8 0] 65) 5) = w2 at *
  obtain ⟨gz, hgz⟩ : ∃ g, g = w1.heap.size := ⟨_, rfl⟩
  rw [← hgz] at r2 ⊢
  have RZ := Lib.hid r2
  clear r2 hgz
  have hKC : #[.slice none 0 0, .int .u64 1, .int .i64 1, .int .i64 30, .slice (some ⟨gz, 0, none⟩) 65 65, .int .u64 1, .int .i64 1, .int .i64 30, .slice (some ⟨gk, 0, none⟩) 1 1, .int .u64 0, .int .i64 1, .int .i64 30, .slice (some ⟨gk, 0, none⟩) 1 1, .int .u64 1099511627777, .int .i64 1, .int .i64 30, .slice (some ⟨gk, 0, none⟩) 1 1, .int .u64 1, .int .i64 0, .int .i64 30, .slice (some ⟨gk, 0, none⟩) 1 1, .int .u64 1, .int .i64 3, .int .i64 30, .slice (some ⟨gk, 0, none⟩) 1 1, .int .u64 1, .int .i64 1, .int .i64 24, .slice (some ⟨gk, 0, none⟩) 1 1, .int .u64 1, .int .i64 1, .int .i64 1114] = badC gk gz := rfl
  rw [hKC]
  clear hKC
  go_loopw [41] (fun i wr => ∃ j : Nat, j ≤ 8 ∧ i = .int .i64 (j : Int) ∧ Below w2.heap.size w2 wr) (fun i _ => 8 - (intOf i).toNat)
  case atStart => exact ⟨0, by omega, rfl, Below.refl _ _⟩
  case round =>
    obtain ⟨j, hj, rfl, hb⟩ := hrel
    have RK2 := Lib.hid ((RK.out.below hb (Nat.le_refl _)).more hb.size)
    have RZ2 := Lib.hid ((RZ.out.below hb (Nat.le_refl _)).more hb.size)
    have HBR := Lib.hid hb
    clear hb
    by_cases hin : j < 8
    · have i1 : (j : Int) < 8 := by omega
      obtain ⟨x, hx⟩ : ∃ x, (badX gk gz)[j]? = some x := ⟨_, List.getElem?_eq_getElem (by rw [bad_len]; exact hin)⟩
      have hmem := List.mem_of_getElem? hx
      have HIX := Lib.hid (bad_index gk gz wr hx)
      have HMY := Lib.hid (bad_may hmem)
      have HOK := Lib.hid (bad_ok RK2.out RZ2.out hmem)
      have HSM := Lib.hid (bad_small hmem)
      clear hx hmem
      have b3 := belowAlloc (Below.refl wr.heap.size wr) (.cells #[.slice x.A x.it.l.length x.c, .int .u64 (x.it.q : Int), .int .i64 x.it.k, .int .i64 x.it.z] 47)
      have q3 := Blk.new wr 47 #[.slice x.A x.it.l.length x.c, .int .u64 (x.it.q : Int), .int .i64 x.it.k, .int .i64 x.it.z]
      go_upto_region 5 with (first
        | (refine wpList_value rfl (exec_index rfl HIX.out) ?_)
        | fail)
      generalize wr.alloc (.cells #[.slice x.A x.it.l.length x.c, .int .u64 (x.it.q : Int), .int .i64 x.it.k, .int .i64 x.it.z] 47) = w3 at *
      obtain ⟨g3, hg3⟩ : ∃ g, g = wr.heap.size := ⟨_, rfl⟩
      rw [← hg3] at q3 ⊢
      have Q3 := Lib.hid q3
      have HB3 := Lib.hid (belowGo HBR.out b3)
      have OK3 := Lib.hid (HOK.out.after b3)
      clear hg3 q3 b3 HIX HOK RK2 RZ2 HBR
      have o4 := own_rd (own_lit w3 0 47 #[.slice x.A x.it.l.length x.c, .int .u64 (x.it.q : Int), .int .i64 x.it.k, .int .i64 x.it.z] 1 4 rfl (Nat.zero_le _) (by decide))
      have b4 := belowAlloc (Below.refl w3.heap.size w3) (.cells #[.slice x.A x.it.l.length x.c, .int .u64 (x.it.q : Int), .int .i64 x.it.k, .int .i64 x.it.z] 47)
      go_wp2_with (first
        | (refine wpList_value rfl (exec_load_blk rfl rfl Q3.out Try.underlying47 rfl Try.szItem) ?_)
        | fail)
      generalize w3.alloc (.cells #[.slice x.A x.it.l.length x.c, .int .u64 (x.it.q : Int), .int .i64 x.it.k, .int .i64 x.it.z] 47) = w4 at *
      obtain ⟨g4, hg4⟩ : ∃ g, g = w3.heap.size := ⟨_, rfl⟩
      rw [← hg4] at o4 ⊢
      have O4 := Lib.hid o4
      have HB4 := Lib.hid (belowGo HB3.out b4)
      have Q4 := Lib.hid (Q3.out.after b4)
      have OK4 := Lib.hid (OK3.out.after b4)
      clear hg4 o4 b4 Q3 HB3 OK3
      have OF : Calls Try.prog 9 #[.slice (some ⟨g4, 0, none⟩) 1 1, .slice none 0 0, .int .i64 4096, .int .u32 1] w4 (RetPlan w4 (planOf [x.it] [] 4096 1)) := planOf_any [x] (some ⟨g4, 0, none⟩) 1 1 [] none 0 0 4096 1 w4 rfl (by omega) O4.out (fun y hy => by rw [List.mem_singleton.1 hy]; exact OK4.out) (fun y hy => by rw [List.mem_singleton.1 hy]; exact HSM.out) rfl ⟨rfl, by decide, fun h => absurd h (by omega)⟩
      rw [plan_bad (.inl HMY.out)] at OF
      refine OF.mono ?_
      rintro e w5 hret
      obtain ⟨As, Al, cs, cl, rfl, -, -, b5⟩ := hret.open rfl rfl rfl
      have HB5 := Lib.hid (belowGo HB4.out b5)
      have Q5 := Lib.hid (Q4.out.after b5)
      have OK5 := Lib.hid (OK4.out.after b5)
      clear hret OF b5 HB4 Q4 OK4 O4
      have q6 := Blk.new w5 33 #[.slice none 0 0, .slice none 0 0]
      have b6 := row_below (belowAlloc (Below.refl w5.heap.size w5) (.cells #[.slice none 0 0, .slice none 0 0] 33)) (Nat.le_refl _) #[.slice As 0 cs, .slice Al 0 cl]
      go_upto_region 6 with (first
        | (refine wpList_storeB rfl 33 (.tmp 4) (.tmp 48) rfl rfl rfl q6 Try.szPlan rfl (by simp [Value.oneCell']) ?_)
        | fail)
      generalize (w5.alloc (.cells #[.slice none 0 0, .slice none 0 0] 33)).setRow w5.heap.size #[.slice As 0 cs, .slice Al 0 cl] = w6 at *
      have HB6 := Lib.hid (belowGo HB5.out b6)
      have Q6 := Lib.hid (Q5.out.after b6)
      have OK6 := Lib.hid (OK5.out.after b6)
      clear q6 b6 HB5 Q5 OK5
      have o7 := own_rd (own_lit w6 0 47 #[.slice x.A x.it.l.length x.c, .int .u64 (x.it.q : Int), .int .i64 x.it.k, .int .i64 x.it.z] 1 4 rfl (Nat.zero_le _) (by decide))
      have b7 := belowAlloc (Below.refl w6.heap.size w6) (.cells #[.slice x.A x.it.l.length x.c, .int .u64 (x.it.q : Int), .int .i64 x.it.k, .int .i64 x.it.z] 47)
      go_wp2_with (first
        | (refine wpList_value rfl (exec_load_blk rfl rfl Q6.out Try.underlying47 rfl Try.szItem) ?_)
        | fail)
      generalize w6.alloc (.cells #[.slice x.A x.it.l.length x.c, .int .u64 (x.it.q : Int), .int .i64 x.it.k, .int .i64 x.it.z] 47) = w7 at *
      have HB7 := Lib.hid (belowGo HB6.out b7)
      have OK7 := Lib.hid (OK6.out.after b7)
      have MY := mayP_any [x] (some ⟨w6.heap.size, 0, none⟩) 1 1 w7 rfl (by omega) o7 (fun y hy => by rw [List.mem_singleton.1 hy]; exact HSM.out)
      rw [show mayP ([x].map ItX.it) = false from HMY.out] at MY
      have MYH := Lib.hid MY
      clear MY o7 b7 HB6 Q6 OK6
      refine MYH.out.mono ?_
      rintro e w8 ⟨rfl, b8⟩
      have HB8 := Lib.hid (belowGo HB7.out b8)
      clear b8 MYH
      go_wp2_with fail
      go_roundw
      case rel => exact ⟨j + 1, by omega, by go_num, HB8.out⟩
      case measure => simp [intOf]; omega
    · obtain rfl : j = 8 := by omega
      have HB := Lib.hid (belowGo HB.out HBR.out)
      clear RK RZ RK2 RZ2 HBR i0
      have OF : Calls Try.prog 9 #[.slice none 0 0, .slice none 0 0, .int .i64 4095, .int .u32 1] wr (RetPlan wr (planOf [] [] 4095 1)) := planOf_any [] none 0 0 [] none 0 0 4095 1 wr rfl (by omega) ⟨rfl, by decide, fun h => absurd h (by omega)⟩ (by simp) (by simp) rfl ⟨rfl, by decide, fun h => absurd h (by omega)⟩
      rw [plan_bad (.inr (.inl (by decide)))] at OF
      have OFH := Lib.hid OF
      clear OF
      go_wp2_with fail
      refine OFH.out.mono ?_
      rintro e wa3 hret
      obtain ⟨Asa, Ala, csa, cla, rfl, rs, rl, b3⟩ := hret.open rfl rfl rfl
      clear hret OFH
      have b4 := belowAlloc (Below.refl wa3.heap.size wa3) (.cells #[.slice none 0 0, .slice none 0 0] 33)
      have q4 := Blk.new wa3 33 #[.slice none 0 0, .slice none 0 0]
      have b5 := row_below b4 (Nat.le_refl _) #[.slice Asa 0 csa, .slice Ala 0 cla]
      go_upto_region 10 with (first
        | (refine wpList_storeB rfl 33 (.tmp 6) (.tmp 60) rfl rfl rfl q4 Try.szPlan rfl (by simp [Value.oneCell']) ?_)
        | fail)
      have HB := Lib.hid (belowGo (belowGo HB.out b3) b5)
      generalize (wa3.alloc (.cells #[.slice none 0 0, .slice none 0 0] 33)).setRow wa3.heap.size #[.slice Asa 0 csa, .slice Ala 0 cla] = wa4 at *
      obtain ⟨ga, hg⟩ : ∃ g, g = wa3.heap.size := ⟨_, rfl⟩
      rw [← hg]
      clear rs rl b3 b4 q4 b5 hg
      have OF : Calls Try.prog 9 #[.slice none 0 0, .slice none 0 0, .int .i64 16777217, .int .u32 1] wa4 (RetPlan wa4 (planOf [] [] 16777217 1)) := planOf_any [] none 0 0 [] none 0 0 16777217 1 wa4 rfl (by omega) ⟨rfl, by decide, fun h => absurd h (by omega)⟩ (by simp) (by simp) rfl ⟨rfl, by decide, fun h => absurd h (by omega)⟩
      rw [plan_bad (.inr (.inr (.inl (by decide))))] at OF
      have OFH := Lib.hid OF
      clear OF
      go_wp2_with fail
      refine OFH.out.mono ?_
      rintro e wb3 hret
      obtain ⟨Asb, Alb, csb, clb, rfl, rs, rl, b3⟩ := hret.open rfl rfl rfl
      clear hret OFH
      have b4 := belowAlloc (Below.refl wb3.heap.size wb3) (.cells #[.slice none 0 0, .slice none 0 0] 33)
      have q4 := Blk.new wb3 33 #[.slice none 0 0, .slice none 0 0]
      have b5 := row_below b4 (Nat.le_refl _) #[.slice Asb 0 csb, .slice Alb 0 clb]
      go_upto_region 11 with (first
        | (refine wpList_storeB rfl 33 (.tmp 8) (.tmp 64) rfl rfl rfl q4 Try.szPlan rfl (by simp [Value.oneCell']) ?_)
        | fail)
      have HB := Lib.hid (belowGo (belowGo HB.out b3) b5)
      generalize (wb3.alloc (.cells #[.slice none 0 0, .slice none 0 0] 33)).setRow wb3.heap.size #[.slice Asb 0 csb, .slice Alb 0 clb] = wb4 at *
      obtain ⟨gb, hg⟩ : ∃ g, g = wb3.heap.size := ⟨_, rfl⟩
      rw [← hg]
      clear rs rl b3 b4 q4 b5 hg
      have OF : Calls Try.prog 9 #[.slice none 0 0, .slice none 0 0, .int .i64 4096, .int .u32 0] wb4 (RetPlan wb4 (planOf [] [] 4096 0)) := planOf_any [] none 0 0 [] none 0 0 4096 0 wb4 rfl (by omega) ⟨rfl, by decide, fun h => absurd h (by omega)⟩ (by simp) (by simp) rfl ⟨rfl, by decide, fun h => absurd h (by omega)⟩
      rw [plan_bad (.inr (.inr (.inr (.inl (by decide)))))] at OF
      have OFH := Lib.hid OF
      clear OF
      go_wp2_with fail
      refine OFH.out.mono ?_
      rintro e wc3 hret
      obtain ⟨Asc, Alc, csc, clc, rfl, rs, rl, b3⟩ := hret.open rfl rfl rfl
      clear hret OFH
      have b4 := belowAlloc (Below.refl wc3.heap.size wc3) (.cells #[.slice none 0 0, .slice none 0 0] 33)
      have q4 := Blk.new wc3 33 #[.slice none 0 0, .slice none 0 0]
      have b5 := row_below b4 (Nat.le_refl _) #[.slice Asc 0 csc, .slice Alc 0 clc]
      go_upto_region 12 with (first
        | (refine wpList_storeB rfl 33 (.tmp 10) (.tmp 68) rfl rfl rfl q4 Try.szPlan rfl (by simp [Value.oneCell']) ?_)
        | fail)
      have HB := Lib.hid (belowGo (belowGo HB.out b3) b5)
      generalize (wc3.alloc (.cells #[.slice none 0 0, .slice none 0 0] 33)).setRow wc3.heap.size #[.slice Asc 0 csc, .slice Alc 0 clc] = wc4 at *
      obtain ⟨gc, hg⟩ : ∃ g, g = wc3.heap.size := ⟨_, rfl⟩
      rw [← hg]
      clear rs rl b3 b4 q4 b5 hg
      have OF : Calls Try.prog 9 #[.slice none 0 0, .slice none 0 0, .int .i64 4096, .int .u32 16777216] wc4 (RetPlan wc4 (planOf [] [] 4096 16777216)) := planOf_any [] none 0 0 [] none 0 0 4096 16777216 wc4 rfl (by omega) ⟨rfl, by decide, fun h => absurd h (by omega)⟩ (by simp) (by simp) rfl ⟨rfl, by decide, fun h => absurd h (by omega)⟩
      rw [plan_bad (.inr (.inr (.inr (.inr (by decide)))))] at OF
      have OFH := Lib.hid OF
      clear OF
      go_wp2_with fail
      refine OFH.out.mono ?_
      rintro e wd3 hret
      obtain ⟨Asd, Ald, csd, cld, rfl, rs, rl, b3⟩ := hret.open rfl rfl rfl
      clear hret OFH
      have b4 := belowAlloc (Below.refl wd3.heap.size wd3) (.cells #[.slice none 0 0, .slice none 0 0] 33)
      have q4 := Blk.new wd3 33 #[.slice none 0 0, .slice none 0 0]
      have b5 := row_below b4 (Nat.le_refl _) #[.slice Asd 0 csd, .slice Ald 0 cld]
      go_upto_region 13 with (first
        | (refine wpList_storeB rfl 33 (.tmp 12) (.tmp 72) rfl rfl rfl q4 Try.szPlan rfl (by simp [Value.oneCell']) ?_)
        | fail)
      have HB := Lib.hid (belowGo (belowGo HB.out b3) b5)
      generalize (wd3.alloc (.cells #[.slice none 0 0, .slice none 0 0] 33)).setRow wd3.heap.size #[.slice Asd 0 csd, .slice Ald 0 cld] = wd4 at *
      obtain ⟨gd, hg⟩ : ∃ g, g = wd3.heap.size := ⟨_, rfl⟩
      rw [← hg]
      clear rs rl b3 b4 q4 b5 hg
      have r2 := own_rd (own_lit1 (B := 0) wd4 26 #[.int .u64 5] 1 (Nat.zero_le _) rfl (by decide))
      have b2 := belowAlloc (Below.refl wd4.heap.size wd4) (.cells #[.int .u64 5] 26)
      have HB := Lib.hid (belowGo HB.out b2)
      have OF : Calls Try.prog 9 #[.slice none 0 0, .slice (some ⟨wd4.heap.size, 0, none⟩) 1 1, .int .i64 4096, .int .u32 16777215] (wd4.alloc (.cells #[.int .u64 5] 26)) (RetPlan (wd4.alloc (.cells #[.int .u64 5] 26)) (planOf [] [5] 4096 16777215)) := planOf_any [] none 0 0 [5] _ 1 1 4096 16777215 _ rfl (by omega) ⟨rfl, by decide, fun h => absurd h (by omega)⟩ (by simp) (by simp) rfl r2
      have OFH := Lib.hid OF
      clear OF r2 b2
      go_wp2_with fail
      generalize wd4.alloc (.cells #[.int .u64 5] 26) = we2 at *
      refine OFH.out.mono ?_
      rintro e we3 hret
      obtain ⟨Ase, Ale, cse, cle, rfl, rs, rl, b3⟩ := hret.open kn5.1 kn5.2.1 kn5.2.2
      clear hret OFH
      have b4 := belowAlloc (Below.refl we3.heap.size we3) (.cells #[.slice none 0 0, .slice none 0 0] 33)
      have q4 := Blk.new we3 33 #[.slice none 0 0, .slice none 0 0]
      have b5 := row_below b4 (Nat.le_refl _) #[.slice Ase 0 cse, .slice Ale 0 cle]
      have Pe := Lib.hid (show PlB _ _ Ase Ale 0 cse 0 cle [] [] from ⟨q4.row #[.slice Ase 0 cse, .slice Ale 0 cle], (rs.below b5 (Nat.le_refl _)).more b5.size, (rl.below b5 (Nat.le_refl _)).more b5.size, rfl, rfl⟩)
      go_upto_region 14 with (first
        | (refine wpList_storeB rfl 33 (.tmp 14) (.tmp 77) rfl rfl rfl q4 Try.szPlan rfl (by simp [Value.oneCell']) ?_)
        | fail)
      have HB := Lib.hid (belowGo (belowGo HB.out b3) b5)
      generalize (we3.alloc (.cells #[.slice none 0 0, .slice none 0 0] 33)).setRow we3.heap.size #[.slice Ase 0 cse, .slice Ale 0 cle] = we4 at *
      obtain ⟨ge, hg⟩ : ∃ g, g = we3.heap.size := ⟨_, rfl⟩
      rw [← hg] at Pe ⊢
      clear rs rl b3 b4 q4 b5 hg
      go_wp2_with fail
      refine (five_any we4).mono ?_
      rintro e wf1 ⟨Af, cf, Xf, rfl, hX, ow, hx, b1⟩
      have RW := Lib.hid (own_rd ow)
      have HXX := Lib.hid hX
      have HX := Lib.hid hx
      have HB := Lib.hid (belowGo HB.out b1)
      have Pe := Lib.hid (Pe.out.after b1)
      clear ow hX hx b1
      have r2 := own_rd (own_lit1 (B := 0) wf1 26 #[.int .u64 5] 1 (Nat.zero_le _) rfl (by decide))
      have b2 := belowAlloc (Below.refl wf1.heap.size wf1) (.cells #[.int .u64 5] 26)
      have HB := Lib.hid (belowGo HB.out b2)
      have Pe := Lib.hid (Pe.out.after b2)
      have OF : Calls Try.prog 9 #[.slice Af 5 cf, .slice (some ⟨wf1.heap.size, 0, none⟩) 1 1, .int .i64 4096, .int .u32 16777215] (wf1.alloc (.cells #[.int .u64 5] 26)) (RetPlan (wf1.alloc (.cells #[.int .u64 5] 26)) (planOf (Xf.map ItX.it) [5] 4096 16777215)) := planOf_any Xf Af 5 cf [5] _ 1 1 4096 16777215 _ (by have := congrArg List.length HXX.out; simpa [fiveL] using this) (by omega) ((RW.out.below b2 (Nat.le_refl _)).more b2.size) (fun x hx => (HX.out x hx).after b2) (fun x hx => by
        have h1 : x.it ∈ fiveL := by rw [← HXX.out]; exact List.mem_map_of_mem hx
        simp only [fiveL, List.mem_cons, List.not_mem_nil, or_false] at h1
        rcases h1 with h | h | h | h | h <;> rw [h] <;> decide) rfl r2
      rw [HXX.out] at OF
      have OFH := Lib.hid OF
      clear OF r2 b2
      go_wp2_with fail
      clear RW HX HXX
      generalize wf1.alloc (.cells #[.int .u64 5] 26) = wf2 at *
      refine OFH.out.mono ?_
      rintro e wf3 hret
      obtain ⟨Asf, Alf, csf, clf, rfl, rs, rl, b3⟩ := hret.open kn6.1 kn6.2.1 kn6.2.2
      clear hret OFH
      have b4 := belowAlloc (Below.refl wf3.heap.size wf3) (.cells #[.slice none 0 0, .slice none 0 0] 33)
      have q4 := Blk.new wf3 33 #[.slice none 0 0, .slice none 0 0]
      have b5 := row_below b4 (Nat.le_refl _) #[.slice Asf 0 csf, .slice Alf 0 clf]
      go_upto_region 15 with (first
        | (refine wpList_storeB rfl 33 (.tmp 16) (.tmp 83) rfl rfl rfl q4 Try.szPlan rfl (by simp [Value.oneCell']) ?_)
        | fail)
      have HB := Lib.hid (belowGo (belowGo HB.out b3) b5)
      have Pe := Lib.hid (Pe.out.after (belowGo b3 b5))
      generalize (wf3.alloc (.cells #[.slice none 0 0, .slice none 0 0] 33)).setRow wf3.heap.size #[.slice Asf 0 csf, .slice Alf 0 clf] = wf4 at *
      obtain ⟨gf, hg⟩ : ∃ g, g = wf3.heap.size := ⟨_, rfl⟩
      rw [← hg]
      clear rs rl b3 b4 q4 b5 hg
      go_wp2_with fail
      refine (five_any wf4).mono ?_
      rintro e wg1 ⟨Ag, cg, Xg, rfl, hX, ow, hx, b1⟩
      have RW := Lib.hid (own_rd ow)
      have HXX := Lib.hid hX
      have HX := Lib.hid hx
      have HB := Lib.hid (belowGo HB.out b1)
      have Pe := Lib.hid (Pe.out.after b1)
      clear ow hX hx b1
      have r2 := own_rd (own_lit1 (B := 0) wg1 26 #[.int .u64 5] 1 (Nat.zero_le _) rfl (by decide))
      have b2 := belowAlloc (Below.refl wg1.heap.size wg1) (.cells #[.int .u64 5] 26)
      have HB := Lib.hid (belowGo HB.out b2)
      have Pe := Lib.hid (Pe.out.after b2)
      have OF : Calls Try.prog 9 #[.slice Ag 5 cg, .slice (some ⟨wg1.heap.size, 0, none⟩) 1 1, .int .i64 4096, .int .u32 16777214] (wg1.alloc (.cells #[.int .u64 5] 26)) (RetPlan (wg1.alloc (.cells #[.int .u64 5] 26)) (planOf (Xg.map ItX.it) [5] 4096 16777214)) := planOf_any Xg Ag 5 cg [5] _ 1 1 4096 16777214 _ (by have := congrArg List.length HXX.out; simpa [fiveL] using this) (by omega) ((RW.out.below b2 (Nat.le_refl _)).more b2.size) (fun x hx => (HX.out x hx).after b2) (fun x hx => by
        have h1 : x.it ∈ fiveL := by rw [← HXX.out]; exact List.mem_map_of_mem hx
        simp only [fiveL, List.mem_cons, List.not_mem_nil, or_false] at h1
        rcases h1 with h | h | h | h | h <;> rw [h] <;> decide) rfl r2
      rw [HXX.out] at OF
      have OFH := Lib.hid OF
      clear OF r2 b2
      go_wp2_with fail
      clear RW HX HXX
      generalize wg1.alloc (.cells #[.int .u64 5] 26) = wg2 at *
      obtain ⟨Sg, hSg⟩ : ∃ S, S = (planOf fiveL [5] 4096 16777214).2.steps := ⟨_, rfl⟩
      obtain ⟨Lg, hLg⟩ : ∃ S, S = (planOf fiveL [5] 4096 16777214).2.seals := ⟨_, rfl⟩
      refine OFH.out.mono ?_
      rintro e wg3 hret
      obtain ⟨Asg, Alg, csg, clg, rfl, rs, rl, b3⟩ := hret.open kn7 hSg.symm hLg.symm
      clear hret OFH hSg hLg
      have b4 := belowAlloc (Below.refl wg3.heap.size wg3) (.cells #[.slice none 0 0, .slice none 0 0] 33)
      have q4 := Blk.new wg3 33 #[.slice none 0 0, .slice none 0 0]
      have b5 := row_below b4 (Nat.le_refl _) #[.slice Asg Sg.length csg, .slice Alg Lg.length clg]
      go_upto_region 16 with (first
        | (refine wpList_storeB rfl 33 (.tmp 18) (.tmp 89) rfl rfl rfl q4 Try.szPlan rfl (by simp [Value.oneCell']) ?_)
        | fail)
      have HB := Lib.hid (belowGo (belowGo HB.out b3) b5)
      have Pe := Lib.hid (Pe.out.after (belowGo b3 b5))
      generalize (wg3.alloc (.cells #[.slice none 0 0, .slice none 0 0] 33)).setRow wg3.heap.size #[.slice Asg Sg.length csg, .slice Alg Lg.length clg] = wg4 at *
      obtain ⟨gg, hg⟩ : ∃ g, g = wg3.heap.size := ⟨_, rfl⟩
      rw [← hg]
      clear rs rl b3 b4 q4 b5 hg
      go_wp2_with fail
      refine (five_any2 wg4).mono ?_
      rintro e wh1 ⟨Ah, ch, Xh, Bh, rfl, hX, h1, h2, ow, hx, b1⟩
      obtain ⟨x0, x1, x2, x3, x4, rfl⟩ := five_parts hX
      obtain ⟨gh, ch', he, -, hBg⟩ := own_ptr ow (by omega)
      injection he with he he2 he3
      subst he he3
      have hset : (itCells [x0, x1, x2, x3, x4]).set 5 (.int .u64 1) = itCells [x0, ⟨⟨x1.it.l, 1, x1.it.k, x1.it.z⟩, x1.A, x1.c⟩, x2, x3, x4] := rfl
      have hst := (World.ownsRow.stored ow 5 (.int .u64 1)).1
      rw [hset] at hst
      have hc5 : wh1.cell? ⟨gh, 5, none⟩ = some (.int .u64 (x1.it.q : Int)) := by
        have := Ow.cell ow (j := 5) (x := .int .u64 (x1.it.q : Int)) rfl (by omega) rfl
        rwa [Nat.zero_add] at this
      have hf5 := World.ownsRow.frozenAt ow 5
      have hbl : Below Bh wh1 (wh1.setCell ⟨gh, 5, none⟩ (.int .u64 1)) := (Below.refl Bh wh1).setCell hBg _
      have hsz : (wh1.setCell ⟨gh, 5, none⟩ (.int .u64 1)).heap.size = wh1.heap.size := by simp [World.setCell]
      have hrd : ∀ x ∈ [x0, x1, x2, x3, x4], x.ok (wh1.setCell ⟨gh, 5, none⟩ (.int .u64 1)) := fun x hxm => ⟨((hx x hxm).1.below hbl (Nat.le_refl _)).more (by rw [hsz]; exact h2), (hx x hxm).2⟩
      have hit := hX
      simp only [List.map_cons, List.map_nil, fiveL, List.cons.injEq, and_true] at hit
      obtain ⟨e0, e1, e2, e3, e4⟩ := hit
      have hX2 : ([x0, ⟨⟨x1.it.l, 1, x1.it.k, x1.it.z⟩, x1.A, x1.c⟩, x2, x3, x4] : List ItX).map ItX.it = twoL := by
        simp only [List.map_cons, List.map_nil, twoL, e0, e1, e2, e3, e4]
      have OF : Calls Try.prog 9 #[.slice (some ⟨gh, 0, none⟩) 5 ch, .slice none 0 0, .int .i64 4096, .int .u32 1] (wh1.setCell ⟨gh, 5, none⟩ (.int .u64 1)) (RetPlan (wh1.setCell ⟨gh, 5, none⟩ (.int .u64 1)) (planOf (([x0, ⟨⟨x1.it.l, 1, x1.it.k, x1.it.z⟩, x1.A, x1.c⟩, x2, x3, x4] : List ItX).map ItX.it) [] 4096 1)) := planOf_any _ (some ⟨gh, 0, none⟩) 5 ch [] none 0 0 4096 1 _ rfl (by omega) (own_rd hst) (fun x hxm => by
        simp only [List.mem_cons, List.not_mem_nil, or_false] at hxm
        rcases hxm with rfl | rfl | rfl | rfl | rfl
        · exact hrd _ (by simp)
        · exact hrd x1 (by simp)
        · exact hrd _ (by simp)
        · exact hrd _ (by simp)
        · exact hrd _ (by simp)) (fun x hxm => by
        have h9 : x.it ∈ twoL := by rw [← hX2]; exact List.mem_map_of_mem hxm
        simp only [twoL, List.mem_cons, List.not_mem_nil, or_false] at h9
        rcases h9 with h | h | h | h | h <;> rw [h] <;> decide) rfl ⟨rfl, by decide, fun h => absurd h (by omega)⟩
      rw [hX2, plan_bad (.inl kn8)] at OF
      have OFH := Lib.hid OF
      have b2 : Below wg4.heap.size wg4 (wh1.setCell ⟨gh, 5, none⟩ (.int .u64 1)) := b1.trans (hbl.mono h1)
      have HB := Lib.hid (belowGo HB.out b2)
      have Pe := Lib.hid (Pe.out.after b2)
      clear OF hX2 e0 e1 e2 e3 e4 hrd hsz hbl hst hset hx hX b1 b2 h1 h2 ow hBg he2
      go_wp2_with fail
      clear hc5 hf5
      generalize wh1.setCell ⟨gh, 5, none⟩ (.int .u64 1) = wh2 at *
      refine OFH.out.mono ?_
      rintro e wh3 hret
      obtain ⟨Ash, Alh, csh, clh, rfl, rs, rl, b3⟩ := hret.open rfl rfl rfl
      clear hret OFH
      have b4 := belowAlloc (Below.refl wh3.heap.size wh3) (.cells #[.slice none 0 0, .slice none 0 0] 33)
      have q4 := Blk.new wh3 33 #[.slice none 0 0, .slice none 0 0]
      have b5 := row_below b4 (Nat.le_refl _) #[.slice Ash 0 csh, .slice Alh 0 clh]
      go_upto_region 19 with (first
        | (refine wpList_storeB rfl 33 (.tmp 21) (.tmp 98) rfl rfl rfl q4 Try.szPlan rfl (by simp [Value.oneCell']) ?_)
        | fail)
      have HB := Lib.hid (belowGo (belowGo HB.out b3) b5)
      have Pe := Lib.hid (Pe.out.after (belowGo b3 b5))
      generalize (wh3.alloc (.cells #[.slice none 0 0, .slice none 0 0] 33)).setRow wh3.heap.size #[.slice Ash 0 csh, .slice Alh 0 clh] = wh4 at *
      obtain ⟨gh, hg⟩ : ∃ g, g = wh3.heap.size := ⟨_, rfl⟩
      rw [← hg]
      clear rs rl b3 b4 q4 b5 hg
      have cz := Pe.out.blk.cell 1
      have cz0 := Pe.out.blk.cell 0
      have BY := Lib.hid (bytesP_any [] (.slice Ase 0 cse) Ale 0 cle wh4 rfl (by omega) (by simp) Pe.out.rl)
      go_wp2_with fail
      refine BY.out.mono ?_
      rintro e wi ⟨rfl, b1⟩
      have HB := Lib.hid (belowGo HB.out b1)
      have hs0 : (sumZ [] : Int) = 0 := rfl
      rw [show ((sumZ [] : Nat) : Int) = 0 from rfl]
      clear b1 BY cz cz0 hs0
      have MY := mayP_any [] none 0 0 wi rfl (by omega) ⟨rfl, by decide, fun h => absurd h (by omega)⟩ (by simp)
      rw [show mayP (([] : List ItX).map ItX.it) = true from rfl] at MY
      have MYH := Lib.hid MY
      clear MY
      go_wp2_with fail
      refine MYH.out.mono ?_
      rintro e wj ⟨rfl, b1⟩
      have HB := Lib.hid (belowGo HB.out b1)
      clear b1 MYH
      go_wp2_with fail
      refine (wakes_any wj).mono ?_
      rintro e wk ⟨rfl, b1⟩
      have HB := Lib.hid (belowGo HB.out b1)
      go_wp2_with fail
      exact bodyPost_ret (results_tmp rfl _ _ _) rfl ⟨rfl, HB.out⟩
end Go.Proofs.Ytkkhojealihghaa
