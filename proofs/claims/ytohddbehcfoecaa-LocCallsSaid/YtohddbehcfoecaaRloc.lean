/- The document's answer for chapter 3, function by function: what package loc answers. For every loc, every bytes. -/
import Derived.Test.YtohddbehcfoecaaLoc2
import Derived.Test.YtohddbehcfoecaaLocLaw
import Derived.Test.YtohddbehcfoecaaRef4
namespace Go.Proofs.Ytohddbehcfoecaa
open Go.RowKit

theorem within_any (s o : Nat) (w : World) : Calls Try.prog 50 #[.int .u64 (s : Int), .int .u64 (o : Int)] w fun e w' => e = .returned (.bool (mayL s o)) ∧ w = w' := by
  obtain ⟨b, hb⟩ : ∃ b, b = mayL s o := ⟨_, rfl⟩
  rw [← hb]
  unfold mayL noneB standsB at hb
  by_cases h0 : s = 0
  · subst h0
    obtain rfl : b = decide (o = 0) := by rw [hb, Bool.eq_iff_iff]; simp
    clear hb
    have i2 : ((o : Int) == 0) = decide (o = 0) := by rw [Bool.eq_iff_iff, beq_iff_eq, decide_eq_true_eq]; omega
    go_enter Try.func50, Try.ntmps50
    go_wp2
    go_ret
    exact ⟨by simp, rfl⟩
  · have i1 : ((s : Int) == 0) = false := by simp; omega
    by_cases h2 : s ≤ 16777215
    · by_cases h3 : 16 ≤ o
      · obtain rfl : b = decide ((o : Int) ≤ 16777216) := by rw [hb, Bool.eq_iff_iff]; simp; omega
        clear hb
        go_enter Try.func50, Try.ntmps50
        go_wp2
        go_ret
        exact ⟨by simp, rfl⟩
      · obtain rfl : b = false := by rw [hb]; simp; omega
        clear hb
        go_enter Try.func50, Try.ntmps50
        go_wp2
        go_ret
        exact ⟨rfl, rfl⟩
    · obtain rfl : b = false := by rw [hb]; simp; omega
      clear hb
      go_enter Try.func50, Try.ntmps50
      go_wp2
      go_ret
      exact ⟨rfl, rfl⟩

theorem rmay_any (s o : Nat) (hs : s < 4294967296) (ho : o < 4294967296) (w : World) : Calls Try.prog 49 #[locV s o] w fun e w' => e = .returned (.bool (mayL s o)) ∧ Below w.heap.size w w' := by
  unfold locV
  have H := fun W => Lib.hid (within_any s o W)
  generalize mayL s o = b at *
  go_enter Try.func49, Try.ntmps49
  go_wp2_with fail
  refine (H _).out.mono ?_
  rintro e w1 ⟨rfl, rfl⟩
  go_wp2_with fail
  go_ret
  exact ⟨rfl, (Below.refl _ _).alloc (Nat.le_refl _) _⟩

theorem rpack_any (s o : Nat) (hs : s < 4294967296) (ho : o < 4294967296) (w : World) : Calls Try.prog 22 #[locV s o] w fun e w' => e = .returned (.tuple #[.int .u64 (packN s o), .int .i64 (packE s o)]) ∧ Below w.heap.size w w' := by
  have H1 := fun W => Lib.hid (rmay_any s o hs ho W)
  unfold packN packE
  generalize mayL s o = b at *
  unfold locV at *
  have q0 := Blk.new w 24 #[.int .u32 (s : Int), .int .u32 (o : Int)]
  have b0 := (Below.refl w.heap.size w).alloc (Nat.le_refl _) (.cells #[.int .u32 (s : Int), .int .u32 (o : Int)] 24)
  cases b
  · go_enter Try.func22, Try.ntmps22
    go_wp2_with fail
    refine (H1 _).out.mono ?_
    rintro e w1 ⟨rfl, b1⟩
    go_wp2_with fail
    go_ret2
    exact ⟨rfl, b0.trans (b1.mono b0.size)⟩
  · go_enter Try.func22, Try.ntmps22
    go_wp2_with fail
    refine (H1 _).out.mono ?_
    rintro e w1 ⟨rfl, b1⟩
    have q1 := q0.after b1
    have c0 := q1.cell 0
    have c1 := q1.cell 1
    go_wp2_with fail
    go_ret2
    exact ⟨by simp, b0.trans (b1.mono b0.size)⟩

theorem runpack_any (n : Nat) (hn : n < 18446744073709551616) (w : World) : Calls Try.prog 23 #[.int .u64 (n : Int)] w fun e w' =>
    e = .returned (.tuple #[if mayL (n / 4294967296) (n % 4294967296) then locV (n / 4294967296) (n % 4294967296) else locV 0 0, .int .i64 (if mayL (n / 4294967296) (n % 4294967296) then 0 else 1)]) ∧ Below w.heap.size w w' := by
  obtain ⟨s, hs⟩ : ∃ s, s = n / 4294967296 := ⟨_, rfl⟩
  obtain ⟨o, ho⟩ : ∃ o, o = n % 4294967296 := ⟨_, rfl⟩
  have i1 : (n : Int) / 4294967296 = (s : Int) := by omega
  have i2 : s < 4294967296 := by omega
  have i3 : (n : Int) % 4294967296 = (o : Int) := by omega
  have i4 : o < 4294967296 := by omega
  rw [← hs, ← ho]
  clear hs ho
  have H1 := fun W => Lib.hid (within_any s o W)
  have q0 := Blk.new w 24 #[.int .u32 0, .int .u32 0]
  have b0 := (Below.refl w.heap.size w).alloc (Nat.le_refl _) (.cells #[.int .u32 0, .int .u32 0] 24)
  have c0 := q0.cell 0
  have c1 := q0.cell 1
  have f0 := q0.frozen 0
  have f1 := q0.frozen 1
  generalize mayL s o = b at *
  unfold locV
  cases b
  · go_enter Try.func23, Try.ntmps23
    go_wp2_with fail
    generalize w.alloc (.cells #[.int .u32 0, .int .u32 0] 24) = w0 at *
    refine (H1 _).out.mono ?_
    rintro e w1 ⟨rfl, rfl⟩
    go_wp2_with fail
    exact bodyPost_ret (results_cell2 rfl rfl (res_load (cs := #[.int .u32 0, .int .u32 0]) ((q0.set_ 0 _).set_ 1 _) Try.underlying24 rfl (by kernel_rfl))) rfl ⟨rfl, (b0.setCell (p := ⟨w.heap.size, 0, none⟩) (by simp) _).setCell (p := ⟨w.heap.size, 1, none⟩) (by simp) _⟩
  · go_enter Try.func23, Try.ntmps23
    go_wp2_with fail
    generalize w.alloc (.cells #[.int .u32 0, .int .u32 0] 24) = w0 at *
    refine (H1 _).out.mono ?_
    rintro e w1 ⟨rfl, rfl⟩
    go_wp2_with fail
    exact bodyPost_ret (results_cell2 rfl rfl (res_load (cs := #[.int .u32 (s : Int), .int .u32 (o : Int)]) ((q0.set_ 0 _).set_ 1 _) Try.underlying24 rfl (by kernel_rfl))) rfl ⟨rfl, (b0.setCell (p := ⟨w.heap.size, 0, none⟩) (by simp) _).setCell (p := ⟨w.heap.size, 1, none⟩) (by simp) _⟩

theorem rcompare_any (s o s' o' : Nat) (w : World) : Calls Try.prog 26 #[locV s o, locV s' o'] w fun e w' => e = .returned (.int .i64 (cmpL s o s' o')) ∧ Below w.heap.size w w' := by
  have hv := cmpL_vals s o s' o'
  obtain ⟨c, hc⟩ : ∃ c, c = cmpL s o s' o' := ⟨_, rfl⟩
  rw [← hc] at hv ⊢
  clear hc
  unfold locV
  have b0 := ((Below.refl w.heap.size w).alloc (Nat.le_refl _) (.cells #[.int .u32 (s : Int), .int .u32 (o : Int)] 24)).alloc (by simp) (.cells #[.int .u32 (s' : Int), .int .u32 (o' : Int)] 24)
  rcases Nat.lt_trichotomy s s' with h | h | h
  · obtain rfl : c = -1 := by omega
    clear hv
    go_enter Try.func26, Try.ntmps26
    go_wp2
    go_ret
    exact ⟨rfl, b0⟩
  · subst h
    rcases Nat.lt_trichotomy o o' with g | g | g
    · obtain rfl : c = -1 := by omega
      clear hv
      go_enter Try.func26, Try.ntmps26
      go_wp2
      go_ret
      exact ⟨rfl, b0⟩
    · subst g
      obtain rfl : c = 0 := by omega
      clear hv
      go_enter Try.func26, Try.ntmps26
      go_wp2
      go_ret
      exact ⟨rfl, b0⟩
    · obtain rfl : c = 1 := by omega
      clear hv
      have i1 : ¬ o < o' := by omega
      have i2 : ((o : Int) == (o' : Int)) = false := by simp; omega
      go_enter Try.func26, Try.ntmps26
      go_wp2
      go_ret
      exact ⟨rfl, b0⟩
  · obtain rfl : c = 1 := by omega
    clear hv
    have i1 : ¬ s < s' := by omega
    have i2 : ((s : Int) == (s' : Int)) = false := by simp; omega
    go_enter Try.func26, Try.ntmps26
    go_wp2
    go_ret
    exact ⟨rfl, b0⟩

set_option maxRecDepth 100000 in
set_option maxHeartbeats 1000000 in
theorem rputL_any (a : List UInt8) (A : Option Addr) (n c : Nat) (s o : Nat) (hs : s < 4294967296) (ho : o < 4294967296) (w : World) (h : Rd w w.heap.size 1 A n (bcells a)) (hn : n + 18 ≤ 140737488355328) :
    Calls Try.prog 24 #[.slice A n c, locV s o] w (RetLoc w (locB a s o).length (bcells (locB a s o)) (if mayL s o then 0 else 1)) := by
  have hln := h.1
  rw [bcells_len, Nat.mul_one] at hln
  have H1 := fun W => Lib.hid (rmay_any s o hs ho W)
  have hst : mayL s o = true → (noneB s o = true ∧ s = 0) ∨ (noneB s o = false ∧ 1 ≤ s ∧ 16 ≤ o) := fun h1 => by
    unfold mayL at h1
    cases h2 : noneB s o with
    | true => unfold noneB at h2; simp only [decide_eq_true_eq] at h2; exact .inl ⟨rfl, h2.1⟩
    | false =>
      rw [h2, Bool.false_or] at h1
      unfold standsB at h1
      simp only [decide_eq_true_eq] at h1
      exact .inr ⟨rfl, h1.1, h1.2.2.1⟩
  obtain ⟨R, hR⟩ : ∃ R, R = locB a s o := ⟨_, rfl⟩
  rw [← hR]
  unfold locB at hR
  obtain ⟨b, hb⟩ : ∃ b, b = mayL s o := ⟨_, rfl⟩
  rw [← hb] at hR H1 hst ⊢
  clear hb
  unfold locV at *
  have q0 := Blk.new w 24 #[.int .u32 (s : Int), .int .u32 (o : Int)]
  have b0 := (Below.refl w.heap.size w).alloc (Nat.le_refl _) (.cells #[.int .u32 (s : Int), .int .u32 (o : Int)] 24)
  have h0 := h.allocs (.cells #[.int .u32 (s : Int), .int .u32 (o : Int)] 24)
  generalize hw0 : w.alloc (.cells #[.int .u32 (s : Int), .int .u32 (o : Int)] 24) = w0 at *
  have HW0 := Lib.hid hw0
  clear hw0
  cases b
  · clear hst
    obtain rfl : R = [] := hR
    go_enter Try.func24, Try.ntmps24
    go_wp2_with fail
    rw [HW0.out]
    refine (H1 _).out.mono ?_
    rintro e w1 ⟨rfl, b1⟩
    go_wp2_with fail
    go_ret2
    exact ⟨_, rfl, World.ownsRow_nil _ _ _ _, b0.trans (b1.mono b0.size)⟩
  · have HP := fun W r => Lib.hid (rput_any a A n c s (by omega) W r (by omega))
    rcases hst rfl with ⟨e1, e2⟩ | ⟨e1, e2, l3⟩
    · rw [e1] at hR
      have HR := Lib.hid (show R = a ++ pform s from hR)
      have hs0 : ¬ 0 < s := by omega
      clear hR e1 hst e2
      go_enter Try.func24, Try.ntmps24
      go_wp2_with fail
      rw [HW0.out]
      refine (H1 _).out.mono ?_
      rintro e w1 ⟨rfl, b1⟩
      have q1 := q0.after b1
      have c0 := q1.cell 0
      have c1 := q1.cell 1
      go_wp2_with fail
      refine (HP _ (h0.after b1)).out.mono ?_
      rintro e w2 ⟨v2, rfl, o2, b2⟩
      have q2 := q1.after b2
      have c0' := q2.cell 0
      have c1' := q2.cell 1
      go_wp2_with fail
      go_ret2
      have hbw := belowGo b1 b2
      refine ⟨_, rfl, ?_, b0.trans (hbw.mono b0.size)⟩
      have e1 : R.length = n + psize s := by rw [HR.out]; simp [pform_len, hln]
      rw [e1, HR.out]
      exact own_low o2 (by have := b0.size; have := b1.size; omega)
    · obtain ⟨m, hm⟩ : ∃ m, m = o - 16 := ⟨_, rfl⟩
      have hom : (o : Int) - 16 = (m : Int) := by omega
      have hps := psize_le s
      rw [e1] at hR
      have HR := Lib.hid (show R = a ++ pform s ++ pform m by rw [hR, hm]; rfl)
      have HQ := fun A' c' W r => Lib.hid (rput_any (a ++ pform s) A' (n + psize s) c' m (by omega) W r (by omega))
      clear hm hst hR e1
      go_enter Try.func24, Try.ntmps24
      go_wp2_with fail
      rw [HW0.out]
      refine (H1 _).out.mono ?_
      rintro e w1 ⟨rfl, b1⟩
      have q1 := q0.after b1
      have c0 := q1.cell 0
      have c1 := q1.cell 1
      go_wp2_with fail
      refine (HP _ (h0.after b1)).out.mono ?_
      rintro e w2 ⟨v2, rfl, o2, b2⟩
      have q2 := q1.after b2
      have c0' := q2.cell 0
      have c1' := q2.cell 1
      obtain ⟨g2, cc2, rfl, _, _⟩ := own_ptr o2 (by have := psize_pos s; omega)
      go_wp2_with fail
      refine (HQ _ _ _ (own_rd o2)).out.mono ?_
      rintro e w4 ⟨v4, rfl, o4, b4⟩
      go_wp2_with fail
      go_ret2
      have hbw := belowGo b1 b2
      have hbx := belowGo hbw b4
      refine ⟨_, rfl, ?_, b0.trans (hbx.mono b0.size)⟩
      have e1 : R.length = n + psize s + psize m := by rw [HR.out]; simp [pform_len, hln]; omega
      rw [e1, HR.out]
      exact own_low o4 (by have := b0.size; have := hbw.size; omega)

set_option maxRecDepth 100000 in
set_option maxHeartbeats 4000000 in
theorem rgetL_any (l : List UInt8) (A : Option Addr) (n c : Nat) (w : World) (hnc : n ≤ c) (h : Rd w w.heap.size 1 A n (bcells l)) :
    Calls Try.prog 25 #[.slice A n c] w (RetGet (locGetP l).1 (locGetP l).2.1 (locGetP l).2.2.1 (locGetP l).2.2.2 w) := by
  have hln := h.1
  have hmx := h.2.1
  unfold maxLen at hmx
  rw [bcells_len, Nat.mul_one] at hln
  obtain ⟨⟨s, o, m, E⟩, hR⟩ : ∃ R, R = locGetP l := ⟨_, rfl⟩
  rw [← hR]
  simp only
  unfold locGetP at hR
  have hle := getP_n_le l
  have hlt := getP_lt l
  have HG := fun W r => Lib.hid (rget_any l A n c W hnc r)
  have HD := fun A' n' c' W h1 r => Lib.hid (rget_any (l.drop (getP l).2.1) A' n' c' W h1 r)
  have hle2 := getP_n_le (l.drop (getP l).2.1)
  have hlt2 := getP_lt (l.drop (getP l).2.1)
  have hz := getP_any l
  generalize hp : getP (l.drop (getP l).2.1) = p2 at *
  generalize hp1 : getP l = p1 at *
  obtain ⟨g1, k1, e1⟩ := p1
  obtain ⟨g2, k2, e2⟩ := p2
  simp only at *
  have hk1 : k1 ≤ n := by omega
  have hk2 : k2 ≤ n - k1 := by rw [List.length_drop] at hle2; omega
  have hpos := getP_pos l
  rw [hp1] at hpos
  simp only at hpos
  clear hp hp1 hle hle2
  have Q0 := Blk.new w 24 #[.int .u32 0, .int .u32 0]
  have B0 := (Below.refl w.heap.size w).alloc (Nat.le_refl _) (.cells #[.int .u32 0, .int .u32 0] 24)
  have h0 := h.allocs (.cells #[.int .u32 0, .int .u32 0] 24)
  have HR := Lib.hid hR
  have HP := Lib.hid hpos
  clear hR hpos h
  by_cases he1 : e1 = 0
  · subst he1
    obtain ⟨hk1', hn0⟩ := HP.out rfl
    clear hz
    by_cases hg : g1 = 0
    · subst hg
      obtain ⟨rfl, rfl, rfl, rfl⟩ : s = 0 ∧ o = 0 ∧ m = k1 ∧ E = 0 := by have := HR.out; simpa using this
      clear HR HP
      go_enter Try.func25, Try.ntmps25
      go_wp2_with fail
      generalize w.alloc (.cells #[.int .u32 0, .int .u32 0] 24) = w0 at *
      refine (HG _ h0).out.mono ?_
      rintro e w1 ⟨rfl, b1⟩
      have h0 := h0.after b1
      have Q0 := Q0.after b1
      have B0 := B0.trans (b1.mono B0.size)
      have c0 := Q0.cell 0
      have c1 := Q0.cell 1
      have f0 := Q0.frozen 0
      have f1 := Q0.frozen 1
      clear b1
      go_wp2_with fail
      exact bodyPost_ret (results_cell3 rfl rfl (res_load (cs := #[.int .u32 0, .int .u32 0]) ((Q0.set_ 0 _).set_ 1 _) Try.underlying24 rfl (by kernel_rfl))) rfl ⟨rfl, (B0.setCell (p := ⟨w.heap.size, 0, none⟩) (by simp) _).setCell (p := ⟨w.heap.size, 1, none⟩) (by simp) _⟩
    · obtain ⟨b, off, rfl, hblk, _⟩ := h0.2.2 (by omega)
      clear hblk
      obtain ⟨A', hA', hR'⟩ : ∃ A' : Option Addr, (if c = k1 then (some ⟨b, off, none⟩ : Option Addr) else some ⟨b, off + k1, none⟩) = A' ∧ ∀ W, Rd W W.heap.size 1 (some ⟨b, off, none⟩) n (bcells l) → Rd W W.heap.size 1 A' (n - k1) (bcells (l.drop k1)) := by
        refine ⟨_, rfl, fun W r => ?_⟩
        by_cases hc : c = k1
        · have : n - k1 = 0 := by omega
          rw [if_pos hc, this, List.drop_of_length_le (by omega)]
          exact Rd.nil_ _ _ _ _
        · rw [if_neg hc]
          exact r.bdrop hk1
      have hSl : ∀ W : World, (Instr.sliceAt 30 (.slice (some ⟨b, off, none⟩) n c) (some (.int .i64 (k1 : Int))) none none).run Try.prog W = .ok (.slice A' (n - k1) (c - k1)) W := fun W => by
        rw [← hA']
        exact run_low W hk1 hnc
      have i1 : ((g1 : Int) == 0) = false := by simp; omega
      go_enter Try.func25, Try.ntmps25
      go_wp2_with fail
      generalize w.alloc (.cells #[.int .u32 0, .int .u32 0] 24) = w0 at *
      refine (HG _ h0).out.mono ?_
      rintro e w1 ⟨rfl, b1⟩
      have h0 := h0.after b1
      have Q0 := Q0.after b1
      have B0 := B0.trans (b1.mono B0.size)
      have c0 := Q0.cell 0
      have c1 := Q0.cell 1
      have f0 := Q0.frozen 0
      have f1 := Q0.frozen 1
      clear b1
      go_wp2_with fail
      have HD2 := fun W r => Lib.hid (HD A' (n - k1) (c - k1) W (by omega) r).out
      clear HD hSl hA'
      refine (HD2 _ (hR' _ h0)).out.mono ?_
      rintro e w2 ⟨rfl, b1⟩
      have h0 := h0.after b1
      have Q0 := Q0.after b1
      have B0 := B0.trans (b1.mono B0.size)
      have c0 := Q0.cell 0
      have c1 := Q0.cell 1
      have f0 := Q0.frozen 0
      have f1 := Q0.frozen 1
      clear b1
      by_cases he2 : e2 = 0
      · subst he2
        by_cases hbig : 4294967296 < g2
        · have hnm : mayL g1 (g2 + 16) = false := by
            unfold mayL noneB standsB
            simp only [Bool.or_eq_false_iff, decide_eq_false_iff_not]
            omega
          obtain ⟨rfl, rfl, rfl, rfl⟩ : s = 0 ∧ o = 0 ∧ m = 0 ∧ E = 5 := by have := HR.out; simpa [hg, hnm] using this
          clear HR HP hnm
          go_wp2_with fail
          exact bodyPost_ret (results_cell3 rfl rfl (res_load (cs := #[.int .u32 0, .int .u32 0]) ((Q0.set_ 0 _).set_ 1 _) Try.underlying24 rfl (by kernel_rfl))) rfl ⟨rfl, (B0.setCell (p := ⟨w.heap.size, 0, none⟩) (by simp) _).setCell (p := ⟨w.heap.size, 1, none⟩) (by simp) _⟩
        · have HT := fun W => Lib.hid (within_any g1 (g2 + 16) W)
          have HR2 := Lib.hid (show (s, o, m, E) = if mayL g1 (g2 + 16) then (g1, g2 + 16, k1 + k2, 0) else (0, 0, 0, 5) by have := HR.out; simpa [hg] using this)
          have hml := @mayL_lt g1 (g2 + 16)
          clear HR HP
          generalize mayL g1 (g2 + 16) = bt at *
          cases bt
          · obtain ⟨rfl, rfl, rfl, rfl⟩ : s = 0 ∧ o = 0 ∧ m = 0 ∧ E = 5 := by have := HR2.out; simpa using this
            clear HR2 hml
            go_wp2_with fail
            refine (HT _).out.mono ?_
            rintro e w3 ⟨rfl, rfl⟩
            go_wp2_with fail
            exact bodyPost_ret (results_cell3 rfl rfl (res_load (cs := #[.int .u32 0, .int .u32 0]) ((Q0.set_ 0 _).set_ 1 _) Try.underlying24 rfl (by kernel_rfl))) rfl ⟨rfl, (B0.setCell (p := ⟨w.heap.size, 0, none⟩) (by simp) _).setCell (p := ⟨w.heap.size, 1, none⟩) (by simp) _⟩
          · obtain ⟨m1, m2⟩ := hml rfl
            obtain ⟨rfl, rfl, rfl, rfl⟩ : s = g1 ∧ o = g2 + 16 ∧ m = k1 + k2 ∧ E = 0 := by have := HR2.out; simpa using this
            clear HR2 hml
            go_wp2_with fail
            refine (HT _).out.mono ?_
            rintro e w3 ⟨rfl, rfl⟩
            go_wp2_with fail
            exact bodyPost_ret (results_cell3 rfl rfl (res_load (cs := #[.int .u32 (s : Int), .int .u32 ((g2 + 16 : Nat) : Int)]) ((Q0.set_ 0 _).set_ 1 _) Try.underlying24 rfl (by kernel_rfl))) rfl ⟨rfl, (B0.setCell (p := ⟨w.heap.size, 0, none⟩) (by simp) _).setCell (p := ⟨w.heap.size, 1, none⟩) (by simp) _⟩
      · obtain ⟨rfl, rfl, rfl, rfl⟩ : s = 0 ∧ o = 0 ∧ m = 0 ∧ E = e2 := by have := HR.out; simpa [hg, he2] using this
        clear HR HP
        have i2 : ((E : Int) != 0) = true := by simp; omega
        go_wp2_with fail
        exact bodyPost_ret (results_cell3 rfl rfl (res_load (cs := #[.int .u32 0, .int .u32 0]) ((Q0.set_ 0 _).set_ 1 _) Try.underlying24 rfl (by kernel_rfl))) rfl ⟨rfl, (B0.setCell (p := ⟨w.heap.size, 0, none⟩) (by simp) _).setCell (p := ⟨w.heap.size, 1, none⟩) (by simp) _⟩
  · obtain ⟨rfl, rfl, rfl, rfl⟩ : s = 0 ∧ o = 0 ∧ m = k1 ∧ E = e1 := by have := HR.out; simpa [he1] using this
    obtain rfl : m = 0 := by rcases hz with ⟨h1, _⟩ | ⟨_, _, h1⟩; exact absurd h1 he1; exact h1
    clear HR HP hz
    have i2 : ((E : Int) != 0) = true := by simp; omega
    go_enter Try.func25, Try.ntmps25
    go_wp2_with fail
    generalize w.alloc (.cells #[.int .u32 0, .int .u32 0] 24) = w0 at *
    refine (HG _ h0).out.mono ?_
    rintro e w1 ⟨rfl, b1⟩
    have h0 := h0.after b1
    have Q0 := Q0.after b1
    have B0 := B0.trans (b1.mono B0.size)
    have c0 := Q0.cell 0
    have c1 := Q0.cell 1
    have f0 := Q0.frozen 0
    have f1 := Q0.frozen 1
    clear b1
    go_wp2_with fail
    exact bodyPost_ret (results_cell3 rfl rfl (res_load (cs := #[.int .u32 0, .int .u32 0]) ((Q0.set_ 0 _).set_ 1 _) Try.underlying24 rfl (by kernel_rfl))) rfl ⟨rfl, (B0.setCell (p := ⟨w.heap.size, 0, none⟩) (by simp) _).setCell (p := ⟨w.heap.size, 1, none⟩) (by simp) _⟩
end Go.Proofs.Ytohddbehcfoecaa
