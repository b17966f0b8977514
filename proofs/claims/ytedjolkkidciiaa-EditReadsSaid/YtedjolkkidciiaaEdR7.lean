/- The document's edits: Get. For every bytes. -/
import Derived.Test.YtedjolkkidciiaaEdR6
import Derived.Test.YtedjolkkidciiaaEdR1
import Derived.Test.YtedjolkkidciiaaEdR4
import Derived.Test.YtedjolkkidciiaaGB
namespace Go.Proofs.Ytedjolkkidciiaa
open Go.RowKit
attribute [local go_sem] Oper.semAt_some

theorem bcells_get' {l : List UInt8} {k : Nat} {u : UInt8} (h : l[k]? = some u) : (bcells l)[k]? = some (.int .u8 (u.toNat : Int)) := by
  unfold bcells
  rw [List.getElem?_map, h]
  rfl
theorem takeW_le {l : List UInt8} {n at_ wr : Nat} (h : at_ ≤ l.length) : (takeW l n at_ wr).2.1 ≤ l.length := by
  unfold takeW
  split
  · split
    · exact h
    · show at_ + n ≤ _; omega
  · exact h
theorem slsW_step {many j last at_ : Nat} {l : List UInt8} (h : j < many) : slsW (many - j) last l at_ 0 = ((slW last l at_ 0).1 :: (slsW (many - (j + 1)) (slW last l at_ 0).1.id l (slW last l at_ 0).2.1 (slW last l at_ 0).2.2).1, (slsW (many - (j + 1)) (slW last l at_ 0).1.id l (slW last l at_ 0).2.1 (slW last l at_ 0).2.2).2) := by
  rw [show many - j = (many - (j + 1)) + 1 by omega]
  rfl
theorem slCells_snoc' (d : List Sl) (s : Sl) : slCells (d ++ [s]) = slCells d ++ s.cells := by
  unfold slCells
  rw [List.flatMap_append]
  simp
/-- where the reading stands -/
def RG (w : World) (gE gW : Nat) (E : Array Value) (A : Option Addr) (n c at_ wr : Nat) (W : World) : Prop :=
  Blk W w.heap.size 32 #[.int .i64 0, .string ⟨#[]⟩, .int .u64 0, .int .u32 0, .slice none 0 0] ∧ Blk W gE 32 E ∧ Blk W gW 62 (WalkC A n c at_ wr) ∧ Below w.heap.size w W

set_option maxRecDepth 100000 in
set_option maxHeartbeats 8000000 in
theorem rgetE_any (l : List UInt8) (A : Option Addr) (n c : Nat) (w : World) (hnc : n ≤ c) (hr : Rd w w.heap.size 1 A n (bcells l)) : Calls Try.prog 11 #[.slice A n c] w (RetGetE w l) := by
  have hlen := hr.1
  have hmx := hr.2.1
  unfold maxLen at hmx
  rw [bcells_len, Nat.mul_one] at hlen
  obtain ⟨R, hR⟩ : ∃ R, R = rgetW l := ⟨_, rfl⟩
  have hRR := hR.trans (rgetW_get l)
  unfold RetGetE
  rw [← hRR]
  clear hRR
  have q2 := Blk.new w 32 #[.int .i64 0, .string ⟨#[]⟩, .int .u64 0, .int .u32 0, .slice none 0 0]
  have hb := belowAlloc (Below.refl w.heap.size w) (.cells #[.int .i64 0, .string ⟨#[]⟩, .int .u64 0, .int .u32 0, .slice none 0 0] 32)
  by_cases h0 : n = 0
  · subst h0
    have hR : R = (Ed.none, 4) := by rw [hR]; unfold rgetW; rw [if_pos (by omega)]
    subst hR
    have Q2 := Lib.hid (q2.row #[.int .i64 0, .string ⟨#[]⟩, .int .u64 0, .int .u32 0, .slice none 0 0])
    have QQ := Lib.hid q2
    have HB := Lib.hid (row_below hb (Nat.le_refl _) #[.int .i64 0, .string ⟨#[]⟩, .int .u64 0, .int .u32 0, .slice none 0 0])
    clear q2 hb hlen hr
    go_enter Try.func11, Try.ntmps11
    go_upto_region 1 with (fail)
    generalize w.alloc (.cells #[.int .i64 0, .string ⟨#[]⟩, .int .u64 0, .int .u32 0, .slice none 0 0] 32) = w1 at *
    go_wp2_with (first
      | (refine wpList_storeB rfl 32 (.tmp 2) (.tmp 18) rfl rfl rfl QQ.out (by kernel_rfl) (by rfl) (by simp [Value.oneCell']) ?_)
      | fail)
    refine bodyPost_ret (results_cell2 rfl rfl (res_load Q2.out Try.underlying32 rfl (by kernel_rfl))) rfl ⟨.slice none 0 0, rfl, World.ownsRow_nil _ _ _ _, HB.out⟩
  obtain ⟨b0, off, rfl, hbl, hcell⟩ := hr.2.2 (by omega)
  obtain ⟨ch, hch⟩ : ∃ ch, l[0]? = some ch := ⟨l[0]'(by omega), List.getElem?_eq_getElem _⟩
  have hc0 := hcell 0 _ (bcells_get' hch)
  have hkl : kindOf l = ((ch.toNat : Nat) : Int) := by unfold kindOf; rw [List.getD_eq_getElem?_getD, hch]; rfl
  obtain ⟨kn, hkn⟩ : ∃ k, k = ch.toNat := ⟨_, rfl⟩
  have hkb : kn < 256 := by rw [hkn]; exact ch.toNat_lt
  rw [← hkn] at hc0 hkl
  rw [Nat.add_zero] at hc0
  clear hkn hch
  have hc1 : (w.alloc (.cells #[.int .i64 0, .string ⟨#[]⟩, .int .u64 0, .int .u32 0, .slice none 0 0] 32)).cell? ⟨b0, off, none⟩ = some (.int .u8 (kn : Int)) := (hb.cell (p := ⟨b0, off, none⟩) hbl).trans hc0
  have hR2 : R = if isKind (kn : Int) = false then (Ed.none, 5) else restS (kn : Int) l 1 0 := by rw [hR]; unfold rgetW; rw [if_neg (by omega), hkl]
  clear hR hkl hc0
  obtain ⟨A, hA⟩ : ∃ A : Option Addr, A = some ⟨b0, off, none⟩ := ⟨_, rfl⟩
  have hr' := hr
  rw [← hA] at hr'
  have HR := Lib.hid hr'
  have HLEN := Lib.hid hlen
  have h1n : 1 ≤ n := by omega
  have h0i : ¬ (n : Int) = 0 := by omega
  have h0p : 0 < (n : Int) := by omega
  clear hcell hr' hr
  go_enter Try.func11, Try.ntmps11
  go_upto_region 1 with (fail)
  generalize w.alloc (.cells #[.int .i64 0, .string ⟨#[]⟩, .int .u64 0, .int .u32 0, .slice none 0 0] 32) = w1 at *
  have qe := Blk.new w1 32 #[.int .i64 (kn : Int), .string ⟨#[]⟩, .int .u64 0, .int .u32 0, .slice none 0 0]
  have hq2 := q2.lt
  have q2 := q2.alloc (.cells #[.int .i64 (kn : Int), .string ⟨#[]⟩, .int .u64 0, .int .u32 0, .slice none 0 0] 32)
  have hb := belowAlloc hb (.cells #[.int .i64 (kn : Int), .string ⟨#[]⟩, .int .u64 0, .int .u32 0, .slice none 0 0] 32)
  go_upto_region 4 with (fail)
  obtain ⟨gE, hgE⟩ : ∃ g, g = w1.heap.size := ⟨_, rfl⟩
  generalize w1.alloc (.cells #[.int .i64 (kn : Int), .string ⟨#[]⟩, .int .u64 0, .int .u32 0, .slice none 0 0] 32) = w2 at *
  rw [← hgE] at qe hq2 ⊢
  clear hgE hc1
  have Q2 := Lib.hid q2
  have QE := Lib.hid qe
  have HB := Lib.hid hb
  have c0 : w2.cell? ⟨gE, 0, none⟩ = some (.int .i64 (kn : Int)) := qe.cell 0
  clear q2 qe hb
  cases hk : isKind (kn : Int) with
  | false =>
    have hR3 : R = (Ed.none, 5) := by rw [hR2, if_pos hk]
    subst hR3
    have Q3 := Lib.hid (Q2.out.row #[.int .i64 0, .string ⟨#[]⟩, .int .u64 0, .int .u32 0, .slice none 0 0])
    have HB2 := Lib.hid (row_below HB.out (Nat.le_refl _) #[.int .i64 0, .string ⟨#[]⟩, .int .u64 0, .int .u32 0, .slice none 0 0])
    by_cases k1 : (kn : Int) < 1
    · clear hk hR2
      go_wp2_with (first
        | (refine wpList_storeB rfl 32 (.tmp 2) (.tmp 32) rfl rfl rfl Q2.out (by kernel_rfl) (by rfl) (by simp [Value.oneCell']) ?_)
        | fail)
      refine bodyPost_ret (results_cell2 rfl rfl (res_load Q3.out Try.underlying32 rfl (by kernel_rfl))) rfl ⟨.slice none 0 0, rfl, World.ownsRow_nil _ _ _ _, HB2.out⟩
    · have k2 : 6 < (kn : Int) := by unfold isKind at hk; simp at hk; omega
      clear hk hR2
      go_wp2_with (first
        | (refine wpList_storeB rfl 32 (.tmp 2) (.tmp 32) rfl rfl rfl Q2.out (by kernel_rfl) (by rfl) (by simp [Value.oneCell']) ?_)
        | fail)
      refine bodyPost_ret (results_cell2 rfl rfl (res_load Q3.out Try.underlying32 rfl (by kernel_rfl))) rfl ⟨.slice none 0 0, rfl, World.ownsRow_nil _ _ _ _, HB2.out⟩
  | true =>
    have hR3 : R = restS (kn : Int) l 1 0 := by rw [hR2, if_neg (by rw [hk]; decide)]
    have k1 : ¬ (kn : Int) < 1 := by unfold isKind at hk; simp at hk; omega
    have k2 : ¬ 6 < (kn : Int) := by unfold isKind at hk; simp at hk; omega
    clear hR2 hk
    have qw := Blk.new w2 62 #[.slice A n c, .int .i64 1, .int .i64 0]
    have hqe := QE.out.lt
    have Q2 := Lib.hid (Q2.out.alloc (.cells #[.slice A n c, .int .i64 1, .int .i64 0] 62))
    have QE := Lib.hid (QE.out.alloc (.cells #[.slice A n c, .int .i64 1, .int .i64 0] 62))
    have HB := Lib.hid (belowAlloc HB.out (.cells #[.slice A n c, .int .i64 1, .int .i64 0] 62))
    rw [← hA]
    clear hA
    go_upto_region 7 with (fail)
    obtain ⟨gW, hgW⟩ : ∃ g, g = w2.heap.size := ⟨_, rfl⟩
    generalize w2.alloc (.cells #[.slice A n c, .int .i64 1, .int .i64 0] 62) = w3 at *
    rw [← hgW] at qw hqe ⊢
    have QW : Hid (Blk w3 gW 62 (WalkC A n c 1 0)) := Lib.hid qw
    clear hgW qw c0
    have c0 : w3.cell? ⟨gE, 0, none⟩ = some (.int .i64 (kn : Int)) := QE.out.cell 0
    have PA := Lib.hid (rparts_any (kn : Int) w3)
    unfold partsV at PA
    unfold restS restN restI restM sealsW at hR3
    obtain ⟨hs, h1⟩ : ∃ h, h = hasSeq (kn : Int) := ⟨_, rfl⟩
    obtain ⟨hq, h2⟩ : ∃ h, h = hasName (kn : Int) := ⟨_, rfl⟩
    obtain ⟨hi, h3⟩ : ∃ h, h = hasId (kn : Int) := ⟨_, rfl⟩
    obtain ⟨hl, h4⟩ : ∃ h, h = hasSeals (kn : Int) := ⟨_, rfl⟩
    rw [← h1, ← h2, ← h3, ← h4] at PA
    obtain ⟨p, hp⟩ : ∃ p, p = seqW (kn : Int) l 1 0 := ⟨_, rfl⟩
    rw [← hp] at hR3
    unfold seqW at hp
    rw [← h1] at hp
    obtain ⟨sq, at1, wr1⟩ := p
    obtain ⟨p, hp2⟩ : ∃ p, p = nameW (kn : Int) l at1 wr1 := ⟨_, rfl⟩
    rw [← hp2] at hR3
    unfold nameW at hp2
    rw [← h2] at hp2
    obtain ⟨nm, at2, wr2⟩ := p
    obtain ⟨p, hp3⟩ : ∃ p, p = idW (kn : Int) l at2 wr2 := ⟨_, rfl⟩
    rw [← hp3] at hR3
    unfold idW at hp3
    rw [← h3] at hp3
    obtain ⟨id, at3, wr3⟩ := p
    obtain ⟨p, hp4⟩ : ∃ p, p = manyW (kn : Int) l at3 wr3 := ⟨_, rfl⟩
    rw [← hp4] at hR3
    unfold manyW at hp4
    obtain ⟨many, at4, wr4⟩ := p
    dsimp only at hR3
    have HP1 := Lib.hid hp
    have HP2 := Lib.hid hp2
    have HP3 := Lib.hid hp3
    have HP4 := Lib.hid hp4
    have HRR := Lib.hid hR3
    clear hp hp2 hp3 hp4 hR3 h1 h2 h3 h4 hlen
    go_wp2_with fail
    refine PA.out.mono ?_
    rintro e w4 ⟨rfl, rfl⟩
    clear PA
    clear c0
    have hl1 : at1 ≤ n := by
      have h := HP1.out
      cases hs with
      | true => have := numW_le (least := 0) (most := 1099511627776) (l := l) (at_ := 1) (wr := 0) (by have := HLEN.out; omega); rw [if_pos rfl] at h; rw [← h] at this; have h2 := HLEN.out; dsimp only at this; omega
      | false => rw [if_neg (by decide)] at h; injection h with h1 h2; injection h2 with h2 h3; omega
    have hs1 : sq < 18446744073709551616 := by
      have h := HP1.out
      cases hs with
      | true => have := numW_lt (least := 0) (most := 1099511627776) (l := l) (at_ := 1) (wr := 0); rw [if_pos rfl] at h; rw [← h] at this; exact this
      | false => rw [if_neg (by decide)] at h; injection h with h1 h2; omega
    go_upto_if 44 with (fail)
    go_cut [] from 44 to 47 (fun wx => RG w gE gW #[.int .i64 (kn : Int), .string ⟨#[]⟩, .int .u64 (sq : Int), .int .u32 0, .slice none 0 0] A n c at1 wr1 wx)
    case first =>
      cases hs with
      | false =>
        have h := HP1.out
        rw [if_neg (by decide)] at h
        injection h with h1 h2
        injection h2 with h2 h3
        subst h1
        subst h2
        subst h3
        go_wp2_with fail
        go_meet
        case rel => exact ⟨Q2.out, QE.out, QW.out, HB.out⟩
      | true =>
        have h := HP1.out
        rw [if_pos rfl] at h
        have HN := Lib.hid h.symm
        clear h
        have N := Lib.hid (rnum_any 0 1099511627776 l w.heap.size gW A n c 1 0 w3 QW.out (HR.out.below HB.out (Nat.le_refl _)) hnc (by omega) h1n)
        unfold RetNum at N
        rw [HN.out] at N
        go_wp2_with fail
        refine N.out.mono ?_
        rintro e w5 ⟨rfl, qx, gx⟩
        have Q2 := Lib.hid (Q2.out.grown gx (fun h => by injection h with h; omega))
        have QE := Lib.hid (QE.out.grown gx (fun h => by injection h with h; omega))
        have HB := Lib.hid (below_but HB.out gx (by omega) HB.out.size)
        have QW : Hid (Blk w5 gW 62 (WalkC A n c at1 wr1)) := Lib.hid qx
        clear N gx qx
        have fE : w5.frozen? ⟨gE, 2, none⟩ = false := QE.out.frozen 2
        have kE := QE.out.cell 2
        have QE2 : Hid (Blk (w5.setCell ⟨gE, 2, none⟩ (.int .u64 (sq : Int))) gE 32 #[.int .i64 (kn : Int), .string ⟨#[]⟩, .int .u64 (sq : Int), .int .u32 0, .slice none 0 0]) := Lib.hid (QE.out.set_ 2 (.int .u64 (sq : Int)))
        have Q22 := Lib.hid (Q2.out.far (p := ⟨gE, 2, none⟩) (show w.heap.size ≠ gE by omega) (.int .u64 (sq : Int)))
        have QW2 := Lib.hid (QW.out.far (p := ⟨gE, 2, none⟩) (show gW ≠ gE by omega) (.int .u64 (sq : Int)))
        have HB2 := Lib.hid (HB.out.setCell (p := ⟨gE, 2, none⟩) (show w.heap.size ≤ gE by omega) (.int .u64 (sq : Int)))
        go_wp2_with fail
        go_meet
        case rel => exact ⟨Q22.out, QE2.out, QW2.out, HB2.out⟩
    case rest =>
    obtain ⟨q2, qe, qw, hb⟩ := hcut
    have Q2 := Lib.hid q2
    have QE := Lib.hid qe
    have QW := Lib.hid qw
    have HB := Lib.hid hb
    clear q2 qe qw hb
    go_upto_if 48 with (fail)
    go_cut [10] from 48 to 98 (fun v10 wx => RG w gE gW #[.int .i64 (kn : Int), .string ⟨nm.toArray⟩, .int .u64 (sq : Int), .int .u32 0, .slice none 0 0] A n c at2 wr2 wx)
    case first =>
      cases hq with
      | false =>
        have h := HP2.out
        rw [if_neg (by decide)] at h
        injection h with h1 h2
        injection h2 with h2 h3
        subst h1
        subst h2
        subst h3
        go_wp2_with fail
        go_meet
        case rel => exact ⟨Q2.out, QE.out, QW.out, HB.out⟩
      | true =>
        have h := HP2.out
        rw [if_pos rfl] at h
        obtain ⟨p, hp⟩ : ∃ p, p = numW 1 32 l at1 wr1 := ⟨_, rfl⟩
        have hx := numW_most (least := 1) (most := 32) (l := l) (at_ := at1) (wr := wr1)
        have hax := numW_le (least := 1) (most := 32) (l := l) (at_ := at1) (wr := wr1) (by have := HLEN.out; omega)
        rw [← hp] at h hx hax
        obtain ⟨x, atx, wrx⟩ := p
        dsimp only at h hx hax
        rw [HLEN.out] at hax
        have HN := Lib.hid hp.symm
        unfold takeW at h
        rw [HLEN.out] at h
        have HT := Lib.hid h
        clear h hp HP2 HP1
        have N := Lib.hid (rnum_any 1 32 l w.heap.size gW A n c at1 wr1 wc QW.out (HR.out.below HB.out (Nat.le_refl _)) hnc (by omega) hl1)
        unfold RetNum at N
        rw [HN.out] at N
        go_wp2_with fail
        refine N.out.mono ?_
        rintro e w5 ⟨rfl, qx, gx⟩
        have Q2 := Lib.hid (Q2.out.grown gx (fun h => by injection h with h; omega))
        have QE := Lib.hid (QE.out.grown gx (fun h => by injection h with h; omega))
        have HB := Lib.hid (below_but HB.out gx (by omega) HB.out.size)
        have QW : Hid (Blk w5 gW 62 (WalkC A n c atx wrx)) := Lib.hid qx
        clear N gx qx
        have hxi : (x : Int) ≤ 32 := by omega
        have c1 : w5.cell? ⟨gW, 1, none⟩ = some (.int .i64 (atx : Int)) := QW.out.cell 1
        have c2 : w5.cell? ⟨gW, 2, none⟩ = some (.int .i64 (wrx : Int)) := QW.out.cell 2
        by_cases hw : wrx = 0
        rotate_left
        · skip
          have h := HT.out
          rw [if_neg hw] at h
          injection h with h1 h2
          injection h2 with h2 h3
          subst h1
          subst h2
          subst h3
          have hwi : ¬ (wr2 : Int) = 0 := by omega
          clear hw
          go_wp2_with fail
          go_meet
          case rel => exact ⟨Q2.out, QE.out, QW.out, HB.out⟩
        subst hw
        have c2 : w5.cell? ⟨gW, 2, none⟩ = some (.int .i64 0) := c2
        have h := HT.out
        rw [if_pos rfl] at h
        obtain ⟨d, hd⟩ : ∃ d, d = n - atx := ⟨_, rfl⟩
        have hdi : (n : Int) - (atx : Int) = (d : Int) := by omega
        rw [← hd] at h
        by_cases hdx : d < x
        · skip
          rw [if_pos hdx] at h
          injection h with h1 h2
          injection h2 with h2 h3
          subst h1
          subst h2
          subst h3
          have hdxi : (d : Int) < (x : Int) := by omega
          have fW : w5.frozen? ⟨gW, 2, none⟩ = false := QW.out.frozen 2
          have QW2 : Hid (Blk (w5.setCell ⟨gW, 2, none⟩ (.int .i64 4)) gW 62 (WalkC A n c at2 4)) := Lib.hid (QW.out.set_ 2 (.int .i64 4))
          have Q22 := Lib.hid (Q2.out.far (p := ⟨gW, 2, none⟩) (show w.heap.size ≠ gW by omega) (.int .i64 4))
          have QE2 := Lib.hid (QE.out.far (p := ⟨gW, 2, none⟩) (show gE ≠ gW by omega) (.int .i64 4))
          have HB2 := Lib.hid (HB.out.setCell (p := ⟨gW, 2, none⟩) (show w.heap.size ≤ gW by omega) (.int .i64 4))
          have c2b : (w5.setCell ⟨gW, 2, none⟩ (.int .i64 4)).cell? ⟨gW, 2, none⟩ = some (.int .i64 4) := QW2.out.cell 2
          clear hd hdx HT
          go_upto_region 14 with (fail)
          clear c1 c2 fW
          generalize w5.setCell ⟨gW, 2, none⟩ (.int .i64 4) = w6 at *
          go_wp2_with fail
          go_meet
          case rel => exact ⟨Q22.out, QE2.out, QW2.out, HB2.out⟩
        rw [if_neg hdx] at h
        injection h with h1 h2
        injection h2 with h2 h3
        have hdxi : ¬ (d : Int) < (x : Int) := by omega
        have hlh := fun W => Lib.hid (run_lh W (A := A) (n := n) (c := c) (i := atx) (k := at2) (by omega) (by omega) (atx : Int) (at2 : Int) rfl rfl)
        have r1 := HR.out.cut hnc (i := atx) (k := at2) (by omega) (by omega)
        have e1 : (l.take at2).drop atx = nm := by rw [h1, h2, List.drop_take]; congr 1; omega
        rw [e1] at r1
        have e3 : at2 - atx = x := by omega
        rw [e3] at r1 hlh
        have ha2 : (atx : Int) + (x : Int) = (at2 : Int) := by omega
        have ha2n : at2 ≤ n := by omega
        obtain ⟨S, hS⟩ : ∃ S : ByteArray, S = ⟨nm.toArray⟩ := ⟨_, rfl⟩
        have hcv : ∀ W, Below w.heap.size w W → ∀ c', (convert 22 9 (.slice (cutA A c atx) x c')).run Try.prog W = .ok (.string S) W := fun W hW c' => by
          rw [hS]; exact run_conv (P := Try.prog) Try.underlying22 Try.underlying5 Try.underlying9 c' (r1.below hW (Nat.le_refl _))
        have HCV := Lib.hid hcv
        have HS := Lib.hid hS
        subst h3
        clear h1 h2 hd hdx HT hS r1 e1 e3 hcv HN
        go_upto_region 15 with (fail)
        have hcur : Below w.heap.size w w5.drew := ⟨HB.out.os, HB.out.tape, HB.out.output, HB.out.size, HB.out.block⟩
        have Q2 : Hid (Blk w5.drew _ _ _) := Q2
        have QE : Hid (Blk w5.drew _ _ _) := QE
        have QW : Hid (Blk w5.drew _ _ _) := QW
        refine wp_region_plan (fun W => W = w5.drew) [.calms [0, 1, 5, 9], .read 2, .calms [3], .read 4, .read 6, .calms [7], .read 8, .calms [10, 11], .act 12, .calms [13], .act 14] (by kernel_rfl) (by rfl) (by kernel_rfl) (by kernel_rfl) rfl ?_
        clear c1 c2 HB
        have HB := Lib.hid hcur
        clear hcur
        refine plan_calms (by simp [calmRow, need]; rfl) ?_
        generalize w5.drew = w6 at *
        go_wp2_with fail
        refine plan_read (by rfl) (.pointer (some ⟨gW, 0, none⟩)) (by rfl) (fun W hW => exec_nil rfl rfl) ?_
        refine plan_calms (by simp [calmRow, need]; rfl) ?_
        go_wp2_with fail
        refine plan_read (by rfl) (.int .i64 (atx : Int)) (by rfl) (fun W hW => by subst hW; exact exec_load (p := ⟨gW, 1, none⟩) rfl rfl (by kernel_rfl) (QW.out.cell 1)) ?_
        refine plan_read (by rfl) (.pointer (some ⟨gW, 0, none⟩)) (by rfl) (fun W hW => exec_nil rfl rfl) ?_
        refine plan_calms (by simp [calmRow, need]; rfl) ?_
        go_wp2_with fail
        refine plan_read (by rfl) (.int .i64 (atx : Int)) (by rfl) (fun W hW => by subst hW; exact exec_load (p := ⟨gW, 1, none⟩) rfl rfl (by kernel_rfl) (QW.out.cell 1)) ?_
        have hlh := fun W => (hlh W).out
        refine plan_calms (by simp [calmRow, need, chk]; rfl) ?_
        go_wp2_with fail
        clear hlh
        refine plan_last (by rfl) (by kernel_rfl) ?_
        have hcv := HCV.out w6 HB.out
        go_wp2_with fail
        clear hcv
        refine plan_calms (by simp [calmRow, need]; rfl) ?_
        go_wp2_with fail
        have fE : w6.frozen? ⟨gE, 1, none⟩ = false := QE.out.frozen 1
        have kE := QE.out.cell 1
        have QE2 : Hid (Blk (w6.setCell ⟨gE, 1, none⟩ (.string S)) gE 32 #[.int .i64 (kn : Int), .string S, .int .u64 (sq : Int), .int .u32 0, .slice none 0 0]) := Lib.hid (QE.out.set_ 1 (.string S))
        have Q22 := Lib.hid (Q2.out.far (p := ⟨gE, 1, none⟩) (show w.heap.size ≠ gE by omega) (.string S))
        have QW2 := Lib.hid (QW.out.far (p := ⟨gE, 1, none⟩) (show gW ≠ gE by omega) (.string S))
        have HB2 := Lib.hid (HB.out.setCell (p := ⟨gE, 1, none⟩) (show w.heap.size ≤ gE by omega) (.string S))
        refine plan_last (by rfl) (by kernel_rfl) ?_
        go_wp2_with fail
        refine plan_end ?_
        clear fE kE
        generalize w6.setCell ⟨gE, 1, none⟩ (.string S) = w7 at *
        have c1 : w7.cell? ⟨gW, 1, none⟩ = some (.int .i64 (atx : Int)) := QW2.out.cell 1
        have f1 : w7.frozen? ⟨gW, 1, none⟩ = false := QW2.out.frozen 1
        have QW3 : Hid (Blk (w7.setCell ⟨gW, 1, none⟩ (.int .i64 (at2 : Int))) gW 62 (WalkC A n c at2 0)) := Lib.hid (QW2.out.set_ 1 (.int .i64 (at2 : Int)))
        have Q23 := Lib.hid (Q22.out.far (p := ⟨gW, 1, none⟩) (show w.heap.size ≠ gW by omega) (.int .i64 (at2 : Int)))
        have QE3 := Lib.hid (QE2.out.far (p := ⟨gW, 1, none⟩) (show gE ≠ gW by omega) (.int .i64 (at2 : Int)))
        have HB3 := Lib.hid (HB2.out.setCell (p := ⟨gW, 1, none⟩) (show w.heap.size ≤ gW by omega) (.int .i64 (at2 : Int)))
        go_wp2_with fail
        go_meet
        case rel => exact ⟨Q23.out, by rw [← HS.out]; exact QE3.out, QW3.out, HB3.out⟩
    case rest =>
    obtain ⟨q2, qe, qw, hb⟩ := hcut
    have Q2 := Lib.hid q2
    have QE := Lib.hid qe
    have QW := Lib.hid qw
    have HB := Lib.hid hb
    clear q2 qe qw hb
    have hl2 : at2 ≤ n := by
      have h := HP2.out
      have hL := HLEN.out
      cases hq with
      | true =>
        rw [if_pos rfl] at h
        have := takeW_le (l := l) (n := (numW 1 32 l at1 wr1).1) (at_ := (numW 1 32 l at1 wr1).2.1) (wr := (numW 1 32 l at1 wr1).2.2) (numW_le (by omega))
        rw [← h] at this
        dsimp only at this
        omega
      | false => rw [if_neg (by decide)] at h; injection h with h1 h2; injection h2 with h2 h3; omega
    have hl3 : at3 ≤ n ∧ id ≤ 16777215 := by
      have h := HP3.out
      have hL := HLEN.out
      cases hi with
      | true =>
        rw [if_pos rfl] at h
        have h1 := numW_le (least := 1) (most := 16777215) (l := l) (at_ := at2) (wr := wr2) (by omega)
        have h2 := numW_most (least := 1) (most := 16777215) (l := l) (at_ := at2) (wr := wr2)
        rw [← h] at h1 h2
        dsimp only at h1 h2
        omega
      | false => rw [if_neg (by decide)] at h; injection h with h1 h2; injection h2 with h2 h3; omega
    obtain ⟨hl3, hid⟩ := hl3
    have hl4 : at4 ≤ n ∧ many ≤ 200 := by
      have h := HP4.out
      have hL := HLEN.out
      split at h
      · injection h with h1 h2; injection h2 with h2 h3; omega
      · split at h
        · have h1 := numW_le (least := 0) (most := 200) (l := l) (at_ := at3) (wr := wr3) (by omega)
          have h2 := numW_most (least := 0) (most := 200) (l := l) (at_ := at3) (wr := wr3)
          rw [← h] at h1 h2
          dsimp only at h1 h2
          omega
        · injection h with h1 h2; injection h2 with h2 h3; omega
    obtain ⟨hl4, hmany⟩ := hl4
    clear HP2 HP1
    go_upto_if 99 with (fail)
    go_cut [] from 99 to 103 (fun wx => RG w gE gW #[.int .i64 (kn : Int), .string ⟨nm.toArray⟩, .int .u64 (sq : Int), .int .u32 (id : Int), .slice none 0 0] A n c at3 wr3 wx)
    case first =>
      cases hi with
      | false =>
        have h := HP3.out
        rw [if_neg (by decide)] at h
        injection h with h1 h2
        injection h2 with h2 h3
        subst h1
        subst h2
        subst h3
        go_wp2_with fail
        go_meet
        case rel => exact ⟨Q2.out, QE.out, QW.out, HB.out⟩
      | true =>
        have h := HP3.out
        rw [if_pos rfl] at h
        have HN := Lib.hid h.symm
        clear h
        obtain ⟨S, hS⟩ : ∃ S : ByteArray, S = ⟨nm.toArray⟩ := ⟨_, rfl⟩
        have N := Lib.hid (rnum_any 1 16777215 l w.heap.size gW A n c at2 wr2 wc QW.out (HR.out.below HB.out (Nat.le_refl _)) hnc (by omega) hl2)
        unfold RetNum at N
        rw [HN.out] at N
        go_wp2_with fail
        refine N.out.mono ?_
        rintro e w5 ⟨rfl, qx, gx⟩
        have Q2 := Lib.hid (Q2.out.grown gx (fun h => by injection h with h; omega))
        have QE := Lib.hid (QE.out.grown gx (fun h => by injection h with h; omega))
        have HB := Lib.hid (below_but HB.out gx (by omega) HB.out.size)
        have QW : Hid (Blk w5 gW 62 (WalkC A n c at3 wr3)) := Lib.hid qx
        clear N gx qx
        have hidi : (id : Int) ≤ 16777215 := by omega
        have fE : w5.frozen? ⟨gE, 3, none⟩ = false := QE.out.frozen 3
        have kE := QE.out.cell 3
        have QE2 : Hid (Blk (w5.setCell ⟨gE, 3, none⟩ (.int .u32 (id : Int))) gE 32 #[.int .i64 (kn : Int), .string ⟨nm.toArray⟩, .int .u64 (sq : Int), .int .u32 (id : Int), .slice none 0 0]) := Lib.hid (QE.out.set_ 3 (.int .u32 (id : Int)))
        have Q22 := Lib.hid (Q2.out.far (p := ⟨gE, 3, none⟩) (show w.heap.size ≠ gE by omega) (.int .u32 (id : Int)))
        have QW2 := Lib.hid (QW.out.far (p := ⟨gE, 3, none⟩) (show gW ≠ gE by omega) (.int .u32 (id : Int)))
        have HB2 := Lib.hid (HB.out.setCell (p := ⟨gE, 3, none⟩) (show w.heap.size ≤ gE by omega) (.int .u32 (id : Int)))
        go_wp2_with fail
        go_meet
        case rel => exact ⟨Q22.out, QE2.out, QW2.out, HB2.out⟩
    case rest =>
    obtain ⟨q2, qe, qw, hb⟩ := hcut
    have Q2 := Lib.hid q2
    have QE := Lib.hid qe
    have QW := Lib.hid qw
    have HB := Lib.hid hb
    clear q2 qe qw hb
    have c0 : wc.cell? ⟨gE, 0, none⟩ = some (.int .i64 (kn : Int)) := QE.out.cell 0
    go_upto_if 106 with (fail)
    go_cut [11] from 106 to 106 (fun v wx => v = .int .i64 ((if kn = 5 then 1 else 0 : Nat) : Int) ∧ wx = wc)
    case first =>
      by_cases h5 : kn = 5
      · skip
        have z1 : ((kn : Int) == 5) = true := by simp; omega
        have z2 : ((kn : Int) = 5) = True := by simp; omega
        have H5 := Lib.hid h5
        clear h5
        go_wp2_with fail
        go_meet
        case rel => exact ⟨by rw [if_pos H5.out]; rfl, rfl⟩
      · skip
        have z1 : ((kn : Int) == 5) = false := by simp; omega
        have z2 : ((kn : Int) = 5) = False := by simp; omega
        go_wp2_with fail
        go_meet
        case rel => exact ⟨by rw [if_neg h5]; rfl, rfl⟩
    case rest =>
    obtain ⟨rfl, hw⟩ := hcut
    have hw := hw.symm
    subst hw
    obtain ⟨m5, hm5⟩ : ∃ m, m = (if kn = 5 then 1 else 0 : Nat) := ⟨_, rfl⟩
    rw [← hm5]
    have HM5 := Lib.hid hm5
    clear hm5
    go_upto_if 109 with (fail)
    go_cut [11] from 109 to 112 (fun v wx => v = .int .i64 (many : Int) ∧ RG w gE gW #[.int .i64 (kn : Int), .string ⟨nm.toArray⟩, .int .u64 (sq : Int), .int .u32 (id : Int), .slice none 0 0] A n c at4 wr4 wx)
    case first =>
      by_cases h6 : kn = 6
      · skip
        have z1 : ((kn : Int) == 6) = true := by simp; omega
        have z2 : ((kn : Int) = 6) = True := by simp; omega
        have h := HP4.out
        rw [if_neg (by omega), if_pos (by omega)] at h
        have HN := Lib.hid h.symm
        clear h6 h
        have N := Lib.hid (rnum_any 0 200 l w.heap.size gW A n c at3 wr3 wc QW.out (HR.out.below HB.out (Nat.le_refl _)) hnc (by omega) hl3)
        unfold RetNum at N
        rw [HN.out] at N
        go_wp2_with fail
        refine N.out.mono ?_
        rintro e w5 ⟨rfl, qx, gx⟩
        have Q2 := Lib.hid (Q2.out.grown gx (fun h => by injection h with h; omega))
        have QE := Lib.hid (QE.out.grown gx (fun h => by injection h with h; omega))
        have HB := Lib.hid (below_but HB.out gx (by omega) HB.out.size)
        have QW : Hid (Blk w5 gW 62 (WalkC A n c at4 wr4)) := Lib.hid qx
        clear N gx qx
        have hmi : (many : Int) ≤ 200 := by omega
        go_wp2_with fail
        go_meet
        case rel => exact ⟨rfl, Q2.out, QE.out, QW.out, HB.out⟩
      · skip
        have z1 : ((kn : Int) == 6) = false := by simp; omega
        have z2 : ((kn : Int) = 6) = False := by simp; omega
        have h := HP4.out
        have h7 : many = m5 ∧ at4 = at3 ∧ wr4 = wr3 := by
          rw [HM5.out]
          by_cases h5 : kn = 5
          · rw [if_pos (by omega)] at h; injection h with h1 h2; injection h2 with h2 h3; rw [if_pos h5]; exact ⟨h1, h2, h3⟩
          · rw [if_neg (by omega), if_neg (by omega)] at h; injection h with h1 h2; injection h2 with h2 h3; rw [if_neg h5]; exact ⟨h1, h2, h3⟩
        obtain ⟨h1, h2, h3⟩ := h7
        subst h1
        subst h2
        subst h3
        clear h
        go_wp2_with fail
        go_meet
        case rel => exact ⟨rfl, Q2.out, QE.out, QW.out, HB.out⟩
    case rest =>
    obtain ⟨rfl, q2, qe, qw, hb⟩ := hcut
    have Q2 := Lib.hid q2
    have QE := Lib.hid qe
    have QW := Lib.hid qw
    have HB := Lib.hid hb
    clear q2 qe qw hb HP3 HP4 HM5
    obtain ⟨S, hS⟩ : ∃ S : ByteArray, S = ⟨nm.toArray⟩ := ⟨_, rfl⟩
    rw [← hS] at QE
    have HS := Lib.hid hS
    clear hS
    go_upto_region 25 with (fail)
    have hsq9 := hs1
    have hE2 := hq2
    have hE3 := hqe
    go_wp2_with fail
    go_loopw [12, 13] (fun v12 v13 wr => ∃ (j : Nat) (d : List Sl) (last at_ ws : Nat) (v : Value), j ≤ many ∧ v13 = .int .i64 (j : Int) ∧ v12 = .int .u64 (last : Int) ∧ d.length = j ∧ last < 4294967296 ∧ at_ ≤ n ∧
        slsW many 0 l at4 wr4 = (d ++ (slsW (many - j) last l at_ ws).1, (slsW (many - j) last l at_ ws).2) ∧ RG w gE gW #[.int .i64 (kn : Int), .string S, .int .u64 (sq : Int), .int .u32 (id : Int), v] A n c at_ ws wr ∧ Ow wr w.heap.size 40 5 v j (slCells d)) (fun _ i _ => many - (intOf i).toNat)
    case atStart => exact ⟨0, [], 0, at4, wr4, .slice none 0 0, Nat.zero_le _, rfl, rfl, rfl, by omega, hl4, rfl, ⟨Q2.out, QE.out, QW.out, HB.out⟩, World.ownsRow_nil _ _ _ _⟩
    case round =>
      obtain ⟨j, d, last, at_, ws, v, hj, rfl, rfl, hdl, hla, hat, hst, ⟨q2, qe, qw, hb⟩, ow⟩ := hrel
      have Q2 := Lib.hid q2
      have QE := Lib.hid qe
      have QW := Lib.hid qw
      have HB := Lib.hid hb
      have O : Hid (Ow _ _ _ _ _ _ _) := Lib.hid ow
      have HST := Lib.hid hst
      have HDL := Lib.hid hdl
      clear q2 qe qw hb ow hst hdl
      have c1 : wr.cell? ⟨gW, 1, none⟩ = some (.int .i64 (at_ : Int)) := QW.out.cell 1
      have c2 : wr.cell? ⟨gW, 2, none⟩ = some (.int .i64 (ws : Int)) := QW.out.cell 2
      by_cases hlt : j < many
      rotate_left
      · skip
        obtain rfl : j = many := by omega
        have hji : ¬ (j : Int) < (j : Int) := by omega
        have HRD : Hid (R = finW ⟨(kn : Int), nm, sq, id, d⟩ l at_ ws) := Lib.hid (by rw [HRR.out, HST.out, Nat.sub_self]; simp [slsW])
        by_cases hw : ws = 0
        rotate_left
        · skip
          have hwi : ¬ (ws : Int) = 0 := by omega
          have hR : R = (Ed.none, ws) := by rw [HRD.out]; unfold finW; rw [if_neg hw]
          subst hR
          clear hw
          have QF : Hid (Blk (wr.drew.setRow w.heap.size #[.int .i64 0, .string ⟨#[]⟩, .int .u64 0, .int .u32 0, .slice none 0 0]) w.heap.size 32 #[.int .i64 0, .string ⟨#[]⟩, .int .u64 0, .int .u32 0, .slice none 0 0]) := Lib.hid (Blk.row (w := wr.drew) Q2.out #[.int .i64 0, .string ⟨#[]⟩, .int .u64 0, .int .u32 0, .slice none 0 0])
          have hcur : Below w.heap.size w wr.drew := ⟨HB.out.os, HB.out.tape, HB.out.output, HB.out.size, HB.out.block⟩
          have HBF := Lib.hid (row_below hcur (Nat.le_refl _) #[.int .i64 0, .string ⟨#[]⟩, .int .u64 0, .int .u32 0, .slice none 0 0])
          have Q2 : Hid (Blk wr.drew _ _ _) := Q2
          have QW : Hid (Blk wr.drew _ _ _) := QW
          go_upto_region 40 with (fail)
          refine wp_region_plan (fun W => Blk W gW 62 (WalkC A n c at_ ws)) [.calms [1], .read 0, .read 2, .calms [3], .read 4, .act 5, .calms [6]] (by kernel_rfl) (by rfl) (by kernel_rfl) (by kernel_rfl) QW.out ?_
          clear c1 c2
          refine plan_calms (by simp [calmRow, need]; rfl) ?_
          generalize wr.drew = wz at *
          go_wp2_with fail
          refine plan_read (by rfl) (.agg #[.int .i64 0, .string ⟨#[]⟩, .int .u64 0, .int .u32 0, .slice none 0 0]) (by rfl) (fun W hW => exec_build rfl (by kernel_rfl)) ?_
          refine plan_read (by rfl) (.pointer (some ⟨gW, 0, none⟩)) (by rfl) (fun W hW => exec_nil rfl rfl) ?_
          refine plan_calms (by simp [calmRow, need]; rfl) ?_
          go_wp2_with fail
          refine plan_read (by rfl) (.int .i64 (ws : Int)) (by rfl) (fun W hW => exec_load (p := ⟨gW, 2, none⟩) rfl rfl (by kernel_rfl) (Blk.cell hW 2)) ?_
          refine plan_act (by rfl) ?_
          refine wpList_storeB rfl 32 (.tmp 2) (.tmp 189) rfl rfl rfl Q2.out (by kernel_rfl) (by rfl) (by simp [Value.oneCell']) ?_
          refine plan_next ((row_other (show gW ≠ w.heap.size by omega) _).trans QW.out) ?_
          refine plan_calms (by simp [calmRow, need]; rfl) ?_
          go_wp2_with fail
          refine plan_end ?_
          go_wp2_with fail
          refine bodyPost_ret (results_cell2 rfl rfl (res_load QF.out Try.underlying32 rfl (by kernel_rfl))) rfl ⟨.slice none 0 0, rfl, World.ownsRow_nil _ _ _ _, HBF.out⟩
        subst hw
        have c2 : wr.cell? ⟨gW, 2, none⟩ = some (.int .i64 0) := c2
        by_cases han : at_ < n
        · skip
          have hai : (at_ : Int) < (n : Int) := by omega
          have hR : R = (Ed.none, 5) := by rw [HRD.out]; unfold finW; rw [if_pos rfl, if_pos (by have := HLEN.out; omega)]
          subst hR
          clear han
          have fW : wr.frozen? ⟨gW, 2, none⟩ = false := QW.out.frozen 2
          have QW2 : Hid (Blk (wr.setCell ⟨gW, 2, none⟩ (.int .i64 5)) gW 62 (WalkC A n c at_ 5)) := Lib.hid (QW.out.set_ 2 (.int .i64 5))
          have Q2 := Lib.hid (Q2.out.far (p := ⟨gW, 2, none⟩) (show w.heap.size ≠ gW by omega) (.int .i64 5))
          have HB := Lib.hid (HB.out.setCell (p := ⟨gW, 2, none⟩) (show w.heap.size ≤ gW by omega) (.int .i64 5))
          have QW := QW2
          go_upto_region 39 with (fail)
          clear c1 c2 fW QW2
          generalize wr.setCell ⟨gW, 2, none⟩ (.int .i64 5) = wt at *
          have c1 : wt.cell? ⟨gW, 1, none⟩ = some (.int .i64 (at_ : Int)) := QW.out.cell 1
          have c2 : wt.cell? ⟨gW, 2, none⟩ = some (.int .i64 5) := QW.out.cell 2
          have QF : Hid (Blk (wt.drew.setRow w.heap.size #[.int .i64 0, .string ⟨#[]⟩, .int .u64 0, .int .u32 0, .slice none 0 0]) w.heap.size 32 #[.int .i64 0, .string ⟨#[]⟩, .int .u64 0, .int .u32 0, .slice none 0 0]) := Lib.hid (Blk.row (w := wt.drew) Q2.out #[.int .i64 0, .string ⟨#[]⟩, .int .u64 0, .int .u32 0, .slice none 0 0])
          have hcur : Below w.heap.size w wt.drew := ⟨HB.out.os, HB.out.tape, HB.out.output, HB.out.size, HB.out.block⟩
          have HBF := Lib.hid (row_below hcur (Nat.le_refl _) #[.int .i64 0, .string ⟨#[]⟩, .int .u64 0, .int .u32 0, .slice none 0 0])
          have Q2 : Hid (Blk wt.drew _ _ _) := Q2
          have QW : Hid (Blk wt.drew _ _ _) := QW
          go_upto_region 40 with (fail)
          refine wp_region_plan (fun W => Blk W gW 62 (WalkC A n c at_ 5)) [.calms [1], .read 0, .read 2, .calms [3], .read 4, .act 5, .calms [6]] (by kernel_rfl) (by rfl) (by kernel_rfl) (by kernel_rfl) QW.out ?_
          clear c1 c2
          refine plan_calms (by simp [calmRow, need]; rfl) ?_
          generalize wt.drew = wz at *
          go_wp2_with fail
          refine plan_read (by rfl) (.agg #[.int .i64 0, .string ⟨#[]⟩, .int .u64 0, .int .u32 0, .slice none 0 0]) (by rfl) (fun W hW => exec_build rfl (by kernel_rfl)) ?_
          refine plan_read (by rfl) (.pointer (some ⟨gW, 0, none⟩)) (by rfl) (fun W hW => exec_nil rfl rfl) ?_
          refine plan_calms (by simp [calmRow, need]; rfl) ?_
          go_wp2_with fail
          refine plan_read (by rfl) (.int .i64 (5)) (by rfl) (fun W hW => exec_load (p := ⟨gW, 2, none⟩) rfl rfl (by kernel_rfl) (Blk.cell hW 2)) ?_
          refine plan_act (by rfl) ?_
          refine wpList_storeB rfl 32 (.tmp 2) (.tmp 189) rfl rfl rfl Q2.out (by kernel_rfl) (by rfl) (by simp [Value.oneCell']) ?_
          refine plan_next ((row_other (show gW ≠ w.heap.size by omega) _).trans QW.out) ?_
          refine plan_calms (by simp [calmRow, need]; rfl) ?_
          go_wp2_with fail
          refine plan_end ?_
          go_wp2_with fail
          refine bodyPost_ret (results_cell2 rfl rfl (res_load QF.out Try.underlying32 rfl (by kernel_rfl))) rfl ⟨.slice none 0 0, rfl, World.ownsRow_nil _ _ _ _, HBF.out⟩
        have hai : ¬ (at_ : Int) < (n : Int) := by omega
        have hR : R = (⟨(kn : Int), nm, sq, id, d⟩, 0) := by rw [HRD.out]; unfold finW; rw [if_pos rfl, if_neg (by have := HLEN.out; omega)]
        subst hR
        clear han
        have QF := Lib.hid (Q2.out.row #[.int .i64 (kn : Int), .string S, .int .u64 (sq : Int), .int .u32 (id : Int), v])
        have HBF := Lib.hid (row_below HB.out (Nat.le_refl _) #[.int .i64 (kn : Int), .string S, .int .u64 (sq : Int), .int .u32 (id : Int), v])
        have OF : Hid (Ow (wr.setRow w.heap.size #[.int .i64 (kn : Int), .string S, .int .u64 (sq : Int), .int .u32 (id : Int), v]) w.heap.size 40 5 v j (slCells d)) := Lib.hid (World.ownsRow.kept O.out ⟨rfl, rfl, rfl, by simp [World.setRow], fun k _ hk => row_other (by simpa using hk) _⟩ (Or.inr (own_blk_ne Q2.out O.out (by decide)).symm))
        obtain ⟨Av, cv, rfl, -⟩ := own_cap O.out
        go_wp2_with (first
          | (refine wpList_value rfl (exec_load_blk rfl rfl QE.out Try.underlying32 rfl (by kernel_rfl)) ?_)
          | (refine wpList_storeB rfl 32 (.tmp 2) (.tmp 194) rfl rfl rfl Q2.out (by kernel_rfl) (by rfl) (by simp [Value.oneCell']) ?_)
          | fail)
        refine bodyPost_ret (results_cell2 rfl rfl (res_load QF.out Try.underlying32 rfl (by kernel_rfl))) rfl ⟨.slice Av j cv, by rw [HS.out]; rfl, ?_, HBF.out⟩
        show World.ownsRow _ _ _ _ _ d.length _
        rw [HDL.out]
        exact OF.out
      have hji : (j : Int) < (many : Int) := by omega
      by_cases hws : ws = 0
      rotate_left
      · skip
        have hwsi : ¬ (ws : Int) = 0 := by omega
        have HRD : Hid (R = finW ⟨(kn : Int), nm, sq, id, d⟩ l at_ ws) := Lib.hid (by rw [HRR.out, HST.out, slsW_wrong hws]; simp)
        clear hws
        by_cases hw : ws = 0
        rotate_left
        · skip
          have hwi : ¬ (ws : Int) = 0 := by omega
          have hR : R = (Ed.none, ws) := by rw [HRD.out]; unfold finW; rw [if_neg hw]
          subst hR
          clear hw
          have QF : Hid (Blk (wr.drew.setRow w.heap.size #[.int .i64 0, .string ⟨#[]⟩, .int .u64 0, .int .u32 0, .slice none 0 0]) w.heap.size 32 #[.int .i64 0, .string ⟨#[]⟩, .int .u64 0, .int .u32 0, .slice none 0 0]) := Lib.hid (Blk.row (w := wr.drew) Q2.out #[.int .i64 0, .string ⟨#[]⟩, .int .u64 0, .int .u32 0, .slice none 0 0])
          have hcur : Below w.heap.size w wr.drew := ⟨HB.out.os, HB.out.tape, HB.out.output, HB.out.size, HB.out.block⟩
          have HBF := Lib.hid (row_below hcur (Nat.le_refl _) #[.int .i64 0, .string ⟨#[]⟩, .int .u64 0, .int .u32 0, .slice none 0 0])
          have Q2 : Hid (Blk wr.drew _ _ _) := Q2
          have QW : Hid (Blk wr.drew _ _ _) := QW
          go_upto_region 40 with (fail)
          refine wp_region_plan (fun W => Blk W gW 62 (WalkC A n c at_ ws)) [.calms [1], .read 0, .read 2, .calms [3], .read 4, .act 5, .calms [6]] (by kernel_rfl) (by rfl) (by kernel_rfl) (by kernel_rfl) QW.out ?_
          clear c1 c2
          refine plan_calms (by simp [calmRow, need]; rfl) ?_
          generalize wr.drew = wz at *
          go_wp2_with fail
          refine plan_read (by rfl) (.agg #[.int .i64 0, .string ⟨#[]⟩, .int .u64 0, .int .u32 0, .slice none 0 0]) (by rfl) (fun W hW => exec_build rfl (by kernel_rfl)) ?_
          refine plan_read (by rfl) (.pointer (some ⟨gW, 0, none⟩)) (by rfl) (fun W hW => exec_nil rfl rfl) ?_
          refine plan_calms (by simp [calmRow, need]; rfl) ?_
          go_wp2_with fail
          refine plan_read (by rfl) (.int .i64 (ws : Int)) (by rfl) (fun W hW => exec_load (p := ⟨gW, 2, none⟩) rfl rfl (by kernel_rfl) (Blk.cell hW 2)) ?_
          refine plan_act (by rfl) ?_
          refine wpList_storeB rfl 32 (.tmp 2) (.tmp 189) rfl rfl rfl Q2.out (by kernel_rfl) (by rfl) (by simp [Value.oneCell']) ?_
          refine plan_next ((row_other (show gW ≠ w.heap.size by omega) _).trans QW.out) ?_
          refine plan_calms (by simp [calmRow, need]; rfl) ?_
          go_wp2_with fail
          refine plan_end ?_
          go_wp2_with fail
          refine bodyPost_ret (results_cell2 rfl rfl (res_load QF.out Try.underlying32 rfl (by kernel_rfl))) rfl ⟨.slice none 0 0, rfl, World.ownsRow_nil _ _ _ _, HBF.out⟩
        exact absurd hw (by omega)
      subst hws
      have c2 : wr.cell? ⟨gW, 2, none⟩ = some (.int .i64 0) := c2
      rw [slsW_step hlt] at HST
      have hgs : gW < wr.heap.size := QW.out.lt
      have LT0 := Lib.hid (Ow.hi O.out)
      have Q2 := Lib.hid (Q2.out.alloc (.cells #[.int .u32 0, .int .u32 0, .int .u32 0, .int .u64 0, .int .u64 0] 40))
      have QE := Lib.hid (QE.out.alloc (.cells #[.int .u32 0, .int .u32 0, .int .u32 0, .int .u64 0, .int .u64 0] 40))
      have QW := Lib.hid (QW.out.alloc (.cells #[.int .u32 0, .int .u32 0, .int .u32 0, .int .u64 0, .int .u64 0] 40))
      have HB := Lib.hid (HB.out.alloc HB.out.size (.cells #[.int .u32 0, .int .u32 0, .int .u32 0, .int .u64 0, .int .u64 0] 40))
      have O : Hid (Ow _ _ _ _ _ _ _) := Lib.hid (Ow.alloc O.out (.cells #[.int .u32 0, .int .u32 0, .int .u32 0, .int .u64 0, .int .u64 0] 40))
      have QS := Lib.hid (Blk.new wr 40 #[.int .u32 0, .int .u32 0, .int .u32 0, .int .u64 0, .int .u64 0])
      obtain ⟨l1, hl1'⟩ : ∃ x, x = last + 1 := ⟨_, rfl⟩
      have hl1i : (last : Int) + 1 = (l1 : Int) := by omega
      obtain ⟨p, hp⟩ : ∃ p, p = slW last l at_ 0 := ⟨_, rfl⟩
      rw [← hp] at HST
      unfold slW at hp
      rw [← hl1'] at hp
      have e1 := numW_le (least := l1) (most := 16777215) (l := l) (at_ := at_) (wr := 0) (by have := HLEN.out; omega)
      have m1 := numW_most (least := l1) (most := 16777215) (l := l) (at_ := at_) (wr := 0)
      obtain ⟨p1, hp1⟩ : ∃ p1, p1 = numW l1 16777215 l at_ 0 := ⟨_, rfl⟩
      rw [← hp1] at hp e1 m1
      obtain ⟨si, a1, w1'⟩ := p1
      dsimp only at hp e1 m1
      unfold sizW at hp
      have e2 := numW_le (least := 16) (most := 16777216) (l := l) (at_ := a1) (wr := w1') e1
      have m2 := numW_most (least := 16) (most := 16777216) (l := l) (at_ := a1) (wr := w1')
      obtain ⟨p2, hp2⟩ : ∃ p2, p2 = numW 16 16777216 l a1 w1' := ⟨_, rfl⟩
      rw [← hp2] at hp e2 m2
      obtain ⟨sz, a2, w2'⟩ := p2
      dsimp only at hp e2 m2
      unfold manW at hp
      have e3 := numW_le (least := 0) (most := 4294967295) (l := l) (at_ := a2) (wr := w2') e2
      have m3 := numW_most (least := 0) (most := 4294967295) (l := l) (at_ := a2) (wr := w2')
      obtain ⟨p3, hp3⟩ : ∃ p3, p3 = numW 0 4294967295 l a2 w2' := ⟨_, rfl⟩
      rw [← hp3] at hp e3 m3
      obtain ⟨sm, a3, w3'⟩ := p3
      dsimp only at hp e3 m3
      rw [HLEN.out] at e1 e2 e3
      have HN1 := Lib.hid hp1.symm
      have HN2 := Lib.hid hp2.symm
      have HN3 := Lib.hid hp3.symm
      have HPP := Lib.hid hp
      clear hp hp1 hp2 hp3 hl1' c1 c2
      go_upto_region 29 with (fail)
      obtain ⟨gS, hgS⟩ : ∃ g, g = wr.heap.size := ⟨_, rfl⟩
      rw [← hgS] at QS LT0 hgs ⊢
      generalize wr.alloc (.cells #[.int .u32 0, .int .u32 0, .int .u32 0, .int .u64 0, .int .u64 0] 40) = wa at *
      clear hgS
      have i1 : (si : Int) ≤ 16777215 := by omega
      have i2 : (sz : Int) ≤ 16777216 := by omega
      have i3 : (sm : Int) ≤ 4294967295 := by omega
      have N := Lib.hid (rnum_any l1 16777215 l w.heap.size gW A n c at_ 0 wa QW.out (HR.out.below HB.out (Nat.le_refl _)) hnc (by omega) hat)
      unfold RetNum at N
      rw [HN1.out] at N
      go_wp2_with fail
      refine N.out.mono ?_
      rintro e b1 ⟨rfl, qx, gx⟩
      have QS := Lib.hid (QS.out.grown gx (fun h => by injection h with h; omega))
      have O : Hid (Ow _ _ _ _ _ _ _) := Lib.hid (World.ownsRow.kept O.out gx (Or.inr (own_blk_ne QW.out O.out (by decide)).symm))
      have Q2 := Lib.hid (Q2.out.grown gx (fun h => by injection h with h; omega))
      have QE := Lib.hid (QE.out.grown gx (fun h => by injection h with h; omega))
      have HB := Lib.hid (below_but HB.out gx (by omega) HB.out.size)
      have QW : Hid (Blk b1 gW 62 (WalkC A n c a1 w1')) := Lib.hid qx
      clear N gx qx
      have fS : b1.frozen? ⟨gS, 0, none⟩ = false := QS.out.frozen 0
      have kS := QS.out.cell 0
      have QS2 : Hid (Blk (b1.setCell ⟨gS, 0, none⟩ (.int .u32 (si : Int))) gS 40 #[.int .u32 (si : Int), .int .u32 0, .int .u32 0, .int .u64 0, .int .u64 0]) := Lib.hid (QS.out.set_ 0 (.int .u32 (si : Int)))
      have Q22 := Lib.hid (Q2.out.far (p := ⟨gS, 0, none⟩) (show w.heap.size ≠ gS by omega) (.int .u32 (si : Int)))
      have QE2 := Lib.hid (QE.out.far (p := ⟨gS, 0, none⟩) (show gE ≠ gS by omega) (.int .u32 (si : Int)))
      have QW2 := Lib.hid (QW.out.far (p := ⟨gS, 0, none⟩) (show gW ≠ gS by omega) (.int .u32 (si : Int)))
      have HB2 := Lib.hid (HB.out.setCell (p := ⟨gS, 0, none⟩) (show w.heap.size ≤ gS by omega) (.int .u32 (si : Int)))
      have O2 : Hid (Ow (b1.setCell ⟨gS, 0, none⟩ (.int .u32 (si : Int))) _ _ _ _ _ _) := Lib.hid (World.ownsRow.kept O.out (grown_set _ ⟨gS, 0, none⟩ (.int .u32 (si : Int))) (Or.inr (fun e => absurd (LT0.out _ e) (Nat.lt_irrefl _))))
      clear Q2 QE QW HB O QS
      have Q2 := Q22
      have QE := QE2
      have QW := QW2
      have HB := HB2
      have O := O2
      have QS := QS2
      clear Q22 QE2 QW2 HB2 O2 QS2
      go_upto_region 30 with (fail)
      clear fS kS
      generalize b1.setCell ⟨gS, 0, none⟩ (.int .u32 (si : Int)) = wb at *
      have N := Lib.hid (rnum_any 16 16777216 l w.heap.size gW A n c a1 w1' wb QW.out (HR.out.below HB.out (Nat.le_refl _)) hnc (by omega) e1)
      unfold RetNum at N
      rw [HN2.out] at N
      go_wp2_with fail
      refine N.out.mono ?_
      rintro e b2 ⟨rfl, qx, gx⟩
      have QS := Lib.hid (QS.out.grown gx (fun h => by injection h with h; omega))
      have O : Hid (Ow _ _ _ _ _ _ _) := Lib.hid (World.ownsRow.kept O.out gx (Or.inr (own_blk_ne QW.out O.out (by decide)).symm))
      have Q2 := Lib.hid (Q2.out.grown gx (fun h => by injection h with h; omega))
      have QE := Lib.hid (QE.out.grown gx (fun h => by injection h with h; omega))
      have HB := Lib.hid (below_but HB.out gx (by omega) HB.out.size)
      have QW : Hid (Blk b2 gW 62 (WalkC A n c a2 w2')) := Lib.hid qx
      clear N gx qx
      have fS : b2.frozen? ⟨gS, 1, none⟩ = false := QS.out.frozen 1
      have kS := QS.out.cell 1
      have QS2 : Hid (Blk (b2.setCell ⟨gS, 1, none⟩ (.int .u32 (sz : Int))) gS 40 #[.int .u32 (si : Int), .int .u32 (sz : Int), .int .u32 0, .int .u64 0, .int .u64 0]) := Lib.hid (QS.out.set_ 1 (.int .u32 (sz : Int)))
      have Q22 := Lib.hid (Q2.out.far (p := ⟨gS, 1, none⟩) (show w.heap.size ≠ gS by omega) (.int .u32 (sz : Int)))
      have QE2 := Lib.hid (QE.out.far (p := ⟨gS, 1, none⟩) (show gE ≠ gS by omega) (.int .u32 (sz : Int)))
      have QW2 := Lib.hid (QW.out.far (p := ⟨gS, 1, none⟩) (show gW ≠ gS by omega) (.int .u32 (sz : Int)))
      have HB2 := Lib.hid (HB.out.setCell (p := ⟨gS, 1, none⟩) (show w.heap.size ≤ gS by omega) (.int .u32 (sz : Int)))
      have O2 : Hid (Ow (b2.setCell ⟨gS, 1, none⟩ (.int .u32 (sz : Int))) _ _ _ _ _ _) := Lib.hid (World.ownsRow.kept O.out (grown_set _ ⟨gS, 1, none⟩ (.int .u32 (sz : Int))) (Or.inr (fun e => absurd (LT0.out _ e) (Nat.lt_irrefl _))))
      clear Q2 QE QW HB O QS
      have Q2 := Q22
      have QE := QE2
      have QW := QW2
      have HB := HB2
      have O := O2
      have QS := QS2
      clear Q22 QE2 QW2 HB2 O2 QS2
      go_upto_region 31 with (fail)
      clear fS kS
      generalize b2.setCell ⟨gS, 1, none⟩ (.int .u32 (sz : Int)) = wd at *
      have N := Lib.hid (rnum_any 0 4294967295 l w.heap.size gW A n c a2 w2' wd QW.out (HR.out.below HB.out (Nat.le_refl _)) hnc (by omega) e2)
      unfold RetNum at N
      rw [HN3.out] at N
      go_wp2_with fail
      refine N.out.mono ?_
      rintro e b3 ⟨rfl, qx, gx⟩
      have QS := Lib.hid (QS.out.grown gx (fun h => by injection h with h; omega))
      have O : Hid (Ow _ _ _ _ _ _ _) := Lib.hid (World.ownsRow.kept O.out gx (Or.inr (own_blk_ne QW.out O.out (by decide)).symm))
      have Q2 := Lib.hid (Q2.out.grown gx (fun h => by injection h with h; omega))
      have QE := Lib.hid (QE.out.grown gx (fun h => by injection h with h; omega))
      have HB := Lib.hid (below_but HB.out gx (by omega) HB.out.size)
      have QW : Hid (Blk b3 gW 62 (WalkC A n c a3 w3')) := Lib.hid qx
      clear N gx qx
      have fS : b3.frozen? ⟨gS, 2, none⟩ = false := QS.out.frozen 2
      have kS := QS.out.cell 2
      have QS2 : Hid (Blk (b3.setCell ⟨gS, 2, none⟩ (.int .u32 (sm : Int))) gS 40 #[.int .u32 (si : Int), .int .u32 (sz : Int), .int .u32 (sm : Int), .int .u64 0, .int .u64 0]) := Lib.hid (QS.out.set_ 2 (.int .u32 (sm : Int)))
      have Q22 := Lib.hid (Q2.out.far (p := ⟨gS, 2, none⟩) (show w.heap.size ≠ gS by omega) (.int .u32 (sm : Int)))
      have QE2 := Lib.hid (QE.out.far (p := ⟨gS, 2, none⟩) (show gE ≠ gS by omega) (.int .u32 (sm : Int)))
      have QW2 := Lib.hid (QW.out.far (p := ⟨gS, 2, none⟩) (show gW ≠ gS by omega) (.int .u32 (sm : Int)))
      have HB2 := Lib.hid (HB.out.setCell (p := ⟨gS, 2, none⟩) (show w.heap.size ≤ gS by omega) (.int .u32 (sm : Int)))
      have O2 : Hid (Ow (b3.setCell ⟨gS, 2, none⟩ (.int .u32 (sm : Int))) _ _ _ _ _ _) := Lib.hid (World.ownsRow.kept O.out (grown_set _ ⟨gS, 2, none⟩ (.int .u32 (sm : Int))) (Or.inr (fun e => absurd (LT0.out _ e) (Nat.lt_irrefl _))))
      clear Q2 QE QW HB O QS
      have Q2 := Q22
      have QE := QE2
      have QW := QW2
      have HB := HB2
      have O := O2
      have QS := QS2
      clear Q22 QE2 QW2 HB2 O2 QS2
      go_upto_region 32 with (fail)
      clear fS kS
      generalize b3.setCell ⟨gS, 2, none⟩ (.int .u32 (sm : Int)) = we at *
      have k2 : we.cell? ⟨gS, 2, none⟩ = some (.int .u32 (sm : Int)) := QS.out.cell 2
      by_cases hm : sm = 0
      · skip
        have hmi : ¬ 0 < (sm : Int) := by omega
        have hp := HPP.out
        unfold endsW at hp
        rw [if_pos hm] at hp
        subst hm
        have HPS := Lib.hid hp
        clear hp HPP
        have c4 := QE.out.cell 4
        have hjb : j < 200 := by omega
        go_upto_region 35 with (fail)
        go_upto_region 36 with (first
          | (refine wpList_value rfl (exec_load_blk rfl rfl QS.out Try.underlying40 rfl (by kernel_rfl)) ?_)
          | (at_builtin; refine wpList_push eltSeal rfl (.tmp 159) (.tmp 161) rfl (W := we) rfl O.out rfl rfl (by simp [Value.oneCell']) (by omega) (by unfold maxLen; omega) (w0 := we) (Below.refl _ _) HB.out.size ?_; intro v2 wp o2 b2 x2 y2; obtain ⟨A2, c2q, rfl, -⟩ := own_cap o2; have Q22 := Lib.hid (Q2.out.grownT O.out (by decide) x2); have QE2 := Lib.hid (QE.out.grownT O.out (by decide) x2); have QW2 := Lib.hid (QW.out.grownT O.out (by decide) x2); have QS2 := Lib.hid (QS.out.grown x2 (fun e => by have := LT0.out _ e.symm; omega)); have HB2 := Lib.hid (HB.out.trans b2); have f4 := QE2.out.frozen 4; have k4 := QE2.out.cell 4; have O2 : Hid (Ow _ _ _ _ _ _ _) := Lib.hid o2; clear o2 b2 x2 y2)
          | fail)
        have P4 := Lib.hid (QE2.out.set_ 4 (.slice A2 (j + 1) c2q))
        have Q23 := Lib.hid (Q22.out.far (p := ⟨gE, 4, none⟩) (show w.heap.size ≠ gE by omega) (.slice A2 (j + 1) c2q))
        have QW3 := Lib.hid (QW2.out.far (p := ⟨gE, 4, none⟩) (show gW ≠ gE by omega) (.slice A2 (j + 1) c2q))
        have QS3 := Lib.hid (QS2.out.far (p := ⟨gE, 4, none⟩) (show gS ≠ gE by omega) (.slice A2 (j + 1) c2q))
        have HB3 := Lib.hid (HB2.out.setCell (p := ⟨gE, 4, none⟩) (show w.heap.size ≤ gE by omega) (.slice A2 (j + 1) c2q))
        have O3 : Hid (Ow (wp.setCell ⟨gE, 4, none⟩ (.slice A2 (j + 1) c2q)) _ _ _ _ _ _) := Lib.hid (Ow.setT O2.out QE2.out (by decide) 4 (.slice A2 (j + 1) c2q))
        clear f4 k4
        generalize wp.setCell ⟨gE, 4, none⟩ (.slice A2 (j + 1) c2q) = wq at *
        have k0 : wq.cell? ⟨gS, 0, none⟩ = some (.int .u32 (si : Int)) := QS3.out.cell 0
        go_wp2_with fail
        go_roundw
        case rel =>
          exact ⟨j + 1, d ++ [⟨si, sz, 0, 0, 0⟩], si, a3, w3', .slice A2 (j + 1) c2q, by omega, by go_num, rfl, by rw [List.length_append, HDL.out]; rfl, by omega, by omega, by rw [HST.out, HPS.out]; simp, ⟨Q23.out, P4.out, QW3.out, HB3.out⟩, by rw [slCells_snoc']; exact O3.out⟩
        case measure => simp [intOf]; omega
      have hmi : 0 < (sm : Int) := by omega
      have hp := HPP.out
      unfold endsW at hp
      rw [if_neg hm] at hp
      have e4 := numW_le (least := 1) (most := 1099511627776) (l := l) (at_ := a3) (wr := w3') (by have := HLEN.out; omega)
      have m4 := numW_most (least := 1) (most := 1099511627776) (l := l) (at_ := a3) (wr := w3')
      obtain ⟨p4, hp4⟩ : ∃ p4, p4 = numW 1 1099511627776 l a3 w3' := ⟨_, rfl⟩
      rw [← hp4] at hp e4 m4
      obtain ⟨sf, a4, w4'⟩ := p4
      dsimp only at hp e4 m4
      obtain ⟨sm1, hsm1⟩ : ∃ x, x = sm - 1 := ⟨_, rfl⟩
      obtain ⟨smf, hsmf⟩ : ∃ x, x = 1099511627776 - sf := ⟨_, rfl⟩
      rw [← hsm1, ← hsmf] at hp
      have e5 := numW_le (least := sm1) (most := smf) (l := l) (at_ := a4) (wr := w4') e4
      have m5' := numW_most (least := sm1) (most := smf) (l := l) (at_ := a4) (wr := w4')
      obtain ⟨p5, hp5⟩ : ∃ p5, p5 = numW sm1 smf l a4 w4' := ⟨_, rfl⟩
      rw [← hp5] at hp e5 m5'
      obtain ⟨sd, a5, w5'⟩ := p5
      dsimp only at hp e5 m5'
      rw [HLEN.out] at e4 e5
      have j1 : (sm : Int) - 1 = (sm1 : Int) := by omega
      have j2 : 1099511627776 - (sf : Int) = (smf : Int) := by omega
      obtain ⟨sl, hsl⟩ : ∃ x, x = sf + sd := ⟨_, rfl⟩
      rw [← hsl] at hp
      have j3 : (sf : Int) + (sd : Int) = (sl : Int) := by omega
      have j4 : sl ≤ 1099511627776 := by omega
      have HN4 := Lib.hid hp4.symm
      have HN5 := Lib.hid hp5.symm
      have HPS := Lib.hid hp
      clear hp hp4 hp5 hsm1 hsmf hsl HPP hm
      have N := Lib.hid (rnum_any 1 1099511627776 l w.heap.size gW A n c a3 w3' we QW.out (HR.out.below HB.out (Nat.le_refl _)) hnc (by omega) e3)
      unfold RetNum at N
      rw [HN4.out] at N
      go_wp2_with fail
      refine N.out.mono ?_
      rintro e b4 ⟨rfl, qx, gx⟩
      have QS := Lib.hid (QS.out.grown gx (fun h => by injection h with h; omega))
      have O : Hid (Ow _ _ _ _ _ _ _) := Lib.hid (World.ownsRow.kept O.out gx (Or.inr (own_blk_ne QW.out O.out (by decide)).symm))
      have Q2 := Lib.hid (Q2.out.grown gx (fun h => by injection h with h; omega))
      have QE := Lib.hid (QE.out.grown gx (fun h => by injection h with h; omega))
      have HB := Lib.hid (below_but HB.out gx (by omega) HB.out.size)
      have QW : Hid (Blk b4 gW 62 (WalkC A n c a4 w4')) := Lib.hid qx
      clear N gx qx
      have fS : b4.frozen? ⟨gS, 3, none⟩ = false := QS.out.frozen 3
      have kS := QS.out.cell 3
      have QS2 : Hid (Blk (b4.setCell ⟨gS, 3, none⟩ (.int .u64 (sf : Int))) gS 40 #[.int .u32 (si : Int), .int .u32 (sz : Int), .int .u32 (sm : Int), .int .u64 (sf : Int), .int .u64 0]) := Lib.hid (QS.out.set_ 3 (.int .u64 (sf : Int)))
      have Q22 := Lib.hid (Q2.out.far (p := ⟨gS, 3, none⟩) (show w.heap.size ≠ gS by omega) (.int .u64 (sf : Int)))
      have QE2 := Lib.hid (QE.out.far (p := ⟨gS, 3, none⟩) (show gE ≠ gS by omega) (.int .u64 (sf : Int)))
      have QW2 := Lib.hid (QW.out.far (p := ⟨gS, 3, none⟩) (show gW ≠ gS by omega) (.int .u64 (sf : Int)))
      have HB2 := Lib.hid (HB.out.setCell (p := ⟨gS, 3, none⟩) (show w.heap.size ≤ gS by omega) (.int .u64 (sf : Int)))
      have O2 : Hid (Ow (b4.setCell ⟨gS, 3, none⟩ (.int .u64 (sf : Int))) _ _ _ _ _ _) := Lib.hid (World.ownsRow.kept O.out (grown_set _ ⟨gS, 3, none⟩ (.int .u64 (sf : Int))) (Or.inr (fun e => absurd (LT0.out _ e) (Nat.lt_irrefl _))))
      clear Q2 QE QW HB O QS
      have Q2 := Q22
      have QE := QE2
      have QW := QW2
      have HB := HB2
      have O := O2
      have QS := QS2
      clear Q22 QE2 QW2 HB2 O2 QS2
      go_upto_region 34 with (fail)
      clear fS kS
      generalize b4.setCell ⟨gS, 3, none⟩ (.int .u64 (sf : Int)) = wf at *
      clear k2
      have QS : Hid (Blk wf.drew _ _ _) := QS
      have Q2 : Hid (Blk wf.drew _ _ _) := Q2
      have QE : Hid (Blk wf.drew _ _ _) := QE
      have QW : Hid (Blk wf.drew _ _ _) := QW
      have O : Hid (Ow wf.drew _ _ _ _ _ _) := O
      have hbx := HB.out
      have HB : Hid (Below w.heap.size w wf.drew) := Lib.hid ⟨hbx.os, hbx.tape, hbx.output, hbx.size, hbx.block⟩
      clear hbx
      refine wp_region_plan (fun W => Blk W gS 40 #[.int .u32 (si : Int), .int .u32 (sz : Int), .int .u32 (sm : Int), .int .u64 (sf : Int), .int .u64 0]) [.calms [0, 2, 3, 7], .read 1, .read 4, .calms [5, 6], .read 8, .calms [9], .act 10, .calms [11, 12], .act 13] (by kernel_rfl) (by rfl) (by kernel_rfl) (by kernel_rfl) QS.out ?_
      refine plan_calms (by simp [calmRow, need]; rfl) ?_
      generalize wf.drew = wg at *
      go_wp2_with fail
      refine plan_read (by rfl) (.int .u64 (sf : Int)) (by rfl) (fun W hW => exec_load (p := ⟨gS, 3, none⟩) rfl rfl (by kernel_rfl) (Blk.cell hW 3)) ?_
      refine plan_read (by rfl) (.int .u32 (sm : Int)) (by rfl) (fun W hW => exec_load (p := ⟨gS, 2, none⟩) rfl rfl (by kernel_rfl) (Blk.cell hW 2)) ?_
      refine plan_calms (by simp [calmRow, need, chk]; rfl) ?_
      go_wp2_with fail
      refine plan_read (by rfl) (.int .u64 (sf : Int)) (by rfl) (fun W hW => exec_load (p := ⟨gS, 3, none⟩) rfl rfl (by kernel_rfl) (Blk.cell hW 3)) ?_
      refine plan_calms (by simp [calmRow, need, chk]; rfl) ?_
      go_wp2_with fail
      refine plan_act (by rfl) ?_
      have N := Lib.hid (rnum_any sm1 smf l w.heap.size gW A n c a4 w4' wg QW.out (HR.out.below HB.out (Nat.le_refl _)) hnc (by omega) e4)
      unfold RetNum at N
      rw [HN5.out] at N
      go_wp2_with fail
      refine N.out.mono ?_
      rintro e b5 ⟨rfl, qx, gx⟩
      have QS := Lib.hid (QS.out.grown gx (fun h => by injection h with h; omega))
      have O : Hid (Ow _ _ _ _ _ _ _) := Lib.hid (World.ownsRow.kept O.out gx (Or.inr (own_blk_ne QW.out O.out (by decide)).symm))
      have Q2 := Lib.hid (Q2.out.grown gx (fun h => by injection h with h; omega))
      have QE := Lib.hid (QE.out.grown gx (fun h => by injection h with h; omega))
      have HB := Lib.hid (below_but HB.out gx (by omega) HB.out.size)
      have QW : Hid (Blk b5 gW 62 (WalkC A n c a5 w5')) := Lib.hid qx
      clear N gx qx
      go_wp2_with fail
      refine ⟨QS.out, ?_⟩
      refine plan_calms (by simp [calmRow, need, chk]; rfl) ?_
      go_wp2_with fail
      refine plan_last (by rfl) (by kernel_rfl) ?_
      have fS : b5.frozen? ⟨gS, 4, none⟩ = false := QS.out.frozen 4
      have kS := QS.out.cell 4
      have QS2 : Hid (Blk (b5.setCell ⟨gS, 4, none⟩ (.int .u64 (sl : Int))) gS 40 #[.int .u32 (si : Int), .int .u32 (sz : Int), .int .u32 (sm : Int), .int .u64 (sf : Int), .int .u64 (sl : Int)]) := Lib.hid (QS.out.set_ 4 (.int .u64 (sl : Int)))
      have Q22 := Lib.hid (Q2.out.far (p := ⟨gS, 4, none⟩) (show w.heap.size ≠ gS by omega) (.int .u64 (sl : Int)))
      have QE2 := Lib.hid (QE.out.far (p := ⟨gS, 4, none⟩) (show gE ≠ gS by omega) (.int .u64 (sl : Int)))
      have QW2 := Lib.hid (QW.out.far (p := ⟨gS, 4, none⟩) (show gW ≠ gS by omega) (.int .u64 (sl : Int)))
      have HB2 := Lib.hid (HB.out.setCell (p := ⟨gS, 4, none⟩) (show w.heap.size ≤ gS by omega) (.int .u64 (sl : Int)))
      have O2 : Hid (Ow (b5.setCell ⟨gS, 4, none⟩ (.int .u64 (sl : Int))) _ _ _ _ _ _) := Lib.hid (World.ownsRow.kept O.out (grown_set _ ⟨gS, 4, none⟩ (.int .u64 (sl : Int))) (Or.inr (fun e => absurd (LT0.out _ e) (Nat.lt_irrefl _))))
      clear Q2 QE QW HB O QS
      have Q2 := Q22
      have QE := QE2
      have QW := QW2
      have HB := HB2
      have O := O2
      have QS := QS2
      clear Q22 QE2 QW2 HB2 O2 QS2
      go_wp2_with fail
      refine plan_end ?_
      clear fS kS
      generalize b5.setCell ⟨gS, 4, none⟩ (.int .u64 (sl : Int)) = wh at *
      have c4 := QE.out.cell 4
      have hjb : j < 200 := by omega
      go_upto_region 35 with (fail)
      go_upto_region 36 with (first
        | (refine wpList_value rfl (exec_load_blk rfl rfl QS.out Try.underlying40 rfl (by kernel_rfl)) ?_)
        | (at_builtin; refine wpList_push eltSeal rfl (.tmp 159) (.tmp 161) rfl (W := wh) rfl O.out rfl rfl (by simp [Value.oneCell']) (by omega) (by unfold maxLen; omega) (w0 := wh) (Below.refl _ _) HB.out.size ?_; intro v2 wp o2 b2 x2 y2; obtain ⟨A2, c2q, rfl, -⟩ := own_cap o2; have Q22 := Lib.hid (Q2.out.grownT O.out (by decide) x2); have QE2 := Lib.hid (QE.out.grownT O.out (by decide) x2); have QW2 := Lib.hid (QW.out.grownT O.out (by decide) x2); have QS2 := Lib.hid (QS.out.grown x2 (fun e => by have := LT0.out _ e.symm; omega)); have HB2 := Lib.hid (HB.out.trans b2); have f4 := QE2.out.frozen 4; have k4 := QE2.out.cell 4; have O2 : Hid (Ow _ _ _ _ _ _ _) := Lib.hid o2; clear o2 b2 x2 y2)
        | fail)
      have P4 := Lib.hid (QE2.out.set_ 4 (.slice A2 (j + 1) c2q))
      have Q23 := Lib.hid (Q22.out.far (p := ⟨gE, 4, none⟩) (show w.heap.size ≠ gE by omega) (.slice A2 (j + 1) c2q))
      have QW3 := Lib.hid (QW2.out.far (p := ⟨gE, 4, none⟩) (show gW ≠ gE by omega) (.slice A2 (j + 1) c2q))
      have QS3 := Lib.hid (QS2.out.far (p := ⟨gE, 4, none⟩) (show gS ≠ gE by omega) (.slice A2 (j + 1) c2q))
      have HB3 := Lib.hid (HB2.out.setCell (p := ⟨gE, 4, none⟩) (show w.heap.size ≤ gE by omega) (.slice A2 (j + 1) c2q))
      have O3 : Hid (Ow (wp.setCell ⟨gE, 4, none⟩ (.slice A2 (j + 1) c2q)) _ _ _ _ _ _) := Lib.hid (Ow.setT O2.out QE2.out (by decide) 4 (.slice A2 (j + 1) c2q))
      clear f4 k4
      generalize wp.setCell ⟨gE, 4, none⟩ (.slice A2 (j + 1) c2q) = wq at *
      have k0 : wq.cell? ⟨gS, 0, none⟩ = some (.int .u32 (si : Int)) := QS3.out.cell 0
      go_wp2_with fail
      go_roundw
      case rel =>
        exact ⟨j + 1, d ++ [⟨si, sz, sm, sf, sl⟩], si, a5, w5', .slice A2 (j + 1) c2q, by omega, by go_num, rfl, by rw [List.length_append, HDL.out]; rfl, by omega, by omega, by rw [HST.out, HPS.out]; simp, ⟨Q23.out, P4.out, QW3.out, HB3.out⟩, by rw [slCells_snoc']; exact O3.out⟩
      case measure => simp [intOf]; omega
end Go.Proofs.Ytedjolkkidciiaa
