/- Package mlog: Get. For every bytes. -/
import Derived.Test.YtmahadcohnhdkaaDoorMl1
import Derived.Test.YtmahadcohnhdkaaDoorEd6
import Derived.Test.YtmahadcohnhdkaaDoorGC
import Derived.Test.YtmahadcohnhdkaaDoorGB
namespace Go.Proofs.YtmahadcohnhdkaaDoor
open Go.RowKit
attribute [local go_sem] Oper.semAt_some

/-- a frame read: the edit, how many bytes, what is wrong -/
def frGet (l : List UInt8) : Ed × Nat × Nat :=
  if l.length < 8 then (Ed.none, 0, 22)
  else if (coverC ((l.take 8).take (8 - 4)) == l.take 8) = false ∨ 65536 < numLE (l.take 4) then (Ed.none, 0, 23)
  else if l.length < 12 + numLE (l.take 4) then (Ed.none, 0, 22)
  else if (coverC ((l.take (12 + numLE (l.take 4))).take (12 + numLE (l.take 4) - 4)) == l.take (12 + numLE (l.take 4))) = false then (Ed.none, 0, 23)
  else if (getE ((l.take (8 + numLE (l.take 4))).drop 8)).2 = 0 then ((getE ((l.take (8 + numLE (l.take 4))).drop 8)).1, 12 + numLE (l.take 4), 0) else (Ed.none, 0, 23)
def RetFr (w : World) (l : List UInt8) (e : Ending) (w' : World) : Prop :=
  ∃ v, e = .returned (.tuple #[.agg (edC (frGet l).1 ⟨(frGet l).1.name.toArray⟩ v), .int .i64 ((frGet l).2.1 : Int), .int .i64 ((frGet l).2.2 : Int)]) ∧ w'.ownsRow w.heap.size 67 5 v (frGet l).1.seals.length (slCells (frGet l).1.seals) ∧ Below w.heap.size w w'
set_option maxRecDepth 100000 in
theorem no_any (y : Int) (w : World) : Calls Tryd.prog 27 #[.int .i64 y] w fun e w' => e = .returned (.tuple #[.agg #[.int .i64 0, .string ⟨#[]⟩, .int .u64 0, .int .u32 0, .slice none 0 0], .int .i64 0, .int .i64 y]) ∧ Below w.heap.size w w' := by
  have b1 := belowAlloc (Below.refl w.heap.size w) (.cells #[.int .i64 0, .string ⟨#[]⟩, .int .u64 0, .int .u32 0, .slice none 0 0] 31)
  have q1 := Blk.new w 31 #[.int .i64 0, .string ⟨#[]⟩, .int .u64 0, .int .u32 0, .slice none 0 0]
  go_enter Tryd.func27, Tryd.ntmps27
  go_upto_region 1 with (fail)
  generalize w.alloc (.cells #[.int .i64 0, .string ⟨#[]⟩, .int .u64 0, .int .u32 0, .slice none 0 0] 31) = w1 at *
  have Q1 := Lib.hid q1
  have Q2 := Lib.hid (q1.row #[.int .i64 0, .string ⟨#[]⟩, .int .u64 0, .int .u32 0, .slice none 0 0])
  have HB := Lib.hid (row_below b1 (Nat.le_refl _) #[.int .i64 0, .string ⟨#[]⟩, .int .u64 0, .int .u32 0, .slice none 0 0])
  clear q1 b1
  go_wp2_with (first
    | (refine wpList_storeB rfl 31 (.tmp 2) (.tmp 5) rfl rfl rfl Q1.out (by kernel_rfl) (by rfl) (by simp [Value.oneCell']) ?_)
    | fail)
  exact bodyPost_ret (results_cell3 rfl rfl (res_load Q2.out Tryd.underlying31 rfl (by kernel_rfl))) rfl ⟨rfl, HB.out⟩

set_option maxRecDepth 100000 in
set_option maxHeartbeats 8000000 in
theorem getM_any (l : List UInt8) (A : Option Addr) (n c : Nat) (w : World) (hT : Tab w) (hnc : n ≤ c) (hr : Rd w w.heap.size 1 A n (bcells l)) : Calls Tryd.prog 15 #[.slice A n c] w (RetFr w l) := by
  have hlen := hr.1
  have hmx := hr.2.1
  unfold maxLen at hmx
  rw [bcells_len, Nat.mul_one] at hlen
  obtain ⟨R, hR⟩ : ∃ R, R = frGet l := ⟨_, rfl⟩
  unfold RetFr
  rw [← hR]
  have HRR := Lib.hid hR
  clear hR
  have q2 := Blk.new w 31 #[.int .i64 0, .string ⟨#[]⟩, .int .u64 0, .int .u32 0, .slice none 0 0]
  have hb := belowAlloc (Below.refl w.heap.size w) (.cells #[.int .i64 0, .string ⟨#[]⟩, .int .u64 0, .int .u32 0, .slice none 0 0] 31)
  have HT := Lib.hid (hT.alloc (.cells #[.int .i64 0, .string ⟨#[]⟩, .int .u64 0, .int .u32 0, .slice none 0 0] 31))
  have HR := Lib.hid hr
  have HLEN := Lib.hid hlen
  clear hT hr hlen
  go_enter Tryd.func15, Tryd.ntmps15
  go_upto_region 1 with (fail)
  generalize w.alloc (.cells #[.int .i64 0, .string ⟨#[]⟩, .int .u64 0, .int .u32 0, .slice none 0 0] 31) = w1 at *
  have Q2 := Lib.hid q2
  have HB := Lib.hid hb
  clear q2 hb
  by_cases h8 : n < 8
  · skip
    have h8i : (n : Int) < 8 := by omega
    have HRD : Hid (R = (Ed.none, 0, 22)) := Lib.hid (by rw [HRR.out]; unfold frGet; rw [if_pos (by rw [HLEN.out]; exact h8)])
    clear HRR
    have Q3 := Lib.hid (Q2.out.row #[.int .i64 0, .string ⟨#[]⟩, .int .u64 0, .int .u32 0, .slice none 0 0])
    have HB3 := Lib.hid (row_below HB.out (Nat.le_refl _) #[.int .i64 0, .string ⟨#[]⟩, .int .u64 0, .int .u32 0, .slice none 0 0])
    go_wp2_with (first
      | (refine wpList_storeB rfl 31 (.tmp 2) (.tmp 14) rfl rfl rfl Q2.out (by kernel_rfl) (by rfl) (by simp [Value.oneCell']) ?_)
      | fail)
    refine bodyPost_ret (results_cell3 rfl rfl (res_load Q3.out Tryd.underlying31 rfl (by kernel_rfl))) rfl ⟨.slice none 0 0, by rw [HRD.out]; rfl, ?_, HB3.out⟩
    rw [HRD.out]
    exact World.ownsRow_nil _ _ _ _
  have h8i : ¬ (n : Int) < 8 := by omega
  have h8n : 8 ≤ n := by omega
  have h8c : (8 : Int) ≤ (c : Int) := by omega
  have N0 : ¬ l.length < 8 := by rw [HLEN.out]; omega
  have RE := read_any l A n c 4 w1 ((HR.out.below HB.out (Nat.le_refl _)).more HB.out.size)
  have e1 : readN l 4 = numLE (l.take 4) := by unfold readN; rw [if_neg (by rw [HLEN.out]; omega)]; rfl
  have e2 : readE l 4 = 0 := by unfold readE; rw [if_neg (by omega), if_neg (by rw [HLEN.out]; omega)]
  rw [e1, e2] at RE
  have hx := numLE_lt (l.take 4)
  have hx2 : (l.take 4).length = 4 := by rw [List.length_take, HLEN.out]; omega
  rw [hx2] at hx
  obtain ⟨x, hxx⟩ : ∃ x, x = numLE (l.take 4) := ⟨_, rfl⟩
  rw [← hxx] at RE hx
  have HX := Lib.hid hxx
  have RE := Lib.hid RE
  have R8 := Lib.hid (right_any (l.take 8) A 8 c w1 HT.out (by omega) (by omega) (((HR.out.below HB.out (Nat.le_refl _)).more HB.out.size).btake h8n))
  have HN0 := Lib.hid N0
  clear hxx e1 e2 hx2 N0
  go_wp2_with fail
  refine RE.out.mono ?_
  rintro e w2 ⟨rfl, rfl⟩
  clear RE
  go_wp2_with fail
  refine R8.out.mono ?_
  rintro e w2 ⟨rfl, b2⟩
  obtain ⟨r8, hr8⟩ : ∃ b, b = (coverC ((l.take 8).take (8 - 4)) == l.take 8) := ⟨_, rfl⟩
  rw [← hr8]
  have H8 := Lib.hid hr8
  have Q2 := Lib.hid (Q2.out.after b2)
  have HT := Lib.hid (HT.out.after b2)
  have HB := Lib.hid (belowGo HB.out b2)
  clear R8 b2 hr8
  obtain ⟨s, hs⟩ : ∃ s, s = 12 + x := ⟨_, rfl⟩
  have hsi : 8 + (x : Int) + 4 = (s : Int) := by omega
  have HS := Lib.hid hs
  have hsm : s ≤ 5000000000 := by omega
  clear hs
  cases r8 with
  | false =>
    have HRD : Hid (R = (Ed.none, 0, 23)) := Lib.hid (by rw [HRR.out]; unfold frGet; rw [if_neg HN0.out, if_pos (Or.inl H8.out.symm)])
    have NO := Lib.hid (no_any 23 w2)
    clear HRR
    go_wp2_with fail
    refine NO.out.mono ?_
    rintro e wn ⟨rfl, bn⟩
    have Q2 := Lib.hid (Q2.out.after bn)
    have HB := Lib.hid (belowGo HB.out bn)
    clear NO bn
    have Q3 := Lib.hid (Q2.out.row #[.int .i64 0, .string ⟨#[]⟩, .int .u64 0, .int .u32 0, .slice none 0 0])
    have HB3 := Lib.hid (row_below HB.out (Nat.le_refl _) #[.int .i64 0, .string ⟨#[]⟩, .int .u64 0, .int .u32 0, .slice none 0 0])
    go_wp2_with (first
      | (refine wpList_storeB rfl 31 (.tmp 2) (.tmp 35) rfl rfl rfl Q2.out (by kernel_rfl) (by rfl) (by simp [Value.oneCell']) ?_)
      | fail)
    refine bodyPost_ret (results_cell3 rfl rfl (res_load Q3.out Tryd.underlying31 rfl (by kernel_rfl))) rfl ⟨.slice none 0 0, by rw [HRD.out]; rfl, ?_, HB3.out⟩
    rw [HRD.out]
    exact World.ownsRow_nil _ _ _ _
  | true =>
    have H8F : ¬ (coverC ((l.take 8).take (8 - 4)) == l.take 8) = false := by rw [← H8.out]; decide
    have H8F := Lib.hid H8F
    by_cases hbig : 65536 < x
    · skip
      have hbi : 65536 < (x : Int) := by omega
      have HBG := Lib.hid hbig
      clear hbig
      have HRD : Hid (R = (Ed.none, 0, 23)) := Lib.hid (by rw [HRR.out]; unfold frGet; rw [if_neg HN0.out, if_pos (Or.inr (by rw [← HX.out]; exact HBG.out))])
      have NO := Lib.hid (no_any 23 w2)
      clear HRR
      go_wp2_with fail
      refine NO.out.mono ?_
      rintro e wn ⟨rfl, bn⟩
      have Q2 := Lib.hid (Q2.out.after bn)
      have HB := Lib.hid (belowGo HB.out bn)
      clear NO bn
      have Q3 := Lib.hid (Q2.out.row #[.int .i64 0, .string ⟨#[]⟩, .int .u64 0, .int .u32 0, .slice none 0 0])
      have HB3 := Lib.hid (row_below HB.out (Nat.le_refl _) #[.int .i64 0, .string ⟨#[]⟩, .int .u64 0, .int .u32 0, .slice none 0 0])
      go_wp2_with (first
        | (refine wpList_storeB rfl 31 (.tmp 2) (.tmp 35) rfl rfl rfl Q2.out (by kernel_rfl) (by rfl) (by simp [Value.oneCell']) ?_)
        | fail)
      refine bodyPost_ret (results_cell3 rfl rfl (res_load Q3.out Tryd.underlying31 rfl (by kernel_rfl))) rfl ⟨.slice none 0 0, by rw [HRD.out]; rfl, ?_, HB3.out⟩
      rw [HRD.out]
      exact World.ownsRow_nil _ _ _ _
    have hbi : ¬ 65536 < (x : Int) := by omega
    have hNo : ¬ ((coverC ((l.take 8).take (8 - 4)) == l.take 8) = false ∨ 65536 < numLE (l.take 4)) := fun h => by rcases h with h | h; exact H8F.out h; rw [← HX.out] at h; exact hbig h
    have N1 := Lib.hid hNo
    clear hNo hbig
    by_cases hns : n < s
    · skip
      have hnsi : (n : Int) < (s : Int) := by omega
      have HNS := Lib.hid hns
      clear hns
      have HRD : Hid (R = (Ed.none, 0, 22)) := Lib.hid (by rw [HRR.out]; unfold frGet; rw [if_neg HN0.out, if_neg N1.out, if_pos (by rw [HLEN.out, ← HX.out, ← HS.out]; exact HNS.out)])
      have NO := Lib.hid (no_any 22 w2)
      clear HRR
      go_wp2_with fail
      refine NO.out.mono ?_
      rintro e wn ⟨rfl, bn⟩
      have Q2 := Lib.hid (Q2.out.after bn)
      have HB := Lib.hid (belowGo HB.out bn)
      clear NO bn
      have Q3 := Lib.hid (Q2.out.row #[.int .i64 0, .string ⟨#[]⟩, .int .u64 0, .int .u32 0, .slice none 0 0])
      have HB3 := Lib.hid (row_below HB.out (Nat.le_refl _) #[.int .i64 0, .string ⟨#[]⟩, .int .u64 0, .int .u32 0, .slice none 0 0])
      go_wp2_with (first
        | (refine wpList_storeB rfl 31 (.tmp 2) (.tmp 45) rfl rfl rfl Q2.out (by kernel_rfl) (by rfl) (by simp [Value.oneCell']) ?_)
        | fail)
      refine bodyPost_ret (results_cell3 rfl rfl (res_load Q3.out Tryd.underlying31 rfl (by kernel_rfl))) rfl ⟨.slice none 0 0, by rw [HRD.out]; rfl, ?_, HB3.out⟩
      rw [HRD.out]
      exact World.ownsRow_nil _ _ _ _
    have hnsi : ¬ (n : Int) < (s : Int) := by omega
    have hsn : s ≤ n := by omega
    have hsc : (s : Int) ≤ (c : Int) := by omega
    have hs12 : 12 ≤ s := by have := HS.out; omega
    have hN2 : ¬ l.length < 12 + numLE (l.take 4) := by rw [HLEN.out, ← HX.out, ← HS.out]; exact hns
    have N2 := Lib.hid hN2
    have R9 := Lib.hid (right_any (l.take s) A s c w2 HT.out (by omega) (by omega) (((HR.out.below HB.out (Nat.le_refl _)).more HB.out.size).btake hsn))
    clear hN2 hns
    go_wp2_with fail
    refine R9.out.mono ?_
    rintro e w3 ⟨rfl, b3⟩
    obtain ⟨r9, hr9⟩ : ∃ b, b = (coverC ((l.take s).take (s - 4)) == l.take s) := ⟨_, rfl⟩
    rw [← hr9]
    have H9 : Hid (r9 = (coverC ((l.take (12 + numLE (l.take 4))).take (12 + numLE (l.take 4) - 4)) == l.take (12 + numLE (l.take 4)))) := Lib.hid (by rw [hr9, HS.out, HX.out])
    have Q2 := Lib.hid (Q2.out.after b3)
    have HT := Lib.hid (HT.out.after b3)
    have HB := Lib.hid (belowGo HB.out b3)
    clear R9 b3 hr9
    cases r9 with
    | false =>
      have HRD : Hid (R = (Ed.none, 0, 23)) := Lib.hid (by rw [HRR.out]; unfold frGet; rw [if_neg HN0.out, if_neg N1.out, if_neg N2.out, if_pos H9.out.symm])
      have NO := Lib.hid (no_any 23 w3)
      clear HRR
      go_wp2_with fail
      refine NO.out.mono ?_
      rintro e wn ⟨rfl, bn⟩
      have Q2 := Lib.hid (Q2.out.after bn)
      have HB := Lib.hid (belowGo HB.out bn)
      clear NO bn
      have Q3 := Lib.hid (Q2.out.row #[.int .i64 0, .string ⟨#[]⟩, .int .u64 0, .int .u32 0, .slice none 0 0])
      have HB3 := Lib.hid (row_below HB.out (Nat.le_refl _) #[.int .i64 0, .string ⟨#[]⟩, .int .u64 0, .int .u32 0, .slice none 0 0])
      go_wp2_with (first
        | (refine wpList_storeB rfl 31 (.tmp 2) (.tmp 56) rfl rfl rfl Q2.out (by kernel_rfl) (by rfl) (by simp [Value.oneCell']) ?_)
        | fail)
      refine bodyPost_ret (results_cell3 rfl rfl (res_load Q3.out Tryd.underlying31 rfl (by kernel_rfl))) rfl ⟨.slice none 0 0, by rw [HRD.out]; rfl, ?_, HB3.out⟩
      rw [HRD.out]
      exact World.ownsRow_nil _ _ _ _
    | true =>
      have hN3 : ¬ (coverC ((l.take (12 + numLE (l.take 4))).take (12 + numLE (l.take 4) - 4)) == l.take (12 + numLE (l.take 4))) = false := by rw [← H9.out]; decide
      have N3 := Lib.hid hN3
      obtain ⟨t, ht⟩ : ∃ t, t = s - 4 := ⟨_, rfl⟩
      have hti : (s : Int) - 4 = (t : Int) := by omega
      have ht8 : 8 ≤ t := by omega
      have htn : t ≤ n := by omega
      have HTX : Hid (t = 8 + numLE (l.take 4)) := Lib.hid (by have := HS.out; have := HX.out; omega)
      have LH := fun W => Lib.hid (run_lh W (A := A) (n := n) (c := c) (i := 8) (k := t) ht8 (by omega) 8 (t : Int) rfl rfl)
      have rr := ((HR.out.below HB.out (Nat.le_refl _)).more HB.out.size).cut hnc ht8 htn
      have G := Lib.hid (getEd_any ((l.take t).drop 8) (cutA A c 8) (t - 8) (c - 8) w3 (by omega) rr)
      clear hN3 ht rr
      have hlh := fun W => (LH W).out
      go_wp2_with fail
      clear hlh
      refine G.out.mono ?_
      rintro e w4 ⟨v4, rfl, o4, b4⟩
      obtain ⟨g, hg⟩ : ∃ g, g = getE ((l.take t).drop 8) := ⟨_, rfl⟩
      rw [← hg] at o4 ⊢
      have HG : Hid (g = getE ((l.take (8 + numLE (l.take 4))).drop 8)) := Lib.hid (by rw [hg, HTX.out])
      clear hg G
      obtain ⟨d, ge⟩ := g
      dsimp only at o4 ⊢
      obtain ⟨A4, c4, rfl, -⟩ := own_cap o4
      obtain ⟨X, hX⟩ : ∃ X, X = edC d ⟨d.name.toArray⟩ (.slice A4 d.seals.length c4) := ⟨_, rfl⟩
      have hsz : X.size = 5 := by rw [hX]; rfl
      have hoz : X.all (·.oneCell') = true := by rw [hX]; simp [edC, Value.oneCell']
      rw [← hX]
      have HXX := Lib.hid hX
      have HB0 := Lib.hid HB.out.size
      have Q2 := Lib.hid (Q2.out.after b4)
      have HB := Lib.hid (belowGo HB.out b4)
      have O4 : Hid (Ow _ _ _ _ _ _ _) := Lib.hid (own_low o4 HB0.out)
      have qn := Blk.new w4 31 #[.int .i64 0, .string ⟨#[]⟩, .int .u64 0, .int .u32 0, .slice none 0 0]
      have QX := Lib.hid (qn.row X)
      have QN := Lib.hid qn
      have bz := row_below (belowAlloc (Below.refl w4.heap.size w4) (.cells #[.int .i64 0, .string ⟨#[]⟩, .int .u64 0, .int .u32 0, .slice none 0 0] 31)) (Nat.le_refl _) X
      have Q2 := Lib.hid (Q2.out.after bz)
      have HB := Lib.hid (belowGo HB.out bz)
      have O4 : Hid (Ow _ _ _ _ _ _ _) := Lib.hid (Ow.after O4.out bz)
      obtain ⟨g9, hg9⟩ : ∃ g, g = w4.heap.size := ⟨_, rfl⟩
      clear hX o4 b4 qn bz
      go_upto_region 13 with (first
        | (refine wpList_storeB rfl 31 (.tmp 9) (.tmp 65) rfl rfl rfl QN.out (by rw [hsz]; kernel_rfl) (by rw [hsz]; rfl) hoz ?_)
        | fail)
      generalize (w4.alloc (.cells #[.int .i64 0, .string ⟨#[]⟩, .int .u64 0, .int .u32 0, .slice none 0 0] 31)).setRow w4.heap.size X = w5 at *
      rw [← hg9] at QX ⊢
      clear QN hg9
      by_cases hge : ge = 0
      · skip
        have hgi : (ge : Int) = 0 := by omega
        have HGE := Lib.hid hge
        have HRD : Hid (R = (d, s, 0)) := Lib.hid (by rw [HRR.out]; unfold frGet; rw [if_neg HN0.out, if_neg N1.out, if_neg N2.out, if_neg N3.out, ← HG.out, if_pos HGE.out, ← HX.out, ← HS.out])
        clear hge HRR
        have Q3 := Lib.hid (Q2.out.row X)
        have HB3 := Lib.hid (row_below HB.out (Nat.le_refl _) X)
        have OF : Hid (Ow (w5.setRow w.heap.size X) w.heap.size 67 5 (.slice A4 d.seals.length c4) d.seals.length (slCells d.seals)) := Lib.hid (World.ownsRow.kept O4.out ⟨rfl, rfl, rfl, by simp [World.setRow], fun k _ hk => row_other (by simpa using hk) _⟩ (Or.inr (own_blk_ne Q2.out O4.out (by decide)).symm))
        go_wp2_with (first
          | (refine wpList_value rfl (exec_load_blk rfl rfl QX.out Tryd.underlying31 rfl (by rw [hsz]; kernel_rfl)) ?_)
          | (refine wpList_storeB rfl 31 (.tmp 2) (.tmp 74) rfl rfl rfl Q2.out (by rw [hsz]; kernel_rfl) (by rw [hsz]; rfl) hoz ?_)
          | fail)
        refine bodyPost_ret (results_cell3 rfl rfl (res_load Q3.out Tryd.underlying31 rfl (by rw [hsz]; kernel_rfl))) rfl ⟨.slice A4 d.seals.length c4, by rw [HRD.out, HXX.out]; rfl, ?_, HB3.out⟩
        rw [HRD.out]
        exact OF.out
      have hgi : ¬ (ge : Int) = 0 := by omega
      have HGE := Lib.hid hge
      clear hge
      have HRD : Hid (R = (Ed.none, 0, 23)) := Lib.hid (by rw [HRR.out]; unfold frGet; rw [if_neg HN0.out, if_neg N1.out, if_neg N2.out, if_neg N3.out, ← HG.out, if_neg HGE.out])
      have NO := Lib.hid (no_any 23 w5)
      clear HRR
      go_wp2_with fail
      refine NO.out.mono ?_
      rintro e wn ⟨rfl, bn⟩
      have Q2 := Lib.hid (Q2.out.after bn)
      have HB := Lib.hid (belowGo HB.out bn)
      clear NO bn
      have Q3 := Lib.hid (Q2.out.row #[.int .i64 0, .string ⟨#[]⟩, .int .u64 0, .int .u32 0, .slice none 0 0])
      have HB3 := Lib.hid (row_below HB.out (Nat.le_refl _) #[.int .i64 0, .string ⟨#[]⟩, .int .u64 0, .int .u32 0, .slice none 0 0])
      go_wp2_with (first
        | (refine wpList_storeB rfl 31 (.tmp 2) (.tmp 71) rfl rfl rfl Q2.out (by kernel_rfl) (by rfl) (by simp [Value.oneCell']) ?_)
        | fail)
      refine bodyPost_ret (results_cell3 rfl rfl (res_load Q3.out Tryd.underlying31 rfl (by kernel_rfl))) rfl ⟨.slice none 0 0, by rw [HRD.out]; rfl, ?_, HB3.out⟩
      rw [HRD.out]
      exact World.ownsRow_nil _ _ _ _
end Go.Proofs.YtmahadcohnhdkaaDoor
