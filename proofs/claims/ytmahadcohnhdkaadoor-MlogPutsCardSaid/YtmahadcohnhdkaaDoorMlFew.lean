/- Chapter 22: few. For every row of edits. -/
import Derived.Test.YtmahadcohnhdkaaDoorMl4
import Derived.Test.YtmahadcohnhdkaaDoorGA
import Derived.Deep.CutRange
namespace Go.Proofs.YtmahadcohnhdkaaDoor
open Go.RowKit
attribute [local go_sem] Oper.semAt_some

/-- an edit of at most 210 seals, whose name has at most 40 bytes -/
def fewE (d : Ed) : Ed := ⟨d.kind, d.name.take 40, d.seq, d.id, d.seals.take 210⟩
/-- an edit as an argument has it: its name as long as a string may be -/
def Ed.fits0 (d : Ed) : Prop := d.seq < 18446744073709551616 ∧ d.id < 4294967296 ∧ d.name.length ≤ 9223372036854775807 ∧ ∀ s ∈ d.seals, s.fits
theorem fewE_fits {d : Ed} (h : d.fits0) : (fewE d).fits :=
  ⟨h.1, h.2.1, by unfold fewE; simp only [List.length_take]; omega, fun s hs => h.2.2.2 s (List.mem_of_mem_take hs)⟩
theorem slCells_take (l : List Sl) (k : Nat) : slCells (l.take k) = (slCells l).take (k * 5) := by
  unfold slCells
  exact flatMap_take Sl.cells 5 (fun _ => rfl) l k
def fewX (x : EdX) : EdX := ⟨fewE x.d, x.A, min x.n 210, x.c⟩
def fewT (l : List EdX) (j : Nat) : List EdX := (l.take j).map fewX
theorem fewT_eq (l : List EdX) (j : Nat) : fewT l j = (l.take j).map fewX := rfl
def EdX.fit0 (x : EdX) : Prop := x.d.fits0 ∧ x.d.seals.length = x.n ∧ x.n ≤ x.c ∧ x.n ≤ 9223372036854775807

set_option maxRecDepth 100000 in
set_option maxHeartbeats 8000000 in
theorem fewM_any (l : List EdX) (A : Option Addr) (n c : Nat) (w : World) (hn : l.length = n) (hr : Rd w w.heap.size 5 A n (exCells l)) (hf : ∀ x ∈ l, x.fit0) :
    Calls Tryd.prog 7 #[.slice A n c] w fun e w' => ∃ v, e = .returned v ∧ Ow w' w.heap.size 31 5 v (min n 12) (exCells (fewT l 12)) ∧ Below w.heap.size w w' := by
  have HN := Lib.hid hn
  have HR := Lib.hid hr
  have HF := Lib.hid hf
  clear hn hr hf
  go_enter Tryd.func7, Tryd.ntmps7
  go_wp2_with fail
  go_loopw [3, 4] (fun v i wr => ∃ j : Nat, j ≤ min n 12 ∧ i = .int .i64 (j : Int) ∧ Below w.heap.size w wr ∧ Ow wr w.heap.size 31 5 v j (exCells (fewT l j))) (fun _ i _ => 12 - (intOf i).toNat)
  case atStart => exact ⟨0, Nat.zero_le _, rfl, Below.refl _ _, World.ownsRow_nil _ _ _ _⟩
  case round =>
    obtain ⟨j, hj, rfl, hb, o⟩ := hrel
    obtain ⟨A3, c3, rfl, -⟩ := own_cap o
    have HB := Lib.hid hb
    have O : Hid (Ow _ _ _ _ _ _ _) := Lib.hid o
    clear hb o
    have fin : ¬ (j < n ∧ j < 12) → Hid (Ow wr w.heap.size 31 5 (.slice A3 j c3) (min n 12) (exCells (fewT l 12))) := fun h => by
      have e1 : j = min n 12 := by omega
      have e2 : l.take j = l.take 12 := by
        rcases Nat.lt_or_ge n 12 with h1 | h1
        · rw [List.take_of_length_le (by have := HN.out; omega), List.take_of_length_le (by have := HN.out; omega)]
        · rw [show j = 12 by omega]
      rw [← e1, fewT_eq, ← e2, ← fewT_eq]
      exact O
    by_cases hlt : j < n
    rotate_left
    · have h1 : ¬ (j : Int) < (n : Int) := by omega
      have OF := fin (by omega)
      clear fin
      go_wp2_with fail
      exact bodyPost_ret (results_tmp rfl _ _ _) rfl ⟨.slice A3 j c3, rfl, OF.out, HB.out⟩
    by_cases h12 : j < 12
    rotate_left
    · have h1 : (j : Int) < (n : Int) := by omega
      have h2 : ¬ (j : Int) < 12 := by omega
      have OF := fin (by omega)
      clear fin
      go_wp2_with fail
      exact bodyPost_ret (results_tmp rfl _ _ _) rfl ⟨.slice A3 j c3, rfl, OF.out, HB.out⟩
    have h1 : (j : Int) < (n : Int) := by omega
    have h2 : (j : Int) < 12 := by omega
    clear fin
    obtain ⟨p, off, rfl, hpl, hcell⟩ := HR.out.2.2 (by omega)
    obtain ⟨x, hx⟩ : ∃ x, l[j]? = some x := ⟨l[j]'(by have := HN.out; omega), List.getElem?_eq_getElem _⟩
    obtain ⟨xf, xl, xc, xn⟩ := HF.out x (List.mem_of_getElem? hx)
    have hat := (exAt hcell hx).after hpl HB.out
    have htk : fewT l (j + 1) = fewT l j ++ [fewX x] := by rw [fewT_eq, fewT_eq, List.take_add_one, hx, List.map_append]; rfl
    obtain ⟨⟨k, nm, q, i, sl⟩, A9, n9, c9⟩ := x
    obtain ⟨f1, f2, f3, -⟩ := xf
    dsimp only at f1 f2 f3 xl xc xn
    obtain ⟨S, hS⟩ : ∃ S : ByteArray, S = ⟨nm.toArray⟩ := ⟨_, rfl⟩
    obtain ⟨m, hm⟩ : ∃ m, m = min nm.length 40 := ⟨_, rfl⟩
    obtain ⟨r9, hr9⟩ : ∃ m, m = min n9 210 := ⟨_, rfl⟩
    obtain ⟨S2, hS2⟩ : ∃ S : ByteArray, S = ⟨(nm.take 40).toArray⟩ := ⟨_, rfl⟩
    have hSz : S.size = nm.length := by rw [hS]; simp [ByteArray.size]
    have hsl : ∀ W, (Instr.sliceAt 9 (.string S) none (some (.int .i64 (m : Int))) none).run Tryd.prog W = .ok (.string S2) W := fun W => by
      rw [run_sliceAt_string (P := Tryd.prog) W 9 _ _ _ _ Tryd.underlying9]
      rw [run_slice_string_h (P := Tryd.prog) W 9 S Tryd.underlying9 .i64 (m : Int) (by omega) (by omega)]
      rw [hS, hS2, Int.toNat_natCast]
      congr 2
      apply ByteArray.ext
      simp [hm, Nat.min_comm]
    have hcl : (fewX ⟨⟨k, nm, q, i, sl⟩, A9, n9, c9⟩).cells = (#[.int .i64 k, .string S2, .int .u64 (q : Int), .int .u32 (i : Int), .slice A9 r9 c9]).toList := by rw [hS2, hr9]; rfl
    have hat : At wr p (off + j * 5) [.int .i64 k, .string S, .int .u64 (q : Int), .int .u32 (i : Int), .slice A9 n9 c9] := by rw [hS]; exact hat
    have hmin1 : min (nm.length : Int) 40 = (m : Int) := by omega
    have hmin2 : min (n9 : Int) 210 = (r9 : Int) := by omega
    have hrn : r9 ≤ n9 := by omega
    have hrc : r9 ≤ c9 := by omega
    have hrci : (r9 : Int) ≤ (c9 : Int) := by omega
    have hni : (n9 : Int) ≤ 9223372036854775807 := by omega
    have HAT := Lib.hid hat
    have HTK := Lib.hid htk
    have HCL := Lib.hid hcl
    clear hcell hpl hx hat htk hcl hS hS2 hm hr9 xl
    have HB00 := Lib.hid HB.out.size
    have LT0 := Lib.hid (Ow.hi O.out)
    have q5 := Blk.new wr 31 #[.int .i64 k, .string S, .int .u64 (q : Int), .int .u32 (i : Int), .slice A9 n9 c9]
    have bz := belowAlloc (Below.refl wr.heap.size wr) (.cells #[.int .i64 k, .string S, .int .u64 (q : Int), .int .u32 (i : Int), .slice A9 n9 c9] 31)
    have HB := Lib.hid (belowGo HB.out bz)
    have O : Hid (Ow _ _ _ _ _ _ _) := Lib.hid (Ow.after O.out bz)
    have hw0 : w.heap.size ≤ wr.heap.size := HB00.out
    go_upto_region 6 with (first
      | (refine wpList_value rfl (exec_load_mid rfl rfl HAT.out Tryd.underlying31 rfl (by kernel_rfl)) ?_)
      | fail)
    obtain ⟨g5, hg5⟩ : ∃ g, g = wr.heap.size := ⟨_, rfl⟩
    rw [← hg5] at hw0 q5 LT0 ⊢
    generalize wr.alloc (.cells #[.int .i64 k, .string S, .int .u64 (q : Int), .int .u32 (i : Int), .slice A9 n9 c9] 31) = w2 at *
    clear hg5 bz HAT
    have q5 : Blk w2.drew g5 31 #[.int .i64 k, .string S, .int .u64 (q : Int), .int .u32 (i : Int), .slice A9 n9 c9] := q5
    have hbx := HB.out
    have HB : Hid (Below w.heap.size w w2.drew) := Lib.hid ⟨hbx.os, hbx.tape, hbx.output, hbx.size, hbx.block⟩
    have O : Hid (Ow w2.drew _ _ _ _ _ _) := O
    have Q5 := Lib.hid q5
    clear hbx q5
    refine wp_region_plan (fun W => W = w2.drew) [.calms [0, 2, 7, 9], .read 1, .read 3, .calms [4, 5, 6], .read 8, .read 10, .calms [11, 12, 13, 14], .act 15, .calms [16], .act 17] (by kernel_rfl) (by rfl) (by kernel_rfl) (by kernel_rfl) rfl ?_
    refine plan_calms (by simp [calmRow, need]; rfl) ?_
    generalize w2.drew = w3 at *
    go_wp2_with fail
    refine plan_read (by rfl) (.string S) (by rfl) (fun W hW => exec_load (p := ⟨g5, 1, none⟩) rfl rfl (by kernel_rfl) (by subst hW; exact Q5.out.cell 1)) ?_
    refine plan_read (by rfl) (.string S) (by rfl) (fun W hW => exec_load (p := ⟨g5, 1, none⟩) rfl rfl (by kernel_rfl) (by subst hW; exact Q5.out.cell 1)) ?_
    refine plan_calms (by simp [calmRow, need, chk]; rfl) ?_
    go_wp2_with fail
    refine plan_read (by rfl) (.slice A9 n9 c9) (by rfl) (fun W hW => exec_load (p := ⟨g5, 4, none⟩) rfl rfl (by kernel_rfl) (by subst hW; exact Q5.out.cell 4)) ?_
    refine plan_read (by rfl) (.slice A9 n9 c9) (by rfl) (fun W hW => exec_load (p := ⟨g5, 4, none⟩) rfl rfl (by kernel_rfl) (by subst hW; exact Q5.out.cell 4)) ?_
    refine plan_calms (by simp [calmRow, need, chk]; rfl) ?_
    go_wp2_with fail
    have c1 := Q5.out.cell 1
    have f1 := Q5.out.frozen 1
    refine plan_last (by rfl) (by kernel_rfl) ?_
    go_wp2_with fail
    have Q5 : Hid (Blk (w3.setCell ⟨g5, 1, none⟩ (.string S2)) g5 31 #[.int .i64 k, .string S2, .int .u64 (q : Int), .int .u32 (i : Int), .slice A9 n9 c9]) := Lib.hid (Q5.out.set_ 1 (.string S2))
    have HB := Lib.hid (HB.out.setCell (p := ⟨g5, 1, none⟩) hw0 (.string S2))
    have O : Hid (Ow (w3.setCell ⟨g5, 1, none⟩ (.string S2)) _ _ _ _ _ _) := Lib.hid (World.ownsRow.kept O.out (grown_set _ ⟨g5, 1, none⟩ (.string S2)) (Or.inr (fun e => absurd (LT0.out _ e) (Nat.lt_irrefl _))))
    clear c1 f1
    generalize w3.setCell ⟨g5, 1, none⟩ (.string S2) = w4 at *
    refine plan_calms (by simp [calmRow, need]; rfl) ?_
    go_wp2_with fail
    have c4 := Q5.out.cell 4
    have f4 := Q5.out.frozen 4
    refine plan_last (by rfl) (by kernel_rfl) ?_
    go_wp2_with fail
    refine plan_end ?_
    have Q5 : Hid (Blk (w4.setCell ⟨g5, 4, none⟩ (.slice A9 r9 c9)) g5 31 #[.int .i64 k, .string S2, .int .u64 (q : Int), .int .u32 (i : Int), .slice A9 r9 c9]) := Lib.hid (Q5.out.set_ 4 (.slice A9 r9 c9))
    have HB := Lib.hid (HB.out.setCell (p := ⟨g5, 4, none⟩) hw0 (.slice A9 r9 c9))
    have O : Hid (Ow (w4.setCell ⟨g5, 4, none⟩ (.slice A9 r9 c9)) _ _ _ _ _ _) := Lib.hid (World.ownsRow.kept O.out (grown_set _ ⟨g5, 4, none⟩ (.slice A9 r9 c9)) (Or.inr (fun e => absurd (LT0.out _ e) (Nat.lt_irrefl _))))
    clear c4 f4
    generalize w4.setCell ⟨g5, 4, none⟩ (.slice A9 r9 c9) = w5 at *
    go_upto_region 4 with (first
      | (refine wpList_value rfl (exec_load_blk rfl rfl Q5.out Tryd.underlying31 rfl (by kernel_rfl)) ?_)
      | (at_builtin; refine wpList_push eltEdit rfl (.tmp 36) (.tmp 38) rfl (W := w5) rfl O.out rfl rfl (by simp [Value.oneCell']) (by omega) (by unfold maxLen; omega) (Below.refl _ _) HB.out.size ?_; intro v6 w6 o6 b6 x6 y6; have HB := Lib.hid (HB.out.trans b6); have O6 : Hid (Ow _ _ _ _ _ _ _) := Lib.hid o6; clear o6 b6 x6 y6)
      | fail)
    go_wp2_with fail
    go_roundw
    case rel =>
      refine ⟨j + 1, by omega, by go_num, HB.out, ?_⟩
      rw [HTK.out]
      unfold exCells
      rw [List.flatMap_append]
      have := O6.out
      simpa [exCells, HCL.out] using this
    case measure => simp [intOf]; omega
end Go.Proofs.YtmahadcohnhdkaaDoor
