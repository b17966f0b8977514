/- Chapter 09: few. For every edit. -/
import Derived.Test.YtedjolkkidciiaaEd8
import Derived.Test.YtedjolkkidciiaaGB
import Derived.Deep.CutRange
namespace Go.Proofs.Ytedjolkkidciiaa
open Go.RowKit
attribute [local go_sem] Oper.semAt_some

/-- an edit of at most 210 seals, whose name has at most 40 bytes -/
def fewE (d : Ed) : Ed := ⟨d.kind, d.name.take 40, d.seq, d.id, d.seals.take 210⟩
/-- an edit as an argument has it: its name as long as a string may be -/
def Ed.fits0 (d : Ed) : Prop := d.seq < 18446744073709551616 ∧ d.id < 4294967296 ∧ d.name.length ≤ 9223372036854775807 ∧ ∀ s ∈ d.seals, s.fits
theorem fewE_fits {d : Ed} (h : d.fits0) : (fewE d).fits :=
  ⟨h.1, h.2.1, by unfold fewE; simp only [List.length_take]; omega, fun s hs => h.2.2.2 s (List.mem_of_mem_take hs)⟩
theorem slCells_take (l : List Sl) (k : Nat) : slCells (l.take k) = (slCells l).take (k * 5) := by
  unfold slCells
  exact flatMap_take Sl.cells 5 (fun _ => rfl) l k
def RetFew (w : World) (d : Ed) (A : Option Addr) (c : Nat) (e : Ending) (w' : World) : Prop :=
  e = .returned (.agg (edC (fewE d) ⟨(fewE d).name.toArray⟩ (.slice A (fewE d).seals.length c))) ∧ Below w.heap.size w w'
set_option maxRecDepth 100000 in
set_option maxHeartbeats 8000000 in
theorem few_any (d : Ed) (A : Option Addr) (n c : Nat) (w : World) (hln : d.seals.length = n) (hnc : n ≤ c) (hn : n ≤ 9223372036854775807) (hnm : d.name.length ≤ 9223372036854775807) :
    Calls Try.prog 18 #[.agg (edC d ⟨d.name.toArray⟩ (.slice A n c))] w (RetFew w d A c) := by
  obtain ⟨k, nm, q, i, sl⟩ := d
  dsimp only at *
  obtain ⟨S, hS⟩ : ∃ S : ByteArray, S = ⟨nm.toArray⟩ := ⟨_, rfl⟩
  obtain ⟨m, hm⟩ : ∃ m, m = min nm.length 40 := ⟨_, rfl⟩
  obtain ⟨r, hr⟩ : ∃ m, m = min n 210 := ⟨_, rfl⟩
  obtain ⟨S2, hS2⟩ : ∃ S : ByteArray, S = ⟨(nm.take 40).toArray⟩ := ⟨_, rfl⟩
  have hSz : S.size = nm.length := by rw [hS]; simp [ByteArray.size]
  have hsl : ∀ W, (Instr.sliceAt 9 (.string S) none (some (.int .i64 (m : Int))) none).run Try.prog W = .ok (.string S2) W := fun W => by
    rw [run_sliceAt_string (P := Try.prog) W 9 _ _ _ _ Try.underlying9]
    rw [run_slice_string_h (P := Try.prog) W 9 S Try.underlying9 .i64 (m : Int) (by omega) (by omega)]
    rw [hS, hS2, Int.toNat_natCast]
    congr 2
    apply ByteArray.ext
    simp [hm, Nat.min_comm]
  have hmin1 : min (nm.length : Int) 40 = (m : Int) := by omega
  have hmin2 : min (n : Int) 210 = (r : Int) := by omega
  have hrn : r ≤ n := by omega
  have hrc : r ≤ c := by omega
  have hrci : (r : Int) ≤ (c : Int) := by omega
  have hni : (n : Int) ≤ 9223372036854775807 := by omega
  have hret : ∀ w', Below w.heap.size w w' → RetFew w ⟨k, nm, q, i, sl⟩ A c (.returned (.agg #[.int .i64 k, .string S2, .int .u64 (q : Int), .int .u32 (i : Int), .slice A r c])) w' := fun w' hb => by
    refine ⟨?_, hb⟩
    unfold fewE edC
    dsimp only
    rw [← hS2, List.length_take, hln, Nat.min_comm, ← hr]
  rw [show edC (Ed.mk k nm q i sl) ⟨nm.toArray⟩ (.slice A n c) = #[.int .i64 k, .string S, .int .u64 (q : Int), .int .u32 (i : Int), .slice A n c] by rw [hS]; rfl]
  have HRET := Lib.hid hret
  have q1 := (Blk.new w 28 #[.int .i64 k, .string S, .int .u64 (q : Int), .int .u32 (i : Int), .slice A n c]).alloc (.cells #[.int .i64 0, .string ⟨#[]⟩, .int .u64 0, .int .u32 0, .slice none 0 0] 28)
  have hb := belowAlloc (belowAlloc (Below.refl w.heap.size w) (.cells #[.int .i64 k, .string S, .int .u64 (q : Int), .int .u32 (i : Int), .slice A n c] 28)) (.cells #[.int .i64 0, .string ⟨#[]⟩, .int .u64 0, .int .u32 0, .slice none 0 0] 28)
  have q2 := Blk.newAt (w.alloc (.cells #[.int .i64 k, .string S, .int .u64 (q : Int), .int .u32 (i : Int), .slice A n c] 28)) 28 #[.int .i64 0, .string ⟨#[]⟩, .int .u64 0, .int .u32 0, .slice none 0 0] (g := w.heap.size + 1) (by simp)
  clear hret hS hm hr hS2 hln
  go_enter Try.func18, Try.ntmps18
  go_upto_region 1 with (fail)
  generalize (w.alloc (.cells #[.int .i64 k, .string S, .int .u64 (q : Int), .int .u32 (i : Int), .slice A n c] 28)).alloc (.cells #[.int .i64 0, .string ⟨#[]⟩, .int .u64 0, .int .u32 0, .slice none 0 0] 28) = w2 at *
  have q1 : Blk w2.drew w.heap.size 28 #[.int .i64 k, .string S, .int .u64 (q : Int), .int .u32 (i : Int), .slice A n c] := q1
  have q2 : Blk w2.drew (w.heap.size + 1) 28 #[.int .i64 0, .string ⟨#[]⟩, .int .u64 0, .int .u32 0, .slice none 0 0] := q2
  have hb : Below w.heap.size w w2.drew := ⟨hb.os, hb.tape, hb.output, hb.size, hb.block⟩
  refine wp_region_plan (fun W => W = w2.drew) [.calms [0, 2, 7, 9], .read 1, .read 3, .calms [4, 5, 6], .read 8, .read 10, .calms [11, 12, 13, 14], .act 15, .calms [16], .act 17] (by kernel_rfl) (by rfl) (by kernel_rfl) (by kernel_rfl) rfl ?_
  refine plan_calms (by simp [calmRow, need]; rfl) ?_
  generalize w2.drew = w3 at *
  have Q1 := Lib.hid q1
  have Q2 := Lib.hid q2
  have HB := Lib.hid hb
  clear q1 q2 hb
  go_wp2_with fail
  refine plan_read (by rfl) (.string S) (by rfl) (fun W hW => exec_load rfl rfl (by kernel_rfl) (by subst hW; exact Q1.out.cell 1)) ?_
  refine plan_read (by rfl) (.string S) (by rfl) (fun W hW => exec_load rfl rfl (by kernel_rfl) (by subst hW; exact Q1.out.cell 1)) ?_
  refine plan_calms (by simp [calmRow, need, chk]; rfl) ?_
  go_wp2_with fail
  refine plan_read (by rfl) (.slice A n c) (by rfl) (fun W hW => exec_load rfl rfl (by kernel_rfl) (by subst hW; exact Q1.out.cell 4)) ?_
  refine plan_read (by rfl) (.slice A n c) (by rfl) (fun W hW => exec_load rfl rfl (by kernel_rfl) (by subst hW; exact Q1.out.cell 4)) ?_
  refine plan_calms (by simp [calmRow, need, chk]; rfl) ?_
  go_wp2_with fail
  have c1 : w3.cell? ⟨w.heap.size, 1, none⟩ = some (.string S) := Q1.out.cell 1
  have f1 := Q1.out.frozen 1
  refine plan_last (by rfl) (by kernel_rfl) ?_
  go_wp2_with fail
  have q1 : Blk (w3.setCell ⟨w.heap.size, 1, none⟩ (.string S2)) w.heap.size 28 #[.int .i64 k, .string S2, .int .u64 (q : Int), .int .u32 (i : Int), .slice A n c] := Q1.out.set_ 1 (.string S2)
  have q2 := Q2.out.far (p := ⟨w.heap.size, 1, none⟩) (by simp) (.string S2)
  have hb := HB.out.setCell (p := ⟨w.heap.size, 1, none⟩) (Nat.le_refl _) (.string S2)
  clear c1 f1
  generalize w3.setCell ⟨w.heap.size, 1, none⟩ (.string S2) = w4 at *
  refine plan_calms (by simp [calmRow, need]; rfl) ?_
  go_wp2_with fail
  have c4 : w4.cell? ⟨w.heap.size, 4, none⟩ = some (.slice A n c) := q1.cell 4
  have f4 := q1.frozen 4
  refine plan_last (by rfl) (by kernel_rfl) ?_
  have Q1b := Lib.hid q1
  clear q1
  go_wp2_with fail
  have q1 : Blk (w4.setCell ⟨w.heap.size, 4, none⟩ (.slice A r c)) w.heap.size 28 #[.int .i64 k, .string S2, .int .u64 (q : Int), .int .u32 (i : Int), .slice A r c] := Q1b.out.set_ 4 (.slice A r c)
  have q2 := q2.far (p := ⟨w.heap.size, 4, none⟩) (by simp) (.slice A r c)
  have hb := hb.setCell (p := ⟨w.heap.size, 4, none⟩) (Nat.le_refl _) (.slice A r c)
  clear c4 f4
  generalize w4.setCell ⟨w.heap.size, 4, none⟩ (.slice A r c) = w5 at *
  have qr := q2.row #[.int .i64 k, .string S2, .int .u64 (q : Int), .int .u32 (i : Int), .slice A r c]
  have hb := row_below hb (show w.heap.size ≤ w.heap.size + 1 by omega) #[.int .i64 k, .string S2, .int .u64 (q : Int), .int .u32 (i : Int), .slice A r c]
  have Q1 := Lib.hid q1
  have Q2 := Lib.hid q2
  have QR := Lib.hid qr
  clear q1 q2 qr
  refine plan_end ?_
  go_wp2_with (first
    | (refine wpList_value rfl (exec_load_blk rfl rfl Q1.out Try.underlying28 rfl (by kernel_rfl)) ?_)
    | (refine wpList_storeB rfl 28 (.tmp 2) (.tmp 19) rfl rfl rfl Q2.out (by kernel_rfl) (by rfl) (by simp [Value.oneCell']) ?_)
    | fail)
  exact bodyPost_ret (results_cell1 rfl rfl (res_load QR.out Try.underlying28 rfl (by kernel_rfl))) rfl (HRET.out _ hb)
end Go.Proofs.Ytedjolkkidciiaa
