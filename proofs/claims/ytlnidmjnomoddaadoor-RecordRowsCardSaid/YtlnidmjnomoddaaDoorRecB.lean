/- Chapter 08's statements: what may not be, knows. No condition but the tables. -/
import Derived.Test.YtlnidmjnomoddaaDoorRecA
namespace Go.Proofs.YtlnidmjnomoddaaDoor
open Go.RowKit

theorem run_enter {P : Program} {f : FuncId} {fn : Func} (hf : P.funcs[f]? = some fn) (hname : (fn.name == "runtime.NumGoroutine") = false) (hb : fn.body.isNone = false) (args : Array Value) (w : World) : (callFunc f args).run P w = .ok (.enter f args) w := by
  have h1 : fn.name ≠ "runtime.NumGoroutine" := by simpa using hname
  obtain ⟨c, hc⟩ : ∃ c, fn.body = some c := by
    cases h : fn.body with
    | none => rw [h] at hb; cases hb
    | some c => exact ⟨c, rfl⟩
  simp [callFunc, hf, h1, hc]
set_option maxRecDepth 10000 in
set_option maxHeartbeats 1000000 in
theorem bad_any (fid : Nat) (hcf : ∀ args W, (callFunc fid args).run Tryd.prog W = .ok (.enter fid args) W) (hch : ∀ g gK gV W, Blk W g 28 #[.int .u64 1, .int .i64 1, .slice (some ⟨gK, 0, none⟩) 1 1, .slice (some ⟨gV, 0, none⟩) 1 1, .int .u32 0, .int .u32 0] → Calls Tryd.prog fid #[.pointer (some ⟨g, 0, none⟩)] W (RetCh g W)) (w : World) :
    Calls Tryd.prog 21 #[.func (.func fid) #[] #[]] w fun e w' => e = .returned (.bool true) ∧ Below w.heap.size w w' := by
  have HP := Lib.hid (plain_any w)
  have HC := fun g gK gV W q => Lib.hid (hch g gK gV W q)
  have HF := fun args W => Lib.hid (hcf args W)
  clear hch hcf
  go_enter Tryd.func21, Tryd.ntmps21
  go_wp2_with fail
  refine HP.out.mono ?_
  rintro e w1 ⟨gK, gV, rfl, rK, rV, b1⟩
  unfold recV
  clear HP rK rV
  go_wp2_with fail
  have q3 := Blk.new w1 28 #[.int .u64 1, .int .i64 1, .slice (some ⟨gK, 0, none⟩) 1 1, .slice (some ⟨gV, 0, none⟩) 1 1, .int .u32 0, .int .u32 0]
  have hb := belowAlloc b1 (.cells #[.int .u64 1, .int .i64 1, .slice (some ⟨gK, 0, none⟩) 1 1, .slice (some ⟨gV, 0, none⟩) 1 1, .int .u32 0, .int .u32 0] 28)
  obtain ⟨g, hg⟩ : ∃ g, g = w1.heap.size := ⟨_, rfl⟩
  have hgw : w.heap.size ≤ g := by have := b1.size; omega
  rw [← hg] at q3 ⊢
  clear hg b1
  generalize w1.alloc (.cells #[.int .u64 1, .int .i64 1, .slice (some ⟨gK, 0, none⟩) 1 1, .slice (some ⟨gV, 0, none⟩) 1 1, .int .u32 0, .int .u32 0] 28) = w2 at *
  rw [(HF _ _).out, Oper.upon_enter]
  refine (HC _ _ _ _ q3).out.mono ?_
  rintro e w3 ⟨rfl, ⟨q, k, A, n, c, B, m, d, s, o, q4, hn, hm⟩, b3⟩
  have hb := hb.trans (b3.mono hgw)
  clear q3 b3 HC HF
  have HQ := fun W => Lib.hid (putR_no q k A n c B m d s o W (by omega) hm)
  have HM := fun W => Lib.hid (mayR_any q k A n c B m d s o W (by omega))
  rw [hm] at HM
  unfold recV at HQ HM
  have c0 := q4.cell 0
  have c1 := q4.cell 1
  have c2 := q4.cell 2
  have c3 := q4.cell 3
  have c4 := q4.cell 4
  have c5 := q4.cell 5
  clear hm
  go_wp2_with fail
  refine (HQ _).out.mono ?_
  rintro e w4 ⟨v4, rfl, o4, b4⟩
  obtain ⟨A4, c4', rfl, _⟩ := own_cap o4
  have q5 := q4.after b4
  have hb := belowGo hb b4
  clear HQ o4 b4 c0 c1 c2 c3 c4 c5 q4
  have c0 := q5.cell 0
  have c1 := q5.cell 1
  have c2 := q5.cell 2
  have c3 := q5.cell 3
  have c4 := q5.cell 4
  have c5 := q5.cell 5
  go_wp2_with fail
  refine (HM _).out.mono ?_
  rintro e w5 ⟨rfl, b5⟩
  go_wp2_with fail
  go_ret
  exact ⟨rfl, belowGo hb b5⟩

/-- Get, where nothing is told -/
def RetNone (s c : Nat) (w : World) (e : Ending) (w' : World) : Prop := e = .returned (.tuple #[recV 0 0 (.slice none 0 0) (.slice none 0 0) 0 0, .int .i64 (s : Int), .int .i64 (c : Int)]) ∧ Below w.heap.size w w'
theorem getR_none (l : List UInt8) (A : Option Addr) (n c : Nat) (w : World) (hT : TabR w) (hnc : n ≤ c) (h : Rd w w.heap.size 1 A n (bcells l)) (s cd : Nat) (hS : getS l = (s, cd)) (hc : cd ≠ 0) :
    Calls Tryd.prog 9 #[.slice A n c] w (RetNone s cd w) := by
  refine (getR_any l A n c w hT hnc h).mono ?_
  rintro e w' ⟨h1 | h1, hb⟩
  · rw [hS] at h1
    exact ⟨h1.2, hb⟩
  · rw [hS] at h1
    exact absurd h1.1 hc
/-- Get of what begins with a run -/
def RetRec (q k : Nat) (a b : List UInt8) (s o z : Nat) (w : World) (e : Ending) (w' : World) : Prop := ∃ gK gV, e = .returned (.tuple #[recV q (k : Int) (.slice (some ⟨gK, 0, none⟩) a.length a.length) (.slice (some ⟨gV, 0, none⟩) b.length b.length) s o, .int .i64 (z : Int), .int .i64 0]) ∧
  Rd w' w'.heap.size 1 (some ⟨gK, 0, none⟩) a.length (bcells a) ∧ Rd w' w'.heap.size 1 (some ⟨gV, 0, none⟩) b.length (bcells b) ∧ Below w.heap.size w w'
theorem getR_run (l : List UInt8) (A : Option Addr) (n c : Nat) (w : World) (hT : TabR w) (hnc : n ≤ c) (h : Rd w w.heap.size 1 A n (bcells l)) (q k : Nat) (a b : List UInt8) (s o z : Nat) (r : List UInt8) (hm : mayR q (k : Int) a.length b.length s o = true) (hl : l = runR q k a b s o ++ r) (hz : z = 25 + a.length + b.length) :
    Calls Tryd.prog 9 #[.slice A n c] w (RetRec q k a b s o z w) := by
  refine (getR_any l A n c w hT hnc h).mono ?_
  have hS := getS_run hm r
  obtain ⟨t1, t2, t3, t4, t5, t6, t7, t8⟩ := told_run hm r
  have hbd := mayR_bounds hm
  rw [← hl] at hS t1 t2 t3 t4 t5 t6 t7 t8
  subst hz
  rintro e w' ⟨h1 | h1, hb⟩
  · rw [hS] at h1
    exact absurd rfl h1.1
  · obtain ⟨_, gK, gV, he, q1, q2, _⟩ := h1
    rw [t1] at q1
    rw [t2] at q2
    rw [t3, t4, t5, t6, t7, t8, hS] at he
    exact ⟨gK, gV, he, (q1.rd (n := a.length) (size := 1) (by simp [bcells_len]) (by unfold maxLen; omega)), (q2.rd (n := b.length) (size := 1) (by simp [bcells_len]) (by unfold maxLen; omega)), hb⟩

theorem run_plain : (runR 1 1 [107] [118] 0 0).take 17 = [1, 1, 1, 0, 1, 0, 0, 0, 0, 0, 0, 0, 0, 0, 0, 0, 0] ∧ ((runR 1 1 [107] [118] 0 0).drop 21).take 2 = [107, 118] := by
  obtain ⟨z, hz⟩ := run_parts 1 1 [107] [118] 0 0
  have hl := headC_len 1 1 [107].length [118].length 0 0
  have hr := headR_len 1 1 [107].length [118].length 0 0
  rw [hz]
  constructor
  · rw [List.take_append_of_le_length (by omega)]
    unfold headC coverC
    rw [List.take_append_of_le_length (by omega), List.take_of_length_le (by omega)]
    decide
  · have : ∀ H : List UInt8, H.length = 21 → ((H ++ ([107] ++ ([118] ++ z))).drop 21).take 2 = [107, 118] := fun H h => by rw [List.drop_left' h]; rfl
    exact this _ hl
end Go.Proofs.YtlnidmjnomoddaaDoor
