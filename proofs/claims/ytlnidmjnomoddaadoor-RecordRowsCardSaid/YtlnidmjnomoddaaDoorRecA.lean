/- Chapter 08's statements: plain, the changes. No condition but the tables. -/
import Derived.Test.YtlnidmjnomoddaaDoorRecLaw
import Derived.Test.YtlnidmjnomoddaaDoorConv
import Derived.Lib.SlBytesConst
namespace Go.Proofs.YtlnidmjnomoddaaDoor
open Go.RowKit

theorem cell_newF (w : World) (cs : Array Value) (t : TypeId) (fr : Nat × Nat) (i : Nat) : (w.alloc (.cells cs t fr)).cell? ⟨w.heap.size, i, none⟩ = cs[i]? := by
  unfold World.cell? World.alloc
  simp
theorem rd_newF (w : World) (cs : Array Value) (t : TypeId) (fr : Nat × Nat) (l : List UInt8) (h : cs.toList = bcells l) (hm : l.length ≤ maxLen) : Rd (w.alloc (.cells cs t fr)) (w.alloc (.cells cs t fr)).heap.size 1 (some ⟨w.heap.size, 0, none⟩) l.length (bcells l) :=
  ⟨by rw [bcells_len]; omega, hm, fun _ => ⟨w.heap.size, 0, rfl, by simp, fun j u hu => by rw [Nat.zero_add, cell_newF, ← Array.getElem?_toList, h]; exact hu⟩⟩
def RetPlain (w : World) (e : Ending) (w' : World) : Prop := ∃ gK gV, e = .returned (recV 1 1 (.slice (some ⟨gK, 0, none⟩) 1 1) (.slice (some ⟨gV, 0, none⟩) 1 1) 0 0) ∧ Rd w' w'.heap.size 1 (some ⟨gK, 0, none⟩) 1 (bcells [107]) ∧ Rd w' w'.heap.size 1 (some ⟨gV, 0, none⟩) 1 (bcells [118]) ∧ Below w.heap.size w w'
/-- a slice in another block than the one that is written -/
theorem rd_set {w : World} {B n b off : Nat} {l : List UInt8} (h : Rd w B 1 (some ⟨b, off, none⟩) n (bcells l)) {p : Addr} (u : Value) (hp : b ≠ p.block) : Rd (w.setCell p u) B 1 (some ⟨b, off, none⟩) n (bcells l) :=
  ⟨h.1, h.2.1, fun hn => by
    obtain ⟨b', off', e, hb, hc⟩ := h.2.2 hn
    injection e with e
    injection e with e1 e2
    subst e1; subst e2
    exact ⟨b, off, rfl, hb, fun j u' hu => by rw [World.cell?_setCell_other w p ⟨b, off + j, none⟩ u (fun e => hp (by rw [e]))]; exact hc j u' hu⟩⟩

set_option maxRecDepth 10000 in
theorem plain_any (w : World) : Calls Tryd.prog 22 #[] w (RetPlain w) := by
  have kc1 : (convert 22 22 (.slice (some ⟨w.heap.size + 1, 0, none⟩) 1 1)).run Tryd.prog ((w.alloc (.cells #[.int .u64 0, .int .i64 0, .slice none 0 0, .slice none 0 0, .int .u32 0, .int .u32 0] 28)).alloc (.cells #[.int .u8 107] 5)) = .ok (.slice (some ⟨w.heap.size + 1, 0, none⟩) 1 1) ((w.alloc (.cells #[.int .u64 0, .int .i64 0, .slice none 0 0, .slice none 0 0, .int .u32 0, .int .u32 0] 28)).alloc (.cells #[.int .u8 107] 5 (1, 2))) := by
    have := Lib.run_convert_bytes_const (P := Tryd.prog) (w.alloc (.cells #[.int .u64 0, .int .i64 0, .slice none 0 0, .slice none 0 0, .int .u32 0, .int .u32 0] 28)) 22 5 #[.int .u8 107] 1 1 Tryd.underlying22 Tryd.underlying5
    simpa using this
  have kc2 : (convert 22 22 (.slice (some ⟨w.heap.size + 2, 0, none⟩) 1 1)).run Tryd.prog (((w.alloc (.cells #[.int .u64 0, .int .i64 0, .slice none 0 0, .slice none 0 0, .int .u32 0, .int .u32 0] 28)).alloc (.cells #[.int .u8 107] 5 (1, 2))).alloc (.cells #[.int .u8 118] 5)) = .ok (.slice (some ⟨w.heap.size + 2, 0, none⟩) 1 1) (((w.alloc (.cells #[.int .u64 0, .int .i64 0, .slice none 0 0, .slice none 0 0, .int .u32 0, .int .u32 0] 28)).alloc (.cells #[.int .u8 107] 5 (1, 2))).alloc (.cells #[.int .u8 118] 5 (1, 2))) := by
    have := Lib.run_convert_bytes_const (P := Tryd.prog) ((w.alloc (.cells #[.int .u64 0, .int .i64 0, .slice none 0 0, .slice none 0 0, .int .u32 0, .int .u32 0] 28)).alloc (.cells #[.int .u8 107] 5 (1, 2))) 22 5 #[.int .u8 118] 1 1 Tryd.underlying22 Tryd.underlying5
    simpa using this
  have rK := (rd_newF (w.alloc (.cells #[.int .u64 1, .int .i64 1, .slice (some ⟨w.heap.size + 1, 0, none⟩) 1 1, .slice (some ⟨w.heap.size + 2, 0, none⟩) 1 1, .int .u32 0, .int .u32 0] 28)) #[.int .u8 107] 5 (1, 2) [107] rfl (by decide)).allocs (.cells #[.int .u8 118] 5 (1, 2))
  have rV := rd_newF ((w.alloc (.cells #[.int .u64 1, .int .i64 1, .slice (some ⟨w.heap.size + 1, 0, none⟩) 1 1, .slice (some ⟨w.heap.size + 2, 0, none⟩) 1 1, .int .u32 0, .int .u32 0] 28)).alloc (.cells #[.int .u8 107] 5 (1, 2))) #[.int .u8 118] 5 (1, 2) [118] rfl (by decide)
  have q6 := ((Blk.new w 28 #[.int .u64 1, .int .i64 1, .slice (some ⟨w.heap.size + 1, 0, none⟩) 1 1, .slice (some ⟨w.heap.size + 2, 0, none⟩) 1 1, .int .u32 0, .int .u32 0]).alloc (.cells #[.int .u8 107] 5 (1, 2))).alloc (.cells #[.int .u8 118] 5 (1, 2))
  have hb := belowAlloc (belowAlloc ((Below.refl w.heap.size w).alloc (Nat.le_refl _) (.cells #[.int .u64 1, .int .i64 1, .slice (some ⟨w.heap.size + 1, 0, none⟩) 1 1, .slice (some ⟨w.heap.size + 2, 0, none⟩) 1 1, .int .u32 0, .int .u32 0] 28)) (.cells #[.int .u8 107] 5 (1, 2))) (.cells #[.int .u8 118] 5 (1, 2))
  rw [show ((w.alloc (.cells #[.int .u64 1, .int .i64 1, .slice (some ⟨w.heap.size + 1, 0, none⟩) 1 1, .slice (some ⟨w.heap.size + 2, 0, none⟩) 1 1, .int .u32 0, .int .u32 0] 28))).heap.size = w.heap.size + 1 by simp] at rK
  rw [show (((w.alloc (.cells #[.int .u64 1, .int .i64 1, .slice (some ⟨w.heap.size + 1, 0, none⟩) 1 1, .slice (some ⟨w.heap.size + 2, 0, none⟩) 1 1, .int .u32 0, .int .u32 0] 28)).alloc (.cells #[.int .u8 107] 5 (1, 2)))).heap.size = w.heap.size + 2 by simp] at rV
  go_enter Tryd.func22, Tryd.ntmps22
  go_wp2_with fail
  exact bodyPost_ret (results_cell1 rfl rfl (res_load (cs := #[.int .u64 1, .int .i64 1, .slice (some ⟨w.heap.size + 1, 0, none⟩) 1 1, .slice (some ⟨w.heap.size + 2, 0, none⟩) 1 1, .int .u32 0, .int .u32 0]) q6 Tryd.underlying28 rfl (by kernel_rfl))) rfl ⟨w.heap.size + 1, w.heap.size + 2, rfl, rK, rV, hb⟩

/-- what a change does to the record -/
def RetCh (g : Nat) (w : World) (e : Ending) (w' : World) : Prop := e = .returned (.tuple #[]) ∧ (∃ (q : Nat) (k : Int) (A : Option Addr) (n c : Nat) (B : Option Addr) (m d : Nat) (s o : Nat), Blk w' g 28 #[.int .u64 (q : Int), .int .i64 k, .slice A n c, .slice B m d, .int .u32 (s : Int), .int .u32 (o : Int)] ∧ n ≤ 1000 ∧ mayR q k n m s o = false) ∧ Below g w w'

set_option maxRecDepth 10000 in
theorem ch2_any (g gK gV : Nat) (w : World) (q : Blk w g 28 #[.int .u64 1, .int .i64 1, .slice (some ⟨gK, 0, none⟩) 1 1, .slice (some ⟨gV, 0, none⟩) 1 1, .int .u32 0, .int .u32 0]) : Calls Tryd.prog 23 #[.pointer (some ⟨g, 0, none⟩)] w (RetCh g w) := by
  have c0 := q.cell 0
  have f0 := q.frozen 0
  have hb := Below.refl g w
  have q6 := q.set_ 0 (.int .u64 0)
  have hb6 := hb.setCell (p := ⟨g, 0, none⟩) (Nat.le_refl _) (.int .u64 0)
  clear q
  go_enter Tryd.func23, Tryd.ntmps23
  go_wp2_with fail
  exact bodyPost_end (v := .tuple #[]) (by simp [results, Tryd.results23]) rfl ⟨rfl, ⟨0, 1, (some ⟨gK, 0, none⟩), 1, 1, (some ⟨gV, 0, none⟩), 1, 1, 0, 0, q6, by omega, by decide⟩, hb6⟩
set_option maxRecDepth 10000 in
theorem ch3_any (g gK gV : Nat) (w : World) (q : Blk w g 28 #[.int .u64 1, .int .i64 1, .slice (some ⟨gK, 0, none⟩) 1 1, .slice (some ⟨gV, 0, none⟩) 1 1, .int .u32 0, .int .u32 0]) : Calls Tryd.prog 24 #[.pointer (some ⟨g, 0, none⟩)] w (RetCh g w) := by
  have c0 := q.cell 0
  have f0 := q.frozen 0
  have hb := Below.refl g w
  have q6 := q.set_ 0 (.int .u64 1099511627777)
  have hb6 := hb.setCell (p := ⟨g, 0, none⟩) (Nat.le_refl _) (.int .u64 1099511627777)
  clear q
  go_enter Tryd.func24, Tryd.ntmps24
  go_wp2_with fail
  exact bodyPost_end (v := .tuple #[]) (by simp [results, Tryd.results24]) rfl ⟨rfl, ⟨1099511627777, 1, (some ⟨gK, 0, none⟩), 1, 1, (some ⟨gV, 0, none⟩), 1, 1, 0, 0, q6, by omega, by decide⟩, hb6⟩
set_option maxRecDepth 10000 in
theorem ch4_any (g gK gV : Nat) (w : World) (q : Blk w g 28 #[.int .u64 1, .int .i64 1, .slice (some ⟨gK, 0, none⟩) 1 1, .slice (some ⟨gV, 0, none⟩) 1 1, .int .u32 0, .int .u32 0]) : Calls Tryd.prog 25 #[.pointer (some ⟨g, 0, none⟩)] w (RetCh g w) := by
  have c0 := q.cell 1
  have f0 := q.frozen 1
  have hb := Below.refl g w
  have q6 := q.set_ 1 (.int .i64 0)
  have hb6 := hb.setCell (p := ⟨g, 1, none⟩) (Nat.le_refl _) (.int .i64 0)
  clear q
  go_enter Tryd.func25, Tryd.ntmps25
  go_wp2_with fail
  exact bodyPost_end (v := .tuple #[]) (by simp [results, Tryd.results25]) rfl ⟨rfl, ⟨1, 0, (some ⟨gK, 0, none⟩), 1, 1, (some ⟨gV, 0, none⟩), 1, 1, 0, 0, q6, by omega, by decide⟩, hb6⟩
set_option maxRecDepth 10000 in
theorem ch5_any (g gK gV : Nat) (w : World) (q : Blk w g 28 #[.int .u64 1, .int .i64 1, .slice (some ⟨gK, 0, none⟩) 1 1, .slice (some ⟨gV, 0, none⟩) 1 1, .int .u32 0, .int .u32 0]) : Calls Tryd.prog 26 #[.pointer (some ⟨g, 0, none⟩)] w (RetCh g w) := by
  have c0 := q.cell 1
  have f0 := q.frozen 1
  have hb := Below.refl g w
  have q6 := q.set_ 1 (.int .i64 3)
  have hb6 := hb.setCell (p := ⟨g, 1, none⟩) (Nat.le_refl _) (.int .i64 3)
  clear q
  go_enter Tryd.func26, Tryd.ntmps26
  go_wp2_with fail
  exact bodyPost_end (v := .tuple #[]) (by simp [results, Tryd.results26]) rfl ⟨rfl, ⟨1, 3, (some ⟨gK, 0, none⟩), 1, 1, (some ⟨gV, 0, none⟩), 1, 1, 0, 0, q6, by omega, by decide⟩, hb6⟩
set_option maxRecDepth 10000 in
theorem ch6_any (g gK gV : Nat) (w : World) (q : Blk w g 28 #[.int .u64 1, .int .i64 1, .slice (some ⟨gK, 0, none⟩) 1 1, .slice (some ⟨gV, 0, none⟩) 1 1, .int .u32 0, .int .u32 0]) : Calls Tryd.prog 27 #[.pointer (some ⟨g, 0, none⟩)] w (RetCh g w) := by
  have c0 := q.cell 1
  have f0 := q.frozen 1
  have hb := Below.refl g w
  have q6 := q.set_ 1 (.int .i64 2)
  have hb6 := hb.setCell (p := ⟨g, 1, none⟩) (Nat.le_refl _) (.int .i64 2)
  clear q
  go_enter Tryd.func27, Tryd.ntmps27
  go_wp2_with fail
  exact bodyPost_end (v := .tuple #[]) (by simp [results, Tryd.results27]) rfl ⟨rfl, ⟨1, 2, (some ⟨gK, 0, none⟩), 1, 1, (some ⟨gV, 0, none⟩), 1, 1, 0, 0, q6, by omega, by decide⟩, hb6⟩
set_option maxRecDepth 10000 in
theorem ch7_any (g gK gV : Nat) (w : World) (q : Blk w g 28 #[.int .u64 1, .int .i64 1, .slice (some ⟨gK, 0, none⟩) 1 1, .slice (some ⟨gV, 0, none⟩) 1 1, .int .u32 0, .int .u32 0]) : Calls Tryd.prog 28 #[.pointer (some ⟨g, 0, none⟩)] w (RetCh g w) := by
  have c0 := q.cell 2
  have f0 := q.frozen 2
  have hb := Below.refl g w
  have q6 := q.set_ 2 (.slice none 0 0)
  have hb6 := hb.setCell (p := ⟨g, 2, none⟩) (Nat.le_refl _) (.slice none 0 0)
  clear q
  go_enter Tryd.func28, Tryd.ntmps28
  go_wp2_with fail
  exact bodyPost_end (v := .tuple #[]) (by simp [results, Tryd.results28]) rfl ⟨rfl, ⟨1, 1, none, 0, 0, (some ⟨gV, 0, none⟩), 1, 1, 0, 0, q6, by omega, by decide⟩, hb6⟩
set_option maxRecDepth 10000 in
theorem ch8_any (g gK gV : Nat) (w : World) (q : Blk w g 28 #[.int .u64 1, .int .i64 1, .slice (some ⟨gK, 0, none⟩) 1 1, .slice (some ⟨gV, 0, none⟩) 1 1, .int .u32 0, .int .u32 0]) : Calls Tryd.prog 29 #[.pointer (some ⟨g, 0, none⟩)] w (RetCh g w) := by
  have c0 := q.cell 2
  have f0 := q.frozen 2
  have hlt := q.lt
  have hmk : ∀ W : World, (Instr.makeSlice 22 (.int .i64 65) (.int .i64 65)).run Tryd.prog W = .ok (.slice (some ⟨W.heap.size, 0, none⟩) 65 65) (W.alloc (.cells (madeCells #[.int .u8 0] 65) 5)) := fun W =>
    run_make_rowN (P := Tryd.prog) 22 5 ((Tryd.prog.info? 5).get!) (.int .u8 0) Tryd.underlying22 (by kernel_rfl) (by kernel_rfl) .i64 .i64 65 65 (Nat.le_refl _) (by show 1 * 65 ≤ _; omega) (by omega) W
  have hb := Below.refl g w
  have q6 := q.set_ 2 (.slice (some ⟨w.heap.size, 0, none⟩) 65 65)
  have hb6 := hb.setCell (p := ⟨g, 2, none⟩) (Nat.le_refl _) (.slice (some ⟨w.heap.size, 0, none⟩) 65 65)
  have q6 := q6.alloc (.cells (madeCells #[.int .u8 0] 65) 5)
  have hb6 := hb6.alloc (by simp; omega) (.cells (madeCells #[.int .u8 0] 65) 5)
  clear q
  go_enter Tryd.func29, Tryd.ntmps29
  go_wp2_with fail
  exact bodyPost_end (v := .tuple #[]) (by simp [results, Tryd.results29]) rfl ⟨rfl, ⟨1, 1, (some ⟨w.heap.size, 0, none⟩), 65, 65, (some ⟨gV, 0, none⟩), 1, 1, 0, 0, q6, by omega, by decide⟩, hb6⟩
set_option maxRecDepth 10000 in
theorem ch9_any (g gK gV : Nat) (w : World) (q : Blk w g 28 #[.int .u64 1, .int .i64 1, .slice (some ⟨gK, 0, none⟩) 1 1, .slice (some ⟨gV, 0, none⟩) 1 1, .int .u32 0, .int .u32 0]) : Calls Tryd.prog 30 #[.pointer (some ⟨g, 0, none⟩)] w (RetCh g w) := by
  have c0 := q.cell 3
  have f0 := q.frozen 3
  have hlt := q.lt
  have hmk : ∀ W : World, (Instr.makeSlice 22 (.int .i64 1025) (.int .i64 1025)).run Tryd.prog W = .ok (.slice (some ⟨W.heap.size, 0, none⟩) 1025 1025) (W.alloc (.cells (madeCells #[.int .u8 0] 1025) 5)) := fun W =>
    run_make_rowN (P := Tryd.prog) 22 5 ((Tryd.prog.info? 5).get!) (.int .u8 0) Tryd.underlying22 (by kernel_rfl) (by kernel_rfl) .i64 .i64 1025 1025 (Nat.le_refl _) (by show 1 * 1025 ≤ _; omega) (by omega) W
  have hb := Below.refl g w
  have q6 := q.set_ 3 (.slice (some ⟨w.heap.size, 0, none⟩) 1025 1025)
  have hb6 := hb.setCell (p := ⟨g, 3, none⟩) (Nat.le_refl _) (.slice (some ⟨w.heap.size, 0, none⟩) 1025 1025)
  have q6 := q6.alloc (.cells (madeCells #[.int .u8 0] 1025) 5)
  have hb6 := hb6.alloc (by simp; omega) (.cells (madeCells #[.int .u8 0] 1025) 5)
  clear q
  go_enter Tryd.func30, Tryd.ntmps30
  go_wp2_with fail
  exact bodyPost_end (v := .tuple #[]) (by simp [results, Tryd.results30]) rfl ⟨rfl, ⟨1, 1, (some ⟨gK, 0, none⟩), 1, 1, (some ⟨w.heap.size, 0, none⟩), 1025, 1025, 0, 0, q6, by omega, by decide⟩, hb6⟩
set_option maxRecDepth 10000 in
theorem ch10_any (g gK gV : Nat) (w : World) (q : Blk w g 28 #[.int .u64 1, .int .i64 1, .slice (some ⟨gK, 0, none⟩) 1 1, .slice (some ⟨gV, 0, none⟩) 1 1, .int .u32 0, .int .u32 0]) : Calls Tryd.prog 31 #[.pointer (some ⟨g, 0, none⟩)] w (RetCh g w) := by
  have c0 := q.cell 4
  have f0 := q.frozen 4
  have hb := Below.refl g w
  have q6 := q.set_ 4 (.int .u32 1)
  have hb6 := hb.setCell (p := ⟨g, 4, none⟩) (Nat.le_refl _) (.int .u32 1)
  clear q
  go_enter Tryd.func31, Tryd.ntmps31
  go_wp2_with fail
  exact bodyPost_end (v := .tuple #[]) (by simp [results, Tryd.results31]) rfl ⟨rfl, ⟨1, 1, (some ⟨gK, 0, none⟩), 1, 1, (some ⟨gV, 0, none⟩), 1, 1, 1, 0, q6, by omega, by decide⟩, hb6⟩
set_option maxRecDepth 10000 in
theorem ch11_any (g gK gV : Nat) (w : World) (q : Blk w g 28 #[.int .u64 1, .int .i64 1, .slice (some ⟨gK, 0, none⟩) 1 1, .slice (some ⟨gV, 0, none⟩) 1 1, .int .u32 0, .int .u32 0]) : Calls Tryd.prog 32 #[.pointer (some ⟨g, 0, none⟩)] w (RetCh g w) := by
  have c0 := q.cell 5
  have f0 := q.frozen 5
  have hb := Below.refl g w
  have q6 := q.set_ 5 (.int .u32 16)
  have hb6 := hb.setCell (p := ⟨g, 5, none⟩) (Nat.le_refl _) (.int .u32 16)
  clear q
  go_enter Tryd.func32, Tryd.ntmps32
  go_wp2_with fail
  exact bodyPost_end (v := .tuple #[]) (by simp [results, Tryd.results32]) rfl ⟨rfl, ⟨1, 1, (some ⟨gK, 0, none⟩), 1, 1, (some ⟨gV, 0, none⟩), 1, 1, 0, 16, q6, by omega, by decide⟩, hb6⟩
end Go.Proofs.YtlnidmjnomoddaaDoor
