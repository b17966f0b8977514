/- The laws' records of chapter 18: at, put. For every number and string. -/
import Derived.Test.YtnkkieiofpplgaaLk2b
import Derived.Test.YtnkkieiofpplgaaGB
import Derived.Lib.ConvBytes
import Derived.Lib.SlBytesConst
namespace Go.Proofs.Ytnkkieiofpplgaa
open Go.RowKit
attribute [local go_sem] Oper.semAt_some

/-- a block of bytes that begins with these -/
def KB (w : World) (g : Nat) (l : List UInt8) : Prop := ∃ cs fr, w.heap[g]? = some (.cells cs 5 fr) ∧ cs.toList.take l.length = bcells l
theorem KB.of_block {w w' : World} {g : Nat} {l : List UInt8} (h : KB w g l) (hb : w'.heap[g]? = w.heap[g]?) : KB w' g l := by
  obtain ⟨cs, fr, h1, h2⟩ := h
  exact ⟨cs, fr, hb.trans h1, h2⟩
theorem KB.lt {w : World} {g : Nat} {l : List UInt8} (h : KB w g l) : g < w.heap.size := by
  obtain ⟨cs, fr, h1, h2⟩ := h
  exact (Array.getElem?_eq_some_iff.1 h1).1
theorem KB.kp {s : List (Option Nat)} {w w' : World} {g : Nat} {l : List UInt8} (h : KB w g l) (k : Kp s w w') (hn : some g ∉ s) : KB w' g l := h.of_block (k.block g h.lt hn)
theorem KB.after {w w' : World} {g : Nat} {l : List UInt8} (h : KB w g l) (hb : Below w.heap.size w w') : KB w' g l := h.of_block (hb.block g h.lt)
theorem KB.rd {w : World} {g : Nat} {l : List UInt8} (h : KB w g l) (hl : l.length ≤ 1000000) : Rd w w.heap.size 1 (some ⟨g, 0, none⟩) l.length (bcells l) := by
  have hlt := h.lt
  obtain ⟨cs, fr, h1, h2⟩ := h
  refine ⟨by rw [bcells_len]; omega, by unfold maxLen; omega, fun _ => ⟨g, 0, rfl, hlt, fun j u hu => ?_⟩⟩
  have hj : j < l.length := by
    have := (List.getElem?_eq_some_iff.1 hu).1
    rwa [bcells_len] at this
  have hc : cs[j]? = some u := by
    rw [← h2, List.getElem?_take, if_pos hj, Array.getElem?_toList] at hu
    exact hu
  unfold World.cell?
  rw [h1, Nat.zero_add]
  exact hc
theorem KB.ne_own {w : World} {g B size n : Nat} {l : List UInt8} {e : TypeId} {v : Value} {xs : List Value} (h : KB w g l) (ho : Ow w B e size v n xs) (hne : 5 ≠ e) : some g ≠ v.ownBlock := by
  obtain ⟨cs, fr, h1, h2⟩ := h
  rcases ho.2 with ⟨rfl, _⟩ | ⟨k, cap, cur, rfl, _, hh, _⟩
  · intro h; cases h
  · intro he
    injection he with he
    dsimp only at he
    subst he
    rw [h1] at hh
    injection hh with hh
    injection hh with _ h
    exact hne h
theorem KB.ne_map {P : Program} {k : TypeId} {w : World} {g b : Nat} {l : List UInt8} {L : List (Value × Value)} (h : KB w g l) (hm : Mp P k w b L) : g ≠ b := by
  obtain ⟨cs, fr, h1, h2⟩ := h
  obtain ⟨es, c, hb, _⟩ := hm
  intro e
  subst e
  rw [h1] at hb
  cases hb
theorem run_sbytes (l : List UInt8) (hm : l.length ≤ 100000) (w : World) : ∃ c w', (convert 9 36 (.string ⟨l.toArray⟩)).run Try.prog w = .ok (.slice (some ⟨w.heap.size, 0, none⟩) l.length c) w' ∧ l.length ≤ c ∧ Rd w' w'.heap.size 1 (some ⟨w.heap.size, 0, none⟩) l.length (bcells l) ∧ KB w' w.heap.size l ∧ Below w.heap.size w w' := by
  refine ⟨_, _, Lib.run_convert_string_bytes (P := Try.prog) w 9 36 5 ⟨l.toArray⟩ Try.underlying9 Try.underlying36 Try.underlying5, ?_, ?_, ?_, ?_⟩
  · exact grownCap_ge w l.length 0 5
  · refine ⟨by rw [bcells_len]; omega, by unfold maxLen; omega, fun h0 => ⟨w.heap.size, 0, rfl, ?_, fun j u hu => ?_⟩⟩
    · rw [Lib.bytesWorld_size]; omega
    · have hj : j < l.length := by
        have := (List.getElem?_eq_some_iff.1 hu).1
        rwa [bcells_len] at this
      rw [Nat.zero_add, Lib.bytesWorld_cell w 5 ⟨l.toArray⟩ j hj, ← hu]
      unfold bcells
      simp [hj]
  · refine ⟨_, _, Lib.bytesWorld_at_new w 5 ⟨l.toArray⟩, ?_⟩
    unfold Lib.bytesCells
    rw [Array.toList_append, List.take_append_of_le_length (by simp)]
    unfold bcells
    simp
    exact List.take_of_length_le (by simp)
  · exact ⟨rfl, rfl, rfl, by rw [Lib.bytesWorld_size]; omega, fun j hj => Lib.bytesWorld_at_old w 5 _ j hj⟩
theorem cell_newC (w : World) (cs : Array Value) (t : TypeId) (fr : Nat × Nat) (i : Nat) : (w.alloc (.cells cs t fr)).cell? ⟨w.heap.size, i, none⟩ = cs[i]? := by
  unfold World.cell? World.alloc
  simp
theorem rd_newC (w : World) (cs : Array Value) (t : TypeId) (fr : Nat × Nat) (l : List UInt8) (h : cs.toList = bcells l) (hm : l.length ≤ maxLen) : Rd (w.alloc (.cells cs t fr)) (w.alloc (.cells cs t fr)).heap.size 1 (some ⟨w.heap.size, 0, none⟩) l.length (bcells l) :=
  ⟨by rw [bcells_len]; omega, hm, fun _ => ⟨w.heap.size, 0, rfl, by simp, fun j u hu => by rw [Nat.zero_add, cell_newC, ← Array.getElem?_toList, h]; exact hu⟩⟩
set_option maxRecDepth 100000 in
theorem atF_any (o : Nat) (w : World) : Calls Try.prog 24 #[.int .u32 (o : Int)] w fun e w' => e = .returned (.agg #[.int .u32 1, .int .u32 (o : Int)]) ∧ Below w.heap.size w w' := by
  go_enter Try.func24, Try.ntmps24
  go_wp2_with fail
  exact bodyPost_ret (results_cell1 rfl rfl (res_load (Blk.new w 34 #[.int .u32 1, .int .u32 (o : Int)]) Try.underlying34 rfl (by kernel_rfl))) rfl ⟨rfl, belowAlloc (Below.refl _ _) _⟩
theorem Rd.row_low {w : World} {size n g g' : Nat} {xs : List Value} (h : Rd w w.heap.size size (some ⟨g, 0, none⟩) n xs) (hg : g' < g) (cs : Array Value) : Rd (w.setRow g' cs) (w.setRow g' cs).heap.size size (some ⟨g, 0, none⟩) n xs := by
  obtain ⟨h1, h2, h3⟩ := h
  refine ⟨h1, h2, fun h0 => ?_⟩
  obtain ⟨b, off, e, hb, hc⟩ := h3 h0
  injection e with e
  injection e with e e2
  subst e e2
  refine ⟨g, 0, rfl, by rw [row_size]; exact hb, fun j u hu => ?_⟩
  rw [← hc j u hu]
  unfold World.cell?
  rw [row_other (by show g ≠ g'; omega)]
theorem execC {P : Program} {w w' : World} {ρ : Operand → Value} {o : Oper} {s d : TypeId} {x : Operand} {v u : Value} (ho : o.op = .convert s d x) (hx : ρ x = v) (h : (convert s d v).run P w = .ok u w') : (execOp ρ o).run P w = .ok (.value u) w' := by
  unfold execOp
  rw [ho]
  simp [hx, h]
def RetPutF (q : Nat) (l : List UInt8) (o : Nat) (p : Nat × Nat) (w : World) (e : Ending) (w' : World) : Prop :=
  ∃ g c, e = .returned (.agg #[.int .u32 1, .int .u32 (o : Int), .int .i64 0, .int .u64 (q : Int), .int .i64 1, .slice (some ⟨g, 0, none⟩) l.length c, .slice none 0 0, .int .u32 (p.1 : Int), .int .u32 (p.2 : Int)]) ∧ l.length ≤ c ∧ Rd w' w'.heap.size 1 (some ⟨g, 0, none⟩) l.length (bcells l) ∧ (w.heap.size ≤ g ∧ KB w' g l) ∧ Below w.heap.size w w'
set_option maxRecDepth 100000 in
set_option maxHeartbeats 2000000 in
theorem putF_any (q : Nat) (l : List UInt8) (o : Nat) (p : Nat × Nat) (hm : l.length ≤ 100000) (w : World) : Calls Try.prog 25 #[.int .u64 (q : Int), .string ⟨l.toArray⟩, .int .u32 (o : Int), .agg #[.int .u32 (p.1 : Int), .int .u32 (p.2 : Int)]] w (RetPutF q l o p w) := by
  obtain ⟨S, hS⟩ : ∃ S : ByteArray, S = ⟨l.toArray⟩ := ⟨_, rfl⟩
  rw [← hS]
  have CV := Lib.hid (fun W => run_sbytes l hm W)
  rw [← hS] at CV
  have b0 := belowAlloc (belowAlloc (Below.refl w.heap.size w) (.cells #[.int .u32 (p.1 : Int), .int .u32 (p.2 : Int)] 34)) (.cells #[.int .u32 0, .int .u32 0, .int .i64 0, .int .u64 0, .int .i64 0, .slice none 0 0, .slice none 0 0, .int .u32 0, .int .u32 0] 40)
  have q7 := (Blk.new w 34 #[.int .u32 (p.1 : Int), .int .u32 (p.2 : Int)]).alloc (.cells #[.int .u32 0, .int .u32 0, .int .i64 0, .int .u64 0, .int .i64 0, .slice none 0 0, .slice none 0 0, .int .u32 0, .int .u32 0] 40)
  have q8 := Blk.newAt (w.alloc (.cells #[.int .u32 (p.1 : Int), .int .u32 (p.2 : Int)] 34)) 40 #[.int .u32 0, .int .u32 0, .int .i64 0, .int .u64 0, .int .i64 0, .slice none 0 0, .slice none 0 0, .int .u32 0, .int .u32 0] (g := w.heap.size + 1) (by simp)
  clear hS
  unfold RetPutF
  obtain ⟨n, hn⟩ : ∃ n, n = l.length := ⟨_, rfl⟩
  rw [← hn] at CV ⊢
  clear hn
  go_enter Try.func25, Try.ntmps25
  go_upto_region 1 with fail
  generalize (w.alloc (.cells #[.int .u32 (p.1 : Int), .int .u32 (p.2 : Int)] 34)).alloc (.cells #[.int .u32 0, .int .u32 0, .int .i64 0, .int .u64 0, .int .i64 0, .slice none 0 0, .slice none 0 0, .int .u32 0, .int .u32 0] 40) = w1 at *
  have hs1 := b0.size
  have HLT0 : Hid (w.heap.size + 1 < w1.heap.size) := Lib.hid q8.lt
  have B0 := Lib.hid b0
  have Q7 := Lib.hid q7
  have Q8 := Lib.hid q8
  clear b0 q7 q8
  have hcur : Below w1.heap.size w1 w1.drew := ⟨rfl, rfl, rfl, Nat.le_refl _, fun _ _ => rfl⟩
  refine wp_region_tree (fun W => Below w1.heap.size w1 W) (row [.calms [0, 2, 3], .read 5] (.fork 1 (row [.act 4, .act 6, .act 7, .act 8] .done) 4 (row [.read 6, .act 1, .act 7, .act 8] .done))) (by kernel_rfl) (by rfl) (by kernel_rfl) (by kernel_rfl) hcur ?_
  generalize w1.drew = w2 at *
  have HC := Lib.hid hcur
  clear hcur
  refine plan_calms (by simp [calmRow, need]; rfl) ?_
  go_wp2_with fail
  refine plan_read (by rfl) (.agg #[.int .u32 (p.1 : Int), .int .u32 (p.2 : Int)]) (by rfl) (fun W hW => exec_load_blk rfl rfl (Q7.out.after hW) Try.underlying34 rfl (by kernel_rfl)) ?_
  refine plan_fork (by rfl) (by rfl) ?_ ?_
  · go_wp2_with fail
    refine (atF_any o w2).mono ?_
    rintro e w3 ⟨rfl, b3⟩
    have HC := Lib.hid (belowGo HC.out b3)
    clear b3
    go_wp2_with fail
    refine ⟨HC.out, ?_⟩
    refine plan_act (by rfl) ?_
    obtain ⟨c4, w4, hcv, hc4, hr4, kb4, b4⟩ := CV.out w3
    have HG4 : Hid (w.heap.size ≤ w3.heap.size) := Lib.hid (by have := HC.out.size; omega)
    have HLT : Hid (w.heap.size + 1 < w3.heap.size) := Lib.hid (by have := HC.out.size; have := HLT0.out; omega)
    have HC := Lib.hid (belowGo HC.out b4)
    have HR := Lib.hid hr4
    have KBH := Lib.hid kb4
    have HC4 := Lib.hid hc4
    refine wpList_value rfl (execC rfl rfl hcv) ?_
    obtain ⟨g4, hg4⟩ : ∃ g, g = w3.heap.size := ⟨_, rfl⟩
    rw [← hg4] at HR HG4 HLT KBH ⊢
    clear hg4 hcv hc4 hr4 kb4 b4
    go_wp2_with fail
    refine ⟨HC.out, ?_⟩
    refine plan_act (by rfl) ?_
    refine wpList_value (v := .agg #[.int .u64 (q : Int), .int .i64 1, .slice (some ⟨g4, 0, none⟩) n c4, .slice none 0 0, .int .u32 (p.1 : Int), .int .u32 (p.2 : Int)]) rfl (exec_build rfl (by kernel_rfl)) ?_
    go_wp2_with fail
    refine ⟨HC.out, ?_⟩
    have Q8 := Lib.hid (Q8.out.after HC.out)
    have Q8' := Lib.hid (Q8.out.row #[.int .u32 1, .int .u32 (o : Int), .int .i64 0, .int .u64 (q : Int), .int .i64 1, .slice (some ⟨g4, 0, none⟩) n c4, .slice none 0 0, .int .u32 (p.1 : Int), .int .u32 (p.2 : Int)])
    have HB := Lib.hid (row_below (belowGo B0.out HC.out) (show w.heap.size ≤ w.heap.size + 1 by omega) #[.int .u32 1, .int .u32 (o : Int), .int .i64 0, .int .u64 (q : Int), .int .i64 1, .slice (some ⟨g4, 0, none⟩) n c4, .slice none 0 0, .int .u32 (p.1 : Int), .int .u32 (p.2 : Int)])
    have KBH := Lib.hid (KBH.out.of_block (row_other (by have := HLT.out; omega) _ : (World.setRow _ (w.heap.size + 1) #[.int .u32 1, .int .u32 (o : Int), .int .i64 0, .int .u64 (q : Int), .int .i64 1, .slice (some ⟨g4, 0, none⟩) n c4, .slice none 0 0, .int .u32 (p.1 : Int), .int .u32 (p.2 : Int)]).heap[g4]? = _))
    have HR := Lib.hid (HR.out.row_low HLT.out #[.int .u32 1, .int .u32 (o : Int), .int .i64 0, .int .u64 (q : Int), .int .i64 1, .slice (some ⟨g4, 0, none⟩) n c4, .slice none 0 0, .int .u32 (p.1 : Int), .int .u32 (p.2 : Int)])
    refine plan_act (by rfl) ?_
    refine wpList_value (v := .agg #[.int .u32 1, .int .u32 (o : Int), .int .i64 0, .int .u64 (q : Int), .int .i64 1, .slice (some ⟨g4, 0, none⟩) n c4, .slice none 0 0, .int .u32 (p.1 : Int), .int .u32 (p.2 : Int)]) rfl (exec_build rfl (by kernel_rfl)) ?_
    go_wp2_with fail
    refine ⟨HC.out, ?_⟩
    refine plan_last (by rfl) (by kernel_rfl) ?_
    refine wpList_storeB rfl 40 (.tmp 8) (.tmp 16) rfl rfl rfl Q8.out (by kernel_rfl) (by rfl) (by simp [Value.oneCell']) ?_
    go_wp2_with fail
    refine plan_end ?_
    go_wp2_with fail
    exact bodyPost_ret (results_cell1 rfl rfl (res_load Q8'.out Try.underlying40 rfl (by kernel_rfl))) rfl ⟨g4, c4, rfl, HC4.out, HR.out, ⟨HG4.out, KBH.out⟩, HB.out⟩
  · obtain ⟨c4, w4, hcv, hc4, hr4, kb4, b4⟩ := CV.out w2
    have HG4 : Hid (w.heap.size ≤ w2.heap.size) := Lib.hid (by have := HC.out.size; omega)
    have HLT : Hid (w.heap.size + 1 < w2.heap.size) := Lib.hid (by have := HC.out.size; have := HLT0.out; omega)
    have HC := Lib.hid (belowGo HC.out b4)
    have HR := Lib.hid hr4
    have KBH := Lib.hid kb4
    have HC4 := Lib.hid hc4
    refine wpList_value rfl (execC rfl rfl hcv) ?_
    obtain ⟨g4, hg4⟩ : ∃ g, g = w2.heap.size := ⟨_, rfl⟩
    rw [← hg4] at HR HG4 HLT KBH ⊢
    clear hg4 hcv hc4 hr4 kb4 b4
    go_wp2_with fail
    refine ⟨HC.out, ?_⟩
    refine plan_read (by rfl) (.agg #[.int .u64 (q : Int), .int .i64 1, .slice (some ⟨g4, 0, none⟩) n c4, .slice none 0 0, .int .u32 (p.1 : Int), .int .u32 (p.2 : Int)]) (by rfl) (fun W hW => exec_build rfl (by kernel_rfl)) ?_
    refine plan_act (by rfl) ?_
    go_wp2_with fail
    refine (atF_any o w4).mono ?_
    rintro e w5 ⟨rfl, b5⟩
    have HC := Lib.hid (belowGo HC.out b5)
    have HR := Lib.hid ((HR.out.below b5 (Nat.le_refl _)).more b5.size)
    have KBH := Lib.hid (KBH.out.after b5)
    clear b5
    go_wp2_with fail
    refine ⟨HC.out, ?_⟩
    have Q8 := Lib.hid (Q8.out.after HC.out)
    have Q8' := Lib.hid (Q8.out.row #[.int .u32 1, .int .u32 (o : Int), .int .i64 0, .int .u64 (q : Int), .int .i64 1, .slice (some ⟨g4, 0, none⟩) n c4, .slice none 0 0, .int .u32 (p.1 : Int), .int .u32 (p.2 : Int)])
    have HB := Lib.hid (row_below (belowGo B0.out HC.out) (show w.heap.size ≤ w.heap.size + 1 by omega) #[.int .u32 1, .int .u32 (o : Int), .int .i64 0, .int .u64 (q : Int), .int .i64 1, .slice (some ⟨g4, 0, none⟩) n c4, .slice none 0 0, .int .u32 (p.1 : Int), .int .u32 (p.2 : Int)])
    have KBH := Lib.hid (KBH.out.of_block (row_other (by have := HLT.out; omega) _ : (World.setRow _ (w.heap.size + 1) #[.int .u32 1, .int .u32 (o : Int), .int .i64 0, .int .u64 (q : Int), .int .i64 1, .slice (some ⟨g4, 0, none⟩) n c4, .slice none 0 0, .int .u32 (p.1 : Int), .int .u32 (p.2 : Int)]).heap[g4]? = _))
    have HR := Lib.hid (HR.out.row_low HLT.out #[.int .u32 1, .int .u32 (o : Int), .int .i64 0, .int .u64 (q : Int), .int .i64 1, .slice (some ⟨g4, 0, none⟩) n c4, .slice none 0 0, .int .u32 (p.1 : Int), .int .u32 (p.2 : Int)])
    refine plan_act (by rfl) ?_
    refine wpList_value (v := .agg #[.int .u32 1, .int .u32 (o : Int), .int .i64 0, .int .u64 (q : Int), .int .i64 1, .slice (some ⟨g4, 0, none⟩) n c4, .slice none 0 0, .int .u32 (p.1 : Int), .int .u32 (p.2 : Int)]) rfl (exec_build rfl (by kernel_rfl)) ?_
    go_wp2_with fail
    refine ⟨HC.out, ?_⟩
    refine plan_last (by rfl) (by kernel_rfl) ?_
    refine wpList_storeB rfl 40 (.tmp 8) (.tmp 16) rfl rfl rfl Q8.out (by kernel_rfl) (by rfl) (by simp [Value.oneCell']) ?_
    go_wp2_with fail
    refine plan_end ?_
    go_wp2_with fail
    exact bodyPost_ret (results_cell1 rfl rfl (res_load Q8'.out Try.underlying40 rfl (by kernel_rfl))) rfl ⟨g4, c4, rfl, HC4.out, HR.out, ⟨HG4.out, KBH.out⟩, HB.out⟩
end Go.Proofs.Ytnkkieiofpplgaa
