/- Seals compared, steps compared; slices.Equal of both. No condition. -/
import Derived.Test.YtkkhojealihghaaPlLay
import Derived.Test.YtkkhojealihghaaLocEqM
import Derived.Deep.CutRange
namespace Go.Proofs.Ytkkhojealihghaa
open Go.RowKit
attribute [local go_sem] Oper.semAt_some

section
variable {P : Program} {w : World}
theorem eqf_step {d : Nat} {xs ys : Array Value} {f : Field} {fs : List Field} {x y : Value} {b : Bool} (hn : f.name ≠ "_") (hx : (part f.type xs f.offset).run P w = .ok x w) (hy : (part f.type ys f.offset).run P w = .ok y w) (he : (Op.equalIn d f.type x y).run P w = .ok b w) {c : Bool} (hr : (Op.eqFields d xs ys fs).run P w = .ok c w) : (Op.eqFields d xs ys (f :: fs)).run P w = .ok (b && c) w := by
  rw [Op.eqFields, if_pos hn]
  simp only [Sem.run_bind, hx, hy, he, Result.andThen_ok]
  cases b with
  | true => simpa using hr
  | false => simp
theorem eqf_nil {d : Nat} {xs ys : Array Value} : (Op.eqFields d xs ys []).run P w = .ok true w := by simp [Op.eqFields]
set_option maxRecDepth 100000 in
theorem eqIn_loc (d s o' s' o'' : Nat) (w : World) : (Op.equalIn (d + 1 + 1) 41 (.agg #[.int .u32 (s : Int), .int .u32 (o' : Int)]) (.agg #[.int .u32 (s' : Int), .int .u32 (o'' : Int)])).run Try.prog w = .ok (decide (s = s' ∧ o' = o'')) w := by
  have hf : Try.prog.fieldsOf 41 = #[(Try.prog.fieldsOf 41)[0]!, (Try.prog.fieldsOf 41)[1]!] := by kernel_rfl
  rw [run_equalIn_struct w (d + 1) 41 _ _ (by kernel_rfl) (by kernel_rfl), hf]
  have t0 : ((Try.prog.fieldsOf 41)[0]!).type = 37 := by kernel_rfl
  have t1 : ((Try.prog.fieldsOf 41)[1]!).type = 37 := by kernel_rfl
  have o0 : ((Try.prog.fieldsOf 41)[0]!).offset = 0 := by kernel_rfl
  have o1 : ((Try.prog.fieldsOf 41)[1]!).offset = 1 := by kernel_rfl
  have p : Try.prog.plainKey 37 = true := by simp [Program.plainKey, Try.underlying37]
  show (Op.eqFields (d + 1) _ _ [_, _]).run _ _ = _
  rw [eqf_step (by decide +kernel) (by rw [t0, o0]; exact run_part_plain w p rfl) (by rw [t0, o0]; exact run_part_plain w p rfl) (by rw [t0]; exact run_equalIn_int w d _ _ _ _ _ Try.underlying37)
    (eqf_step (by decide +kernel) (by rw [t1, o1]; exact run_part_plain w p rfl) (by rw [t1, o1]; exact run_part_plain w p rfl) (by rw [t1]; exact run_equalIn_int w d _ _ _ _ _ Try.underlying37) eqf_nil)]
  congr 1
  rw [Bool.eq_iff_iff]
  simp
  omega
end
set_option maxRecDepth 100000 in
theorem equal_se (s t : Se) (w : World) : (Op.equal 70 (.agg s.cells.toArray) (.agg t.cells.toArray)).run Try.prog w = .ok (decide (s = t)) w := by
  have hf : Try.prog.fieldsOf 70 = #[(Try.prog.fieldsOf 70)[0]!, (Try.prog.fieldsOf 70)[1]!, (Try.prog.fieldsOf 70)[2]!, (Try.prog.fieldsOf 70)[3]!, (Try.prog.fieldsOf 70)[4]!] := by kernel_rfl
  have hfu : Try.prog.underlying 70 = some (.struct (Try.prog.fieldsOf 70)) := by kernel_rfl
  show (Op.equalIn (9999 + 1) 70 _ _).run Try.prog w = _
  rw [run_equalIn_struct w 9999 70 _ _ hfu (by kernel_rfl), hf]
  have t0 : ((Try.prog.fieldsOf 70)[0]!).type = 37 := by kernel_rfl
  have o0 : ((Try.prog.fieldsOf 70)[0]!).offset = 0 := by kernel_rfl
  have t1 : ((Try.prog.fieldsOf 70)[1]!).type = 37 := by kernel_rfl
  have o1 : ((Try.prog.fieldsOf 70)[1]!).offset = 1 := by kernel_rfl
  have t2 : ((Try.prog.fieldsOf 70)[2]!).type = 37 := by kernel_rfl
  have o2 : ((Try.prog.fieldsOf 70)[2]!).offset = 2 := by kernel_rfl
  have t3 : ((Try.prog.fieldsOf 70)[3]!).type = 26 := by kernel_rfl
  have o3 : ((Try.prog.fieldsOf 70)[3]!).offset = 3 := by kernel_rfl
  have t4 : ((Try.prog.fieldsOf 70)[4]!).type = 26 := by kernel_rfl
  have o4 : ((Try.prog.fieldsOf 70)[4]!).offset = 4 := by kernel_rfl
  have pTuint32 : Try.prog.plainKey 37 = true := by simp [Program.plainKey, Try.underlying37]
  have pTuint64 : Try.prog.plainKey 26 = true := by simp [Program.plainKey, Try.underlying26]
  show (Op.eqFields 9999 _ _ [_, _, _, _, _]).run _ _ = _
  rw [eqf_step (by decide +kernel) (by rw [t0, o0]; exact run_part_plain w pTuint32 rfl) (by rw [t0, o0]; exact run_part_plain w pTuint32 rfl) (by rw [t0]; exact run_equalIn_int w 9998 _ _ _ _ _ Try.underlying37) (eqf_step (by decide +kernel) (by rw [t1, o1]; exact run_part_plain w pTuint32 rfl) (by rw [t1, o1]; exact run_part_plain w pTuint32 rfl) (by rw [t1]; exact run_equalIn_int w 9998 _ _ _ _ _ Try.underlying37) (eqf_step (by decide +kernel) (by rw [t2, o2]; exact run_part_plain w pTuint32 rfl) (by rw [t2, o2]; exact run_part_plain w pTuint32 rfl) (by rw [t2]; exact run_equalIn_int w 9998 _ _ _ _ _ Try.underlying37) (eqf_step (by decide +kernel) (by rw [t3, o3]; exact run_part_plain w pTuint64 rfl) (by rw [t3, o3]; exact run_part_plain w pTuint64 rfl) (by rw [t3]; exact run_equalIn_int w 9998 _ _ _ _ _ Try.underlying26) (eqf_step (by decide +kernel) (by rw [t4, o4]; exact run_part_plain w pTuint64 rfl) (by rw [t4, o4]; exact run_part_plain w pTuint64 rfl) (by rw [t4]; exact run_equalIn_int w 9998 _ _ _ _ _ Try.underlying26) eqf_nil))))]
  congr 1
  rw [Bool.eq_iff_iff]
  obtain ⟨a, b, c, d, e⟩ := s
  obtain ⟨a', b', c', d', e'⟩ := t
  simp only [Bool.and_eq_true, beq_iff_eq, decide_eq_true_eq, Bool.and_true, Se.mk.injEq]
  omega
set_option maxRecDepth 100000 in
theorem equal_sp (s t : Sp) (w : World) : (Op.equal 43 (.agg s.cells.toArray) (.agg t.cells.toArray)).run Try.prog w = .ok (decide (s = t)) w := by
  have hf : Try.prog.fieldsOf 43 = #[(Try.prog.fieldsOf 43)[0]!, (Try.prog.fieldsOf 43)[1]!, (Try.prog.fieldsOf 43)[2]!] := by kernel_rfl
  have hfu : Try.prog.underlying 43 = some (.struct (Try.prog.fieldsOf 43)) := by kernel_rfl
  show (Op.equalIn (9999 + 1) 43 _ _).run Try.prog w = _
  rw [run_equalIn_struct w 9999 43 _ _ hfu (by kernel_rfl), hf]
  have t0 : ((Try.prog.fieldsOf 43)[0]!).type = 3 := by kernel_rfl
  have o0 : ((Try.prog.fieldsOf 43)[0]!).offset = 0 := by kernel_rfl
  have t1 : ((Try.prog.fieldsOf 43)[1]!).type = 41 := by kernel_rfl
  have o1 : ((Try.prog.fieldsOf 43)[1]!).offset = 1 := by kernel_rfl
  have t2 : ((Try.prog.fieldsOf 43)[2]!).type = 41 := by kernel_rfl
  have o2 : ((Try.prog.fieldsOf 43)[2]!).offset = 3 := by kernel_rfl
  have pTint : Try.prog.plainKey 3 = true := by simp [Program.plainKey, Try.underlying3]
  show (Op.eqFields 9999 _ _ [_, _, _]).run _ _ = _
  rw [eqf_step (by decide +kernel) (by rw [t0, o0]; exact run_part_plain w pTint rfl) (by rw [t0, o0]; exact run_part_plain w pTint rfl) (by rw [t0]; exact run_equalIn_int w 9998 _ _ _ _ _ Try.underlying3) (eqf_step (hn := by decide +kernel) (hx := by rw [t1, o1]; kernel_rfl) (hy := by rw [t1, o1]; kernel_rfl) (x := .agg #[.int .u32 (s.to_.1 : Int), .int .u32 (s.to_.2 : Int)]) (y := .agg #[.int .u32 (t.to_.1 : Int), .int .u32 (t.to_.2 : Int)]) (he := by rw [t1]; exact eqIn_loc 9997 s.to_.1 s.to_.2 t.to_.1 t.to_.2 w) (hr := (eqf_step (hn := by decide +kernel) (hx := by rw [t2, o2]; kernel_rfl) (hy := by rw [t2, o2]; kernel_rfl) (x := .agg #[.int .u32 (s.pv.1 : Int), .int .u32 (s.pv.2 : Int)]) (y := .agg #[.int .u32 (t.pv.1 : Int), .int .u32 (t.pv.2 : Int)]) (he := by rw [t2]; exact eqIn_loc 9997 s.pv.1 s.pv.2 t.pv.1 t.pv.2 w) (hr := eqf_nil))))]
  congr 1
  rw [Bool.eq_iff_iff]
  obtain ⟨i, ⟨a, b⟩, ⟨c, d⟩⟩ := s
  obtain ⟨i', ⟨a', b'⟩, ⟨c', d'⟩⟩ := t
  simp only [Bool.and_eq_true, beq_iff_eq, decide_eq_true_eq, Bool.and_true, Sp.mk.injEq, Prod.mk.injEq]
  omega
theorem seAt {w : World} {p off : Nat} {l : List Se} {j : Nat} {s : Se} (h : ∀ j u, (seCells l)[j]? = some u → w.cell? ⟨p, off + j, none⟩ = some u) (hs : l[j]? = some s) : At w p (off + j * 5) s.cells := by
  intro k v hv
  have hk : k < 5 := (List.getElem?_eq_some_iff.1 hv).1
  have := flatMap_get Se.cells 5 (fun _ => rfl) l j k hk
  rw [Nat.add_assoc]
  refine h _ _ ?_
  unfold seCells
  rw [this, hs]
  exact hv
set_option maxRecDepth 100000 in
set_option maxHeartbeats 4000000 in
theorem eq_se_any (l m : List Se) (A : Option Addr) (n c : Nat) (A' : Option Addr) (n' c' : Nat) (w : World) (hln : l.length = n) (hmn : m.length = n') (r : Rd w w.heap.size 5 A n (seCells l)) (r' : Rd w w.heap.size 5 A' n' (seCells m)) (hn : n ≤ 1000000) :
    Calls Try.prog 19 #[.slice A n c, .slice A' n' c'] w fun e w' => e = .returned (.bool (decide (l = m))) ∧ Below w.heap.size w w' := by
  by_cases hnn : n = n'
  · subst hnn
    have HLN := Lib.hid hln
    have HMN := Lib.hid hmn
    have R := Lib.hid r
    have R' := Lib.hid r'
    clear hln hmn r r'
    go_enter Try.func19, Try.ntmps19
    go_wp2_with fail
    go_loopw [13] (fun i wr => ∃ k : Nat, k ≤ n ∧ i = .int .i64 (k : Int) ∧ Below w.heap.size w wr ∧ l.take k = m.take k) (fun i _ => n - (intOf i).toNat)
    case atStart => exact ⟨0, by omega, rfl, Below.refl _ _, rfl⟩
    case round =>
      obtain ⟨k, hk, rfl, hb, htk⟩ := hrel
      by_cases hlt : k < n
      · have hki : (k : Int) < (n : Int) := by omega
        obtain ⟨p, off, rfl, hpl, hcell⟩ := R.out.2.2 (by omega)
        obtain ⟨p', off', rfl, hpl', hcell'⟩ := R'.out.2.2 (by omega)
        obtain ⟨s, hs⟩ : ∃ s, l[k]? = some s := ⟨l[k]'(by have := HLN.out; omega), List.getElem?_eq_getElem _⟩
        obtain ⟨t, ht⟩ : ∃ s, m[k]? = some s := ⟨m[k]'(by have := HMN.out; omega), List.getElem?_eq_getElem _⟩
        have ha := seAt hcell hs
        have ha' := seAt hcell' ht
        have hst : l.take (k + 1) = m.take (k + 1) ↔ s = t := by
          rw [List.take_add_one, List.take_add_one, hs, ht, htk]
          simp
        have hne : ¬ s = t → ¬ l = m := fun h e => h (by rw [e, ht] at hs; injection hs with hs; exact hs.symm)
        have HA := Lib.hid (fun W (h : Below w.heap.size w W) => ha.after hpl h)
        have HA' := Lib.hid (fun W (h : Below w.heap.size w W) => ha'.after hpl' h)
        have EQ := Lib.hid (fun W => equal_se s t W)
        have HST := Lib.hid hst
        have HNE := Lib.hid hne
        have HTK := Lib.hid htk
        have HB := Lib.hid hb
        clear ha ha' hst hne hs ht hcell hcell' htk
        go_wp2_with fail
        have hb : Below w.heap.size w wr.drew := ⟨hb.os, hb.tape, hb.output, hb.size, hb.block⟩
        refine wp_region_plan (fun W => Below w.heap.size w W) [.calms [0, 1, 2, 4, 5, 6], .read 3, .read 7, .read 8] (by kernel_rfl) (by rfl) (by kernel_rfl) (by kernel_rfl) hb ?_
        refine plan_calms (by simp [calmRow, need]; rfl) ?_
        generalize wr.drew = w5 at *
        go_wp2_with fail
        refine plan_read (by rfl) (.agg s.cells.toArray) (by rfl) (fun W hW => exec_load_mid rfl rfl (HA.out W hW) Try.underlying70 rfl (by kernel_rfl)) ?_
        refine plan_read (by rfl) (.agg t.cells.toArray) (by rfl) (fun W hW => exec_load_mid rfl rfl (HA'.out W hW) Try.underlying70 rfl (by kernel_rfl)) ?_
        refine plan_read (by rfl) (.bool !(decide (s = t))) (by rfl) (fun W hW => exec_bin rfl (run_neq_agg (by kernel_rfl) (EQ.out W))) ?_
        by_cases hq : s = t
        · have HN := Lib.hid (HST.out.2 hq)
          rw [decide_eq_true hq]
          refine plan_end ?_
          clear hq
          go_wp2_with fail
          go_roundw
          case rel => exact ⟨k + 1, by omega, by go_num, hb, HN.out⟩
          case measure => simp [intOf]; omega
        · have HN := Lib.hid (decide_eq_false (HNE.out hq))
          rw [decide_eq_false hq]
          refine plan_end ?_
          clear hq
          go_wp2_with fail
          exact bodyPost_ret (results_tmp rfl _ _ _) rfl ⟨by rw [HN.out]; rfl, hb⟩
      · obtain rfl : k = n := by omega
        have hki : ¬ (k : Int) < (k : Int) := by omega
        have hlm : l = m := by
          rw [List.take_of_length_le (by have := HLN.out; omega), List.take_of_length_le (by have := HMN.out; omega)] at htk
          exact htk
        have HN := Lib.hid (decide_eq_true hlm)
        clear htk hlm
        go_wp2_with fail
        exact bodyPost_ret (results_tmp rfl _ _ _) rfl ⟨by rw [HN.out]; rfl, hb⟩
  · have hni : ¬ (n : Int) = (n' : Int) := by omega
    have hd : decide (l = m) = false := decide_eq_false (fun e => hnn (by rw [← hln, ← hmn, e]))
    rw [hd]
    have HN := Lib.hid hnn
    clear hd hln hmn hnn
    go_enter Try.func19, Try.ntmps19
    go_wp2_with fail
    exact bodyPost_ret (results_tmp rfl _ _ _) rfl ⟨rfl, Below.refl _ _⟩

theorem spAt {w : World} {p off : Nat} {l : List Sp} {j : Nat} {s : Sp} (h : ∀ j u, (spCells l)[j]? = some u → w.cell? ⟨p, off + j, none⟩ = some u) (hs : l[j]? = some s) : At w p (off + j * 5) s.cells := by
  intro k v hv
  have hk : k < 5 := (List.getElem?_eq_some_iff.1 hv).1
  have := flatMap_get Sp.cells 5 (fun _ => rfl) l j k hk
  rw [Nat.add_assoc]
  refine h _ _ ?_
  unfold spCells
  rw [this, hs]
  exact hv
set_option maxRecDepth 100000 in
set_option maxHeartbeats 4000000 in
theorem eq_sp_any (l m : List Sp) (A : Option Addr) (n c : Nat) (A' : Option Addr) (n' c' : Nat) (w : World) (hln : l.length = n) (hmn : m.length = n') (r : Rd w w.heap.size 5 A n (spCells l)) (r' : Rd w w.heap.size 5 A' n' (spCells m)) (hn : n ≤ 1000000) :
    Calls Try.prog 29 #[.slice A n c, .slice A' n' c'] w fun e w' => e = .returned (.bool (decide (l = m))) ∧ Below w.heap.size w w' := by
  by_cases hnn : n = n'
  · subst hnn
    have HLN := Lib.hid hln
    have HMN := Lib.hid hmn
    have R := Lib.hid r
    have R' := Lib.hid r'
    clear hln hmn r r'
    go_enter Try.func29, Try.ntmps29
    go_wp2_with fail
    go_loopw [13] (fun i wr => ∃ k : Nat, k ≤ n ∧ i = .int .i64 (k : Int) ∧ Below w.heap.size w wr ∧ l.take k = m.take k) (fun i _ => n - (intOf i).toNat)
    case atStart => exact ⟨0, by omega, rfl, Below.refl _ _, rfl⟩
    case round =>
      obtain ⟨k, hk, rfl, hb, htk⟩ := hrel
      by_cases hlt : k < n
      · have hki : (k : Int) < (n : Int) := by omega
        obtain ⟨p, off, rfl, hpl, hcell⟩ := R.out.2.2 (by omega)
        obtain ⟨p', off', rfl, hpl', hcell'⟩ := R'.out.2.2 (by omega)
        obtain ⟨s, hs⟩ : ∃ s, l[k]? = some s := ⟨l[k]'(by have := HLN.out; omega), List.getElem?_eq_getElem _⟩
        obtain ⟨t, ht⟩ : ∃ s, m[k]? = some s := ⟨m[k]'(by have := HMN.out; omega), List.getElem?_eq_getElem _⟩
        have ha := spAt hcell hs
        have ha' := spAt hcell' ht
        have hst : l.take (k + 1) = m.take (k + 1) ↔ s = t := by
          rw [List.take_add_one, List.take_add_one, hs, ht, htk]
          simp
        have hne : ¬ s = t → ¬ l = m := fun h e => h (by rw [e, ht] at hs; injection hs with hs; exact hs.symm)
        have HA := Lib.hid (fun W (h : Below w.heap.size w W) => ha.after hpl h)
        have HA' := Lib.hid (fun W (h : Below w.heap.size w W) => ha'.after hpl' h)
        have EQ := Lib.hid (fun W => equal_sp s t W)
        have HST := Lib.hid hst
        have HNE := Lib.hid hne
        have HTK := Lib.hid htk
        have HB := Lib.hid hb
        clear ha ha' hst hne hs ht hcell hcell' htk
        go_wp2_with fail
        have hb : Below w.heap.size w wr.drew := ⟨hb.os, hb.tape, hb.output, hb.size, hb.block⟩
        refine wp_region_plan (fun W => Below w.heap.size w W) [.calms [0, 1, 2, 4, 5, 6], .read 3, .read 7, .read 8] (by kernel_rfl) (by rfl) (by kernel_rfl) (by kernel_rfl) hb ?_
        refine plan_calms (by simp [calmRow, need]; rfl) ?_
        generalize wr.drew = w5 at *
        go_wp2_with fail
        refine plan_read (by rfl) (.agg s.cells.toArray) (by rfl) (fun W hW => exec_load_mid rfl rfl (HA.out W hW) Try.underlying43 rfl (by kernel_rfl)) ?_
        refine plan_read (by rfl) (.agg t.cells.toArray) (by rfl) (fun W hW => exec_load_mid rfl rfl (HA'.out W hW) Try.underlying43 rfl (by kernel_rfl)) ?_
        refine plan_read (by rfl) (.bool !(decide (s = t))) (by rfl) (fun W hW => exec_bin rfl (run_neq_agg (by kernel_rfl) (EQ.out W))) ?_
        by_cases hq : s = t
        · have HN := Lib.hid (HST.out.2 hq)
          rw [decide_eq_true hq]
          refine plan_end ?_
          clear hq
          go_wp2_with fail
          go_roundw
          case rel => exact ⟨k + 1, by omega, by go_num, hb, HN.out⟩
          case measure => simp [intOf]; omega
        · have HN := Lib.hid (decide_eq_false (HNE.out hq))
          rw [decide_eq_false hq]
          refine plan_end ?_
          clear hq
          go_wp2_with fail
          exact bodyPost_ret (results_tmp rfl _ _ _) rfl ⟨by rw [HN.out]; rfl, hb⟩
      · obtain rfl : k = n := by omega
        have hki : ¬ (k : Int) < (k : Int) := by omega
        have hlm : l = m := by
          rw [List.take_of_length_le (by have := HLN.out; omega), List.take_of_length_le (by have := HMN.out; omega)] at htk
          exact htk
        have HN := Lib.hid (decide_eq_true hlm)
        clear htk hlm
        go_wp2_with fail
        exact bodyPost_ret (results_tmp rfl _ _ _) rfl ⟨by rw [HN.out]; rfl, hb⟩
  · have hni : ¬ (n : Int) = (n' : Int) := by omega
    have hd : decide (l = m) = false := decide_eq_false (fun e => hnn (by rw [← hln, ← hmn, e]))
    rw [hd]
    have HN := Lib.hid hnn
    clear hd hln hmn hnn
    go_enter Try.func29, Try.ntmps29
    go_wp2_with fail
    exact bodyPost_ret (results_tmp rfl _ _ _) rfl ⟨rfl, Below.refl _ _⟩

end Go.Proofs.Ytkkhojealihghaa
