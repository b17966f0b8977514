/- Package crc: Right, of four bytes and more; the table as it is laid. -/
import Derived.Test.YtfapipamohlniaaDoorCrc1
import Derived.Test.YtfapipamohlniaaDoorEq
import Derived.Test.YtfapipamohlniaaDoorLow
import Derived.Laws.Cover3
namespace Go.Proofs.YtfapipamohlniaaDoor
open Go.RowKit

theorem right_cover (l : List UInt8) (q : Nat) (h : l.length = q + 4) : ((l.drop q).take 4 == laidC (sumC (l.take q))) = (coverC (l.take q) == l) := by
  have e1 : (l.drop q).take 4 = l.drop q := List.take_of_length_le (by rw [List.length_drop]; omega)
  rw [e1, Bool.eq_iff_iff, beq_iff_eq, beq_iff_eq]
  unfold coverC
  generalize laidC (sumC (l.take q)) = L at *
  constructor
  · rintro e
    rw [← e, List.take_append_drop]
  · intro e
    have e2 : l.take q ++ L = l.take q ++ l.drop q := by rw [e, List.take_append_drop]
    exact (List.append_cancel_left e2).symm

set_option maxRecDepth 10000 in
set_option maxHeartbeats 1000000 in
theorem right_any (l : List UInt8) (A : Option Addr) (n c : Nat) (w : World) (hT : Tab w) (h4 : 4 ≤ n) (hnc : n ≤ c) (h : Rd w w.heap.size 1 A n (bcells l)) :
    Calls Tryd.prog 48 #[.slice A n c] w fun e w' => e = .returned (.bool (coverC (l.take (n - 4)) == l)) ∧ Below w.heap.size w w' := by
  have hln := h.1
  have hmx := h.2.1
  unfold maxLen at hmx
  rw [bcells_len, Nat.mul_one] at hln
  obtain ⟨b, off, rfl, _, _⟩ := h.2.2 (by omega)
  obtain ⟨q, rfl⟩ : ∃ q, n = q + 4 := ⟨n - 4, by omega⟩
  rw [show q + 4 - 4 = q by omega, ← right_cover l q hln]
  have hlt : (laidC (sumC (l.take q))).length = 4 := laidC_len _
  have HS := fun W hT' r => Lib.hid (sum_any (l.take q) (some ⟨b, off, none⟩) q c W hT' r)
  have HL := fun W => Lib.hid (laid_any (sumC (l.take q)) (sumC_lt _) W)
  have ht := h.btake (k := q) (by omega)
  have hd := h.bdrop (k := q) (by omega)
  rw [show q + 4 - q = 4 by omega] at hd
  have hdl : (l.drop q).length = 4 := by rw [List.length_drop]; omega
  have hSl : ∀ W : World, (Instr.sliceAt 25 (.slice (some ⟨b, off, none⟩) (q + 4) c) (some (.int .i64 (q : Int))) none none).run Tryd.prog W = .ok (.slice (some ⟨b, off + q, none⟩) 4 (c - q)) W := fun W => by
    have := run_low W (b := b) (off := off) (n := q + 4) (c := c) (k := q) (by omega) hnc
    rwa [if_neg (by omega), show q + 4 - q = 4 by omega] at this
  have a1 : ∀ W, (Instr.arrayAt 116 (.slice (some ⟨b, off + q, none⟩) 4 (c - q))).run Tryd.prog W = .ok (.pointer (some ⟨b, off + q, none⟩)) W := fun W => run_arrayAt W _ _ 4 _ _ _ Tryd.underlying116 (Nat.le_refl _)
  generalize sumC (l.take q) = S at *
  generalize laidC S = L at *
  have i1 : ((q + 4 : Nat) : Int) - 4 = (q : Int) := by omega
  have i2 : (q : Int) ≤ (c : Int) := by omega
  have i3 : q ≤ c := by omega
  have hl4 := Lib.hid hln
  have hlt4 := Lib.hid hlt
  have hdl4 := Lib.hid hdl
  clear hln hlt hdl
  go_enter Tryd.func48, Tryd.ntmps48
  go_wp2_with fail
  have hcur : Below w.heap.size w w.drew := ⟨rfl, rfl, rfl, Nat.le_refl _, fun _ _ => rfl⟩
  refine wp_region_plan (fun W => Below w.heap.size w W) [.calms [0, 1, 2, 3, 4, 5, 6, 8, 9, 10], .read 7, .act 11, .act 12, .read 13, .calms [14, 15]] (by kernel_rfl) (by rfl) (by kernel_rfl) (by kernel_rfl) hcur ?_
  have htd := ht.after hcur
  have hTd := hT.after hcur
  generalize w.drew = wd at *
  refine plan_calms (by simp [calmRow, need, chk]; rfl) ?_
  go_wp2_with fail
  refine plan_read (by rfl) (.agg ((bcells (l.drop q)).take 4).toArray) (by rfl) (fun W hW => exec_load_rd rfl rfl (hd.below hW (Nat.le_refl _)) (Nat.le_refl _) Tryd.underlying116 (by kernel_rfl)) ?_
  refine plan_act (by rfl) ?_
  go_wp2_with fail
  refine (HS _ hTd htd).out.mono ?_
  rintro e w3 ⟨rfl, rfl⟩
  clear HS
  go_wp2_with fail
  refine ⟨hcur, plan_act (by rfl) ?_⟩
  go_wp2_with fail
  refine (HL _).out.mono ?_
  rintro e w4 ⟨rfl, b4⟩
  clear HL
  have hb := belowGo hcur b4
  go_wp2_with fail
  refine ⟨hb, plan_read (by rfl) (.bool ((l.drop q).take 4 == L)) (by rfl) (fun W hW => exec_bin rfl (by
    refine run_eql_agg (xs := ((bcells (l.drop q)).take 4).toArray) (ys := (bcells L).toArray) (by kernel_rfl) ?_
    rw [btake_eq, bcells_row, bcells_row, ← bytes_beq ((l.drop q).take 4) L]
    exact run_equal_ints Tryd.underlying116 Tryd.underlying5 (i := (Tryd.prog.info? 5).get!) (by kernel_rfl) (by kernel_rfl) _ _ (by have := hdl4.out; simp at this ⊢; omega) (by have := hlt4.out; simpa using this))) ?_⟩
  refine plan_calms (by simp [calmRow, need]; rfl) ?_
  go_wp2_with fail
  refine plan_end ?_
  go_wp2_with fail
  go_ret
  exact ⟨rfl, hb⟩
end Go.Proofs.YtfapipamohlniaaDoor
