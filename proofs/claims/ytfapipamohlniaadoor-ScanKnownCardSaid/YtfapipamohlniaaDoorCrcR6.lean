/- The document's answer, chapter 02: Right, of four bytes and more. -/
import Derived.Test.YtfapipamohlniaaDoorCrcR5
import Derived.Test.YtfapipamohlniaaDoorConv
namespace Go.Proofs.YtfapipamohlniaaDoor
open Go.RowKit

theorem exec_conv {P : Program} {w : World} {ρ : Operand → Value} {o : Oper} {s d : TypeId} {x : Operand} {v u : Value} (ho : o.op = .convert s d x) (hx : ρ x = v) (h : (convert s d v).run P w = .ok u w) : (execOp ρ o).run P w = .ok (.value u) w := by
  unfold execOp
  rw [ho]
  simp [hx, h]

set_option maxRecDepth 10000 in
set_option maxHeartbeats 1000000 in
theorem rright_any (l : List UInt8) (A : Option Addr) (n c : Nat) (w : World) (h4 : 4 ≤ n) (hn : n ≤ 1000000000000) (hnc : n ≤ c) (h : Rd w w.heap.size 1 A n (bcells l)) :
    Calls Tryd.prog 39 #[.slice A n c] w fun e w' => e = .returned (.bool (coverC (l.take (n - 4)) == l)) ∧ Below w.heap.size w w' := by
  obtain ⟨q, hq⟩ : ∃ q, q = n - 4 := ⟨_, rfl⟩
  have HC := fun W h => Lib.hid (rcover_any (l.take (n - 4)) A (n - 4) c W (by omega) h)
  have hqn : q + 4 = n := by omega
  have eq : (n : Int) - 4 = (q : Int) := by omega
  have ht := h.btake (k := q) (by omega)
  rw [← hq] at HC ⊢
  have i1 : (q : Int) ≤ (c : Int) := by omega
  have i2 : (0 : Int) ≤ (q : Int) := by omega
  have hqc : q ≤ c := by omega
  clear hq
  go_enter Tryd.func39, Tryd.ntmps39
  go_wp2_with fail
  have hcur : Below w.heap.size w w.drew := ⟨rfl, rfl, rfl, Nat.le_refl _, fun _ _ => rfl⟩
  refine wp_region_plan (fun W => Below w.heap.size w W) [.calms [0, 1, 2, 3, 4, 5, 8], .read 9, .act 6, .act 7, .act 10, .calms [11, 12]] (by kernel_rfl) (by rfl) (by kernel_rfl) (by kernel_rfl) hcur ?_
  have hd := h.after hcur
  have htd := ht.after hcur
  generalize w.drew = wd at *
  refine plan_calms (by simp [calmRow, need, chk]; rfl) ?_
  go_wp2_with fail
  refine plan_read (by rfl) (.string ⟨l.toArray⟩) (by rfl) (fun W hW => exec_conv rfl rfl (run_conv (P := Tryd.prog) Tryd.underlying25 Tryd.underlying5 Tryd.underlying9 c (h.after hW))) ?_
  refine plan_act (by rfl) ?_
  go_wp2_with fail
  refine (HC _ htd).out.mono ?_
  rintro e w3 ⟨v3, rfl, o3, b3⟩
  rw [hqn] at o3
  obtain ⟨A3, c3, rfl, hc3⟩ := own_cap o3
  have r3 := own_rd o3
  have hbw := belowGo hcur b3
  have f1 : (convert 25 9 (.slice A3 n c3)).run Tryd.prog w3 = .ok (.string ⟨(coverC (l.take q)).toArray⟩) w3 := run_conv (P := Tryd.prog) Tryd.underlying25 Tryd.underlying5 Tryd.underlying9 c3 r3
  have e1 := str_beq (coverC (l.take q)) l
  generalize (coverC (l.take q) == l) = z at *
  clear HC b3 o3 r3 htd hd hcur
  go_wp2_with fail
  refine ⟨hbw, plan_act (by rfl) ?_⟩
  go_wp2_with fail
  refine ⟨hbw, plan_last (by rfl) (by kernel_rfl) ?_⟩
  go_wp2_with fail
  refine plan_calms (by simp [calmRow, need]; rfl) ?_
  go_wp2_with fail
  refine plan_end ?_
  go_wp2_with fail
  go_ret
  exact ⟨rfl, hbw⟩
end Go.Proofs.YtfapipamohlniaaDoor
