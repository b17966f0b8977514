/- The table as the program's text lays it: what the rows' condition gives, and that the program's start meets it. -/
import Derived.Test.YtmahadcohnhdkaaDoorGC
import Derived.Test.YtmahadcohnhdkaaDoorTie
import Derived.Test.YtmahadcohnhdkaaDoorCards
import Derived.ProofKit
import Derived.LaidMore
import Derived.OpenShut
import Derived.Stop.Joined
import Derived.SevenTiedAt
namespace Go.Proofs.YtmahadcohnhdkaaDoor
open Go.ChangeShapes Go.WideShapes Go.ChangeAt Go.WideMaps Go.WideElems Go.RowKit

theorem Tryd.own : ownKnob Tryd.prog.godebug = none := by kernel_rfl
theorem Tryd.laidOut : laidOutB Tryd.prog = true := by kernel_rfl
theorem Tryd.gHalf : Tryd.prog.globalNamed "hourbook/crc.half" = some 0 := by kernel_rfl
theorem Tryd.tHalf : (Tryd.prog.globals[0]?).map (·.type) = some 103 := by kernel_rfl
def laidL : List (String × DataW Unit) := [("hourbook/crc.half", Rows.laid_hourbook_crc_half)]

/-- the program's start meets it: three closed facts -/
theorem door_met (os : Os) (args : Array Value) : laidMetH Tryd.prog laidL ((World.doorLaid Tryd.prog 400 os).forCall (fun _ _ => 0) ⟨#[], args, []⟩).memory :=
  laidMetH_of_parts3 (fuel := 8) (laidMet_of_run' 8 (by kernel_rfl) (by kernel_rfl)) (by kernel_rfl) (by kernel_rfl)

set_option maxRecDepth 100000 in
theorem tab_of_laid {W : World} (h : laidMetH Tryd.prog laidL W) : Tab W := by
  rw [MakeChecks.laidMetH_plain _ _ _ (by kernel_rfl)] at h
  obtain ⟨ps, ⟨g0, t0, cs0, f0, p0, q0, hg0, ht0, hv0, hd0, _⟩, _⟩ := h
  obtain rfl := Option.some.inj (Tryd.gHalf.symm.trans hg0)
  obtain rfl := Option.some.inj (Tryd.tHalf.symm.trans ht0)
  obtain ⟨xs, m1, _, hx1, hlen, hn3, hel⟩ := DataW.trod_array Tryd.underlying103 hd0
  have c1 : Tryd.prog.cellsOf 26 = 1 := by kernel_rfl
  have c16 : Tryd.prog.cellsOf 103 = 16 := by kernel_rfl
  rw [c16] at hlen
  rw [c1] at hel
  have hparts : xs.map (·.1) = halfC.map fun n : Nat => DataW.lit (.int .u32 (n : Int)) := by
    have h := congrArg Prod.fst hx1
    injection h with h
    exact h.symm
  have hcell : ∀ i, i < 16 → W.cell? ⟨0, i, none⟩ = some (.int .u32 ((halfC.getD i 0 : Nat) : Int)) := fun i hi => by
    have h1 := hel i hi
    have hlt : i < xs.length := by omega
    rw [List.getElem?_eq_getElem hlt] at h1
    obtain ⟨k, e1, e2, _⟩ := DataW.trod_int Tryd.underlying26 h1
    have h3 : (xs.map (·.1))[i]? = (halfC.map fun n : Nat => DataW.lit (.int .u32 (n : Int)))[i]? := by rw [hparts]
    have hci : i < halfC.length := hi
    rw [List.getElem?_map, List.getElem?_map, List.getElem?_eq_getElem hlt, List.getElem?_eq_getElem hci] at h3
    simp only [Option.map_some, Option.some.injEq] at h3
    rw [e2] at h3
    have hk : k = (halfC[i] : Int) := by simpa using h3
    have hv := World.var?_cell hg0 hv0 i
    rw [hv]
    have hcl : i < cs0.toList.length := by omega
    rw [Nat.mul_one, List.drop_eq_getElem_cons hcl] at e1
    have h5 : cs0.toList[i] = Value.int .u32 k := by simpa using e1
    have h6 : halfC.getD i 0 = halfC[i] := by simp [List.getD, hci]
    rw [h6, ← hk, ← h5, ← Array.getElem?_toList, List.getElem?_eq_getElem hcl]
  refine ⟨?_, hcell⟩
  have h0 := hcell 0 (by decide)
  have := (cell_addr h0).2
  omega
end Go.Proofs.YtmahadcohnhdkaaDoor
