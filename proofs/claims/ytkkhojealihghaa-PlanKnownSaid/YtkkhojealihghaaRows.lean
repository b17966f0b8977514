/-
  No cell of these rows narrows 'for every input' (looked for: loops, veiled, ifaces, maps, wideKeys, modest, calm, conditions, laid).
  DERIVED. THE GIVEN ROWS OF THIS SEAT. 5 by the template 'for every input the law returns true; each argument reads behind the call as it read before'; 0 by the template 'total and deterministic' (their statements: YtkkhojealihghaaTotals.lean).
  GIVEN WITH THE SEED: the statements are not yours to turn. If you find one false, say at which input.
  Laid BY PROGRAM, IN A SANDBOX (cutbox-rows.mjs): the forced cells as the released guide's own fill.sh prints them over the translation 58bf25ffdd7ddd55… (all of the seat's roots in one cut). By AI agents, Wed Nov 11 2026. No macro, syntax, notation, axiom, sorry.
-/
import Derived.Test.YtkkhojealihghaaChecked
import GoSem.Claim
import GoSem.ClaimJoined
import GoSem.ClaimMapViews
import Derived.JoinedTies
import Derived.KernelRfl
namespace Go.Proofs.Ytkkhojealihghaa
/- THE CELL 'sum', in the pinned program and in every row, IS THE sha256 OF THE DUMP (.gsa) THAT YtkkhojealihghaaProg.lean LOADS. Nothing in Lean hashes anything: it is a label: what it is worth is what the hold of that sum in a sandbox is worth. -/
noncomputable def Try.pinned : Pinned := { name := "ytkkhojealihghaa", sum := "58bf25ffdd7ddd55c82c8d2a6bd58e7ba50fb6bd1854153f14e876906eb55c64", checked := Try.checked }
namespace Rows
def none {H : Type} : Left H := { results := [], args := [] }

/-- 'hourbooklaw25.PlanStays': WHATEVER THE INPUT: true; the input reads as it did. -/
def planStaysSpec : ChangeSpec := { name := "planStays", fn := fun _ => fun
  | [d1, d2, d3] => { results := [.lit (.bool true)], args := [d1, d2, d3] }
  | _ => none }
def planStaysRow : OpenClaim := { program := "ytkkhojealihghaa", sum := "58bf25ffdd7ddd55c82c8d2a6bd58e7ba50fb6bd1854153f14e876906eb55c64", func := "hourbook/hourbooklaw25.PlanStays", spec := "planStays", unfollowed := true, recurses := true, plainKeys := false, apart := false }
def PlanStaysSaid : Prop := planStaysRow.holds Try.pinned (OpenSpec.ofChange planStaysSpec)

/-- ITS FALSE NEIGHBOUR: 'it returns false'. Refute it at one input. -/
def planStaysWrong : ChangeSpec := { name := "planStays", fn := fun _ => fun
  | [d1, d2, d3] => { results := [.lit (.bool false)], args := [d1, d2, d3] }
  | _ => none }
def PlanStaysWrongFalsely : Prop := planStaysRow.holds Try.pinned (OpenSpec.ofChange planStaysWrong)

/-- 'hourbooklaw25.PlanAgain': WHATEVER THE INPUT: true; the input reads as it did. -/
def planAgainSpec : ChangeSpec := { name := "planAgain", fn := fun _ => fun
  | [d1, d2] => { results := [.lit (.bool true)], args := [d1, d2] }
  | _ => none }
def planAgainRow : OpenClaim := { program := "ytkkhojealihghaa", sum := "58bf25ffdd7ddd55c82c8d2a6bd58e7ba50fb6bd1854153f14e876906eb55c64", func := "hourbook/hourbooklaw25.PlanAgain", spec := "planAgain", unfollowed := true, recurses := true, plainKeys := false, apart := false }
def PlanAgainSaid : Prop := planAgainRow.holds Try.pinned (OpenSpec.ofChange planAgainSpec)

/-- ITS FALSE NEIGHBOUR: 'it returns false'. Refute it at one input. -/
def planAgainWrong : ChangeSpec := { name := "planAgain", fn := fun _ => fun
  | [d1, d2] => { results := [.lit (.bool false)], args := [d1, d2] }
  | _ => none }
def PlanAgainWrongFalsely : Prop := planAgainRow.holds Try.pinned (OpenSpec.ofChange planAgainWrong)

/-- 'hourbooklaw25.PlanKnown': WHATEVER THE INPUT: true; the input reads as it did. -/
def planKnownSpec : ChangeSpec := { name := "planKnown", fn := fun _ => fun
  | [] => { results := [.lit (.bool true)], args := [] }
  | _ => none }
def planKnownRow : OpenClaim := { program := "ytkkhojealihghaa", sum := "58bf25ffdd7ddd55c82c8d2a6bd58e7ba50fb6bd1854153f14e876906eb55c64", func := "hourbook/hourbooklaw25.PlanKnown", spec := "planKnown", unfollowed := true, recurses := true, plainKeys := false, apart := false }
def PlanKnownSaid : Prop := planKnownRow.holds Try.pinned (OpenSpec.ofChange planKnownSpec)

/-- ITS FALSE NEIGHBOUR: 'it returns false'. Refute it at one input. -/
def planKnownWrong : ChangeSpec := { name := "planKnown", fn := fun _ => fun
  | [] => { results := [.lit (.bool false)], args := [] }
  | _ => none }
def PlanKnownWrongFalsely : Prop := planKnownRow.holds Try.pinned (OpenSpec.ofChange planKnownWrong)

/-- 'hourbooklaw25.PlanTells': WHATEVER THE INPUT: true; the input reads as it did. -/
def planTellsSpec : ChangeSpec := { name := "planTells", fn := fun _ => fun
  | [d1, d2] => { results := [.lit (.bool true)], args := [d1, d2] }
  | _ => none }
def planTellsRow : OpenClaim := { program := "ytkkhojealihghaa", sum := "58bf25ffdd7ddd55c82c8d2a6bd58e7ba50fb6bd1854153f14e876906eb55c64", func := "hourbook/hourbooklaw25.PlanTells", spec := "planTells", unfollowed := true, recurses := true, plainKeys := false, apart := false }
def PlanTellsSaid : Prop := planTellsRow.holds Try.pinned (OpenSpec.ofChange planTellsSpec)

/-- ITS FALSE NEIGHBOUR: 'it returns false'. Refute it at one input. -/
def planTellsWrong : ChangeSpec := { name := "planTells", fn := fun _ => fun
  | [d1, d2] => { results := [.lit (.bool false)], args := [d1, d2] }
  | _ => none }
def PlanTellsWrongFalsely : Prop := planTellsRow.holds Try.pinned (OpenSpec.ofChange planTellsWrong)

/-- 'hourbooklaw25.PlanLays': WHATEVER THE INPUT: true; the input reads as it did. -/
def planLaysSpec : ChangeSpec := { name := "planLays", fn := fun _ => fun
  | [d1, d2, d3] => { results := [.lit (.bool true)], args := [d1, d2, d3] }
  | _ => none }
def planLaysRow : OpenClaim := { program := "ytkkhojealihghaa", sum := "58bf25ffdd7ddd55c82c8d2a6bd58e7ba50fb6bd1854153f14e876906eb55c64", func := "hourbook/hourbooklaw25.PlanLays", spec := "planLays", unfollowed := true, recurses := true, plainKeys := false, apart := false }
def PlanLaysSaid : Prop := planLaysRow.holds Try.pinned (OpenSpec.ofChange planLaysSpec)

/-- ITS FALSE NEIGHBOUR: 'it returns false'. Refute it at one input. -/
def planLaysWrong : ChangeSpec := { name := "planLays", fn := fun _ => fun
  | [d1, d2, d3] => { results := [.lit (.bool false)], args := [d1, d2, d3] }
  | _ => none }
def PlanLaysWrongFalsely : Prop := planLaysRow.holds Try.pinned (OpenSpec.ofChange planLaysWrong)

/- THE SECOND FORM. 'bulk': how many values and letters a reading holds, each counted each time it is reached (what is shared counts as often as it is met; a slice's spare places count too). A statement '..UptoSaid' is the law's where the arguments, and the package variables that the reading takes, are together of bulk at most 1048576: NARROWER than '..Said'. Prove '..Said' where nothing that the law and all that it calls make is longer than what came in: it says more and counts as full. Else prove '..UptoSaid'. A law counts once. -/
mutual
def uptoBulk {H : Type} : DataW H → Nat
  | .lit (.string bytes) => bytes.length + 1
  | .lit _ => 1
  | .nil => 1
  | .ptr d => uptoBulk d + 1
  | .slice elems spare => uptoBulkAll elems + uptoBulkAll spare + 1
  | .agg parts => uptoBulkAll parts + 1
  | .iface _ d => uptoBulk d + 1
  | .map entries => uptoBulkEntries entries + 1
  | .held _ => 1
def uptoBulkAll {H : Type} : List (DataW H) → Nat
  | [] => 0
  | d :: r => uptoBulk d + uptoBulkAll r
def uptoBulkEntries {H : Type} : List (Lit × DataW H) → Nat
  | [] => 0
  | x :: r => uptoBulkEntry x + uptoBulkEntries r
def uptoBulkEntry {H : Type} : Lit × DataW H → Nat
  | (.string bytes, d) => bytes.length + uptoBulk d + 1
  | (_, d) => uptoBulk d + 1
 end
def uptoSmall : (H : Type) → List (DataW H) → Bool := fun _ ds => decide (uptoBulkAll ds ≤ 1048576)
def OpenSpec.upto (s : _root_.Go.ChangeSpec) : _root_.Go.OpenSpec := { _root_.Go.OpenSpec.ofChange s with cond := some uptoSmall }

/-- 'hourbooklaw25.PlanStays', WHERE WHAT IT READS IS OF BULK AT MOST 1048576: true; the input reads as it did. -/
def planStaysUptoRow : OpenClaim := { program := "ytkkhojealihghaa", sum := "58bf25ffdd7ddd55c82c8d2a6bd58e7ba50fb6bd1854153f14e876906eb55c64", func := "hourbook/hourbooklaw25.PlanStays", spec := "planStays", unfollowed := true, recurses := true, plainKeys := false, apart := false, narrowed := true }
def PlanStaysUptoSaid : Prop := planStaysUptoRow.holds Try.pinned (OpenSpec.upto planStaysSpec)

/-- 'hourbooklaw25.PlanAgain', WHERE WHAT IT READS IS OF BULK AT MOST 1048576: true; the input reads as it did. -/
def planAgainUptoRow : OpenClaim := { program := "ytkkhojealihghaa", sum := "58bf25ffdd7ddd55c82c8d2a6bd58e7ba50fb6bd1854153f14e876906eb55c64", func := "hourbook/hourbooklaw25.PlanAgain", spec := "planAgain", unfollowed := true, recurses := true, plainKeys := false, apart := false, narrowed := true }
def PlanAgainUptoSaid : Prop := planAgainUptoRow.holds Try.pinned (OpenSpec.upto planAgainSpec)

/-- 'hourbooklaw25.PlanKnown', WHERE WHAT IT READS IS OF BULK AT MOST 1048576: true; the input reads as it did. -/
def planKnownUptoRow : OpenClaim := { program := "ytkkhojealihghaa", sum := "58bf25ffdd7ddd55c82c8d2a6bd58e7ba50fb6bd1854153f14e876906eb55c64", func := "hourbook/hourbooklaw25.PlanKnown", spec := "planKnown", unfollowed := true, recurses := true, plainKeys := false, apart := false, narrowed := true }
def PlanKnownUptoSaid : Prop := planKnownUptoRow.holds Try.pinned (OpenSpec.upto planKnownSpec)

/-- 'hourbooklaw25.PlanTells', WHERE WHAT IT READS IS OF BULK AT MOST 1048576: true; the input reads as it did. -/
def planTellsUptoRow : OpenClaim := { program := "ytkkhojealihghaa", sum := "58bf25ffdd7ddd55c82c8d2a6bd58e7ba50fb6bd1854153f14e876906eb55c64", func := "hourbook/hourbooklaw25.PlanTells", spec := "planTells", unfollowed := true, recurses := true, plainKeys := false, apart := false, narrowed := true }
def PlanTellsUptoSaid : Prop := planTellsUptoRow.holds Try.pinned (OpenSpec.upto planTellsSpec)

/-- 'hourbooklaw25.PlanLays', WHERE WHAT IT READS IS OF BULK AT MOST 1048576: true; the input reads as it did. -/
def planLaysUptoRow : OpenClaim := { program := "ytkkhojealihghaa", sum := "58bf25ffdd7ddd55c82c8d2a6bd58e7ba50fb6bd1854153f14e876906eb55c64", func := "hourbook/hourbooklaw25.PlanLays", spec := "planLays", unfollowed := true, recurses := true, plainKeys := false, apart := false, narrowed := true }
def PlanLaysUptoSaid : Prop := planLaysUptoRow.holds Try.pinned (OpenSpec.upto planLaysSpec)

end Rows
end Go.Proofs.Ytkkhojealihghaa
