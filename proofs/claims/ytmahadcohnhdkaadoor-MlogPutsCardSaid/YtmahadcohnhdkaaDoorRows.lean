/-
  NARROWER THAN 'FOR EVERY INPUT', by the rows' own cells (each row's printed sentence says how): MlogPuts: laid · MlogKnown: laid · MlogBegins: laid · MlogTurned: laid.
  DERIVED. THE GIVEN ROWS OF THIS SEAT. 4 by the template 'for every input the law returns true; each argument reads behind the call as it read before'; 0 by the template 'total and deterministic' (their statements: YtmahadcohnhdkaaDoorTotals.lean).
  GIVEN WITH THE SEED: the statements are not yours to turn. If you find one false, say at which input.
  Laid BY PROGRAM, IN A SANDBOX (cutbox-rows.mjs): the forced cells as the released guide's own fill.sh prints them over the translation df2fcd550a7589e7… (all of the seat's roots in one cut). By AI agents, Wed Nov 11 2026. No macro, syntax, notation, axiom, sorry.
-/
import Derived.Test.YtmahadcohnhdkaaDoorChecked
import GoSem.Claim
import GoSem.ClaimJoined
import GoSem.ClaimMapViews
import Derived.JoinedTies
import Derived.KernelRfl
namespace Go.Proofs.YtmahadcohnhdkaaDoor
/- THE CELL 'sum', in the pinned program and in every row, IS THE sha256 OF THE DUMP (.gsa) THAT YtmahadcohnhdkaaDoorProg.lean LOADS. Nothing in Lean hashes anything: it is a label: what it is worth is what the hold of that sum in a sandbox is worth. -/
noncomputable def Tryd.pinned : Pinned := { name := "ytmahadcohnhdkaadoor", sum := "df2fcd550a7589e789d55396c5896e04cb3ff6016f1674dda81f773fc85c4968", checked := Tryd.checked }
namespace Rows
def none {H : Type} : Left H := { results := [], args := [] }

/- WHAT THE LISTED PACKAGE-LEVEL VARIABLES READ AS WHEN THE CALL BEGINS. Each datum BY PROGRAM (the guide's laid-datum.mjs) off the statement by which the dump's own 'gosem.cut.vars' lays the variable. In a bare row this is a premise. The card (YtmahadcohnhdkaaDoorCards.lean) ties it to the program's text. -/
def laid_hourbook_crc_half {H : Type} : DataW H := .agg [.lit (.int .u32 0), .lit (.int .u32 274646895), .lit (.int .u32 549293790), .lit (.int .u32 820201905), .lit (.int .u32 1098587580), .lit (.int .u32 1361435347), .lit (.int .u32 1640403810), .lit (.int .u32 1905808397), .lit (.int .u32 2197175160), .lit (.int .u32 2460548119), .lit (.int .u32 2722870694), .lit (.int .u32 2987750089), .lit (.int .u32 3280807620), .lit (.int .u32 3553878443), .lit (.int .u32 3811616794), .lit (.int .u32 4084100981)]

/-- 'hourbooklaw22.MlogPuts': WHATEVER THE INPUT: true; the input reads as it did. -/
def mlogPutsSpec : ChangeSpec := { name := "mlogPuts", fn := fun _ => fun
  | [d] => { results := [.lit (.bool true)], args := [d] }
  | _ => none }
def mlogPutsRow : OpenClaim := { program := "ytmahadcohnhdkaadoor", sum := "df2fcd550a7589e789d55396c5896e04cb3ff6016f1674dda81f773fc85c4968", func := "hourbook/hourbooklaw22.MlogPuts", spec := "mlogPuts", unfollowed := true, recurses := true, named := ["hourbook/crc.half"], apart := false, laid := [("hourbook/crc.half", laid_hourbook_crc_half)] }
def MlogPutsSaid : Prop := mlogPutsRow.holds Tryd.pinned (OpenSpec.ofChange mlogPutsSpec)

/-- ITS FALSE NEIGHBOUR: 'it returns false'. Refute it at one input. -/
def mlogPutsWrong : ChangeSpec := { name := "mlogPuts", fn := fun _ => fun
  | [d] => { results := [.lit (.bool false)], args := [d] }
  | _ => none }
def MlogPutsWrongFalsely : Prop := mlogPutsRow.holds Tryd.pinned (OpenSpec.ofChange mlogPutsWrong)

/-- 'hourbooklaw22.MlogKnown': WHATEVER THE INPUT: true; the input reads as it did. -/
def mlogKnownSpec : ChangeSpec := { name := "mlogKnown", fn := fun _ => fun
  | [] => { results := [.lit (.bool true)], args := [] }
  | _ => none }
def mlogKnownRow : OpenClaim := { program := "ytmahadcohnhdkaadoor", sum := "df2fcd550a7589e789d55396c5896e04cb3ff6016f1674dda81f773fc85c4968", func := "hourbook/hourbooklaw22.MlogKnown", spec := "mlogKnown", unfollowed := true, recurses := true, named := ["hourbook/crc.half"], apart := false, laid := [("hourbook/crc.half", laid_hourbook_crc_half)] }
def MlogKnownSaid : Prop := mlogKnownRow.holds Tryd.pinned (OpenSpec.ofChange mlogKnownSpec)

/-- ITS FALSE NEIGHBOUR: 'it returns false'. Refute it at one input. -/
def mlogKnownWrong : ChangeSpec := { name := "mlogKnown", fn := fun _ => fun
  | [] => { results := [.lit (.bool false)], args := [] }
  | _ => none }
def MlogKnownWrongFalsely : Prop := mlogKnownRow.holds Tryd.pinned (OpenSpec.ofChange mlogKnownWrong)

/-- 'hourbooklaw22.MlogBegins': WHATEVER THE INPUT: true; the input reads as it did. -/
def mlogBeginsSpec : ChangeSpec := { name := "mlogBegins", fn := fun _ => fun
  | [d1, d2] => { results := [.lit (.bool true)], args := [d1, d2] }
  | _ => none }
def mlogBeginsRow : OpenClaim := { program := "ytmahadcohnhdkaadoor", sum := "df2fcd550a7589e789d55396c5896e04cb3ff6016f1674dda81f773fc85c4968", func := "hourbook/hourbooklaw22.MlogBegins", spec := "mlogBegins", unfollowed := true, recurses := true, named := ["hourbook/crc.half"], apart := false, laid := [("hourbook/crc.half", laid_hourbook_crc_half)] }
def MlogBeginsSaid : Prop := mlogBeginsRow.holds Tryd.pinned (OpenSpec.ofChange mlogBeginsSpec)

/-- ITS FALSE NEIGHBOUR: 'it returns false'. Refute it at one input. -/
def mlogBeginsWrong : ChangeSpec := { name := "mlogBegins", fn := fun _ => fun
  | [d1, d2] => { results := [.lit (.bool false)], args := [d1, d2] }
  | _ => none }
def MlogBeginsWrongFalsely : Prop := mlogBeginsRow.holds Tryd.pinned (OpenSpec.ofChange mlogBeginsWrong)

/-- 'hourbooklaw22.MlogTurned': WHATEVER THE INPUT: true; the input reads as it did. -/
def mlogTurnedSpec : ChangeSpec := { name := "mlogTurned", fn := fun _ => fun
  | [d1, d2, d3] => { results := [.lit (.bool true)], args := [d1, d2, d3] }
  | _ => none }
def mlogTurnedRow : OpenClaim := { program := "ytmahadcohnhdkaadoor", sum := "df2fcd550a7589e789d55396c5896e04cb3ff6016f1674dda81f773fc85c4968", func := "hourbook/hourbooklaw22.MlogTurned", spec := "mlogTurned", unfollowed := true, recurses := true, named := ["hourbook/crc.half"], apart := false, laid := [("hourbook/crc.half", laid_hourbook_crc_half)] }
def MlogTurnedSaid : Prop := mlogTurnedRow.holds Tryd.pinned (OpenSpec.ofChange mlogTurnedSpec)

/-- ITS FALSE NEIGHBOUR: 'it returns false'. Refute it at one input. -/
def mlogTurnedWrong : ChangeSpec := { name := "mlogTurned", fn := fun _ => fun
  | [d1, d2, d3] => { results := [.lit (.bool false)], args := [d1, d2, d3] }
  | _ => none }
def MlogTurnedWrongFalsely : Prop := mlogTurnedRow.holds Tryd.pinned (OpenSpec.ofChange mlogTurnedWrong)

/- THE SECOND FORM. 'bulk': how many values and letters a reading holds, each counted each time it is reached (what is shared counts as often as it is met; a slice's spare places count too). A statement '..UptoSaid' is the law's where the arguments, and the package variables that the reading takes, are together of bulk at most 1048576: NARROWER than '..Said'. Prove '..Said' where nothing that the law and all that it calls make is longer than what came in: it says more and counts as full. Else prove '..UptoSaid'. A law counts once. -/
mutual
def uptoBulk {H : Type} : DataW H → Nat
  | .lit (.string bytes) => bytes.length + 1
  | .lit _ => 1
  | .nil => 1
  | .ptr d => uptoBulk d + 1
  | .slice elems spare => uptoBulkAll elems + uptoBulkAll spare + 1
  | .agg parts => uptoBulkAll parts + 1
  | .iface _ d => uptoBulk d + 1
  | .map entries => uptoBulkEntries entries + 1
  | .held _ => 1
def uptoBulkAll {H : Type} : List (DataW H) → Nat
  | [] => 0
  | d :: r => uptoBulk d + uptoBulkAll r
def uptoBulkEntries {H : Type} : List (Lit × DataW H) → Nat
  | [] => 0
  | x :: r => uptoBulkEntry x + uptoBulkEntries r
def uptoBulkEntry {H : Type} : Lit × DataW H → Nat
  | (.string bytes, d) => bytes.length + uptoBulk d + 1
  | (_, d) => uptoBulk d + 1
 end
def uptoSmall : (H : Type) → List (DataW H) → Bool := fun _ ds => decide (uptoBulkAll ds ≤ 1048576)
def OpenSpec.upto (s : _root_.Go.ChangeSpec) : _root_.Go.OpenSpec := { _root_.Go.OpenSpec.ofChange s with cond := some uptoSmall }

/-- 'hourbooklaw22.MlogPuts', WHERE WHAT IT READS IS OF BULK AT MOST 1048576: true; the input reads as it did. -/
def mlogPutsUptoRow : OpenClaim := { program := "ytmahadcohnhdkaadoor", sum := "df2fcd550a7589e789d55396c5896e04cb3ff6016f1674dda81f773fc85c4968", func := "hourbook/hourbooklaw22.MlogPuts", spec := "mlogPuts", unfollowed := true, recurses := true, named := ["hourbook/crc.half"], apart := false, laid := [("hourbook/crc.half", laid_hourbook_crc_half)], narrowed := true }
def MlogPutsUptoSaid : Prop := mlogPutsUptoRow.holds Tryd.pinned (OpenSpec.upto mlogPutsSpec)

/-- 'hourbooklaw22.MlogKnown', WHERE WHAT IT READS IS OF BULK AT MOST 1048576: true; the input reads as it did. -/
def mlogKnownUptoRow : OpenClaim := { program := "ytmahadcohnhdkaadoor", sum := "df2fcd550a7589e789d55396c5896e04cb3ff6016f1674dda81f773fc85c4968", func := "hourbook/hourbooklaw22.MlogKnown", spec := "mlogKnown", unfollowed := true, recurses := true, named := ["hourbook/crc.half"], apart := false, laid := [("hourbook/crc.half", laid_hourbook_crc_half)], narrowed := true }
def MlogKnownUptoSaid : Prop := mlogKnownUptoRow.holds Tryd.pinned (OpenSpec.upto mlogKnownSpec)

/-- 'hourbooklaw22.MlogBegins', WHERE WHAT IT READS IS OF BULK AT MOST 1048576: true; the input reads as it did. -/
def mlogBeginsUptoRow : OpenClaim := { program := "ytmahadcohnhdkaadoor", sum := "df2fcd550a7589e789d55396c5896e04cb3ff6016f1674dda81f773fc85c4968", func := "hourbook/hourbooklaw22.MlogBegins", spec := "mlogBegins", unfollowed := true, recurses := true, named := ["hourbook/crc.half"], apart := false, laid := [("hourbook/crc.half", laid_hourbook_crc_half)], narrowed := true }
def MlogBeginsUptoSaid : Prop := mlogBeginsUptoRow.holds Tryd.pinned (OpenSpec.upto mlogBeginsSpec)

/-- 'hourbooklaw22.MlogTurned', WHERE WHAT IT READS IS OF BULK AT MOST 1048576: true; the input reads as it did. -/
def mlogTurnedUptoRow : OpenClaim := { program := "ytmahadcohnhdkaadoor", sum := "df2fcd550a7589e789d55396c5896e04cb3ff6016f1674dda81f773fc85c4968", func := "hourbook/hourbooklaw22.MlogTurned", spec := "mlogTurned", unfollowed := true, recurses := true, named := ["hourbook/crc.half"], apart := false, laid := [("hourbook/crc.half", laid_hourbook_crc_half)], narrowed := true }
def MlogTurnedUptoSaid : Prop := mlogTurnedUptoRow.holds Tryd.pinned (OpenSpec.upto mlogTurnedSpec)

end Rows
end Go.Proofs.YtmahadcohnhdkaaDoor
