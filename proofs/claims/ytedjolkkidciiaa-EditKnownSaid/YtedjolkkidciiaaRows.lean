/-
  No cell of these rows narrows 'for every input' (looked for: loops, veiled, ifaces, maps, wideKeys, modest, calm, conditions, laid).
  DERIVED. THE GIVEN ROWS OF THIS SEAT. 6 by the template 'for every input the law returns true; each argument reads behind the call as it read before'; 0 by the template 'total and deterministic' (their statements: YtedjolkkidciiaaTotals.lean).
  GIVEN WITH THE SEED: the statements are not yours to turn. If you find one false, say at which input.
  Laid BY PROGRAM, IN A SANDBOX (cutbox-rows.mjs): the forced cells as the released guide's own fill.sh prints them over the translation 15b8e82dac409ef9… (all of the seat's roots in one cut). By AI agents, Wed Nov 11 2026. No macro, syntax, notation, axiom, sorry.
-/
import Derived.Test.YtedjolkkidciiaaChecked
import GoSem.Claim
import GoSem.ClaimJoined
import GoSem.ClaimMapViews
import Derived.JoinedTies
import Derived.KernelRfl
namespace Go.Proofs.Ytedjolkkidciiaa
/- THE CELL 'sum', in the pinned program and in every row, IS THE sha256 OF THE DUMP (.gsa) THAT YtedjolkkidciiaaProg.lean LOADS. Nothing in Lean hashes anything: it is a label: what it is worth is what the hold of that sum in a sandbox is worth. -/
noncomputable def Try.pinned : Pinned := { name := "ytedjolkkidciiaa", sum := "15b8e82dac409ef9535d4cbf64b2581ed34a31be5dd50144e0011a8508baf8a2", checked := Try.checked }
namespace Rows
def none {H : Type} : Left H := { results := [], args := [] }

/-- 'hourbooklaw09.EditReads': WHATEVER THE INPUT: true; the input reads as it did. -/
def editReadsSpec : ChangeSpec := { name := "editReads", fn := fun _ => fun
  | [d] => { results := [.lit (.bool true)], args := [d] }
  | _ => none }
def editReadsRow : OpenClaim := { program := "ytedjolkkidciiaa", sum := "15b8e82dac409ef9535d4cbf64b2581ed34a31be5dd50144e0011a8508baf8a2", func := "hourbook/hourbooklaw09.EditReads", spec := "editReads", unfollowed := true, recurses := true, apart := false }
def EditReadsSaid : Prop := editReadsRow.holds Try.pinned (OpenSpec.ofChange editReadsSpec)

/-- ITS FALSE NEIGHBOUR: 'it returns false'. Refute it at one input. -/
def editReadsWrong : ChangeSpec := { name := "editReads", fn := fun _ => fun
  | [d] => { results := [.lit (.bool false)], args := [d] }
  | _ => none }
def EditReadsWrongFalsely : Prop := editReadsRow.holds Try.pinned (OpenSpec.ofChange editReadsWrong)

/-- 'hourbooklaw09.EditSeals': WHATEVER THE INPUT: true; the input reads as it did. -/
def editSealsSpec : ChangeSpec := { name := "editSeals", fn := fun _ => fun
  | [d1, d2, d3] => { results := [.lit (.bool true)], args := [d1, d2, d3] }
  | _ => none }
def editSealsRow : OpenClaim := { program := "ytedjolkkidciiaa", sum := "15b8e82dac409ef9535d4cbf64b2581ed34a31be5dd50144e0011a8508baf8a2", func := "hourbook/hourbooklaw09.EditSeals", spec := "editSeals", unfollowed := true, recurses := true, apart := false }
def EditSealsSaid : Prop := editSealsRow.holds Try.pinned (OpenSpec.ofChange editSealsSpec)

/-- ITS FALSE NEIGHBOUR: 'it returns false'. Refute it at one input. -/
def editSealsWrong : ChangeSpec := { name := "editSeals", fn := fun _ => fun
  | [d1, d2, d3] => { results := [.lit (.bool false)], args := [d1, d2, d3] }
  | _ => none }
def EditSealsWrongFalsely : Prop := editSealsRow.holds Try.pinned (OpenSpec.ofChange editSealsWrong)

/-- 'hourbooklaw09.EditKnown': WHATEVER THE INPUT: true; the input reads as it did. -/
def editKnownSpec : ChangeSpec := { name := "editKnown", fn := fun _ => fun
  | [] => { results := [.lit (.bool true)], args := [] }
  | _ => none }
def editKnownRow : OpenClaim := { program := "ytedjolkkidciiaa", sum := "15b8e82dac409ef9535d4cbf64b2581ed34a31be5dd50144e0011a8508baf8a2", func := "hourbook/hourbooklaw09.EditKnown", spec := "editKnown", unfollowed := true, recurses := true, apart := false }
def EditKnownSaid : Prop := editKnownRow.holds Try.pinned (OpenSpec.ofChange editKnownSpec)

/-- ITS FALSE NEIGHBOUR: 'it returns false'. Refute it at one input. -/
def editKnownWrong : ChangeSpec := { name := "editKnown", fn := fun _ => fun
  | [] => { results := [.lit (.bool false)], args := [] }
  | _ => none }
def EditKnownWrongFalsely : Prop := editKnownRow.holds Try.pinned (OpenSpec.ofChange editKnownWrong)

/-- 'hourbooklaw09.EditCalls': WHATEVER THE INPUT: true; the input reads as it did. -/
def editCallsSpec : ChangeSpec := { name := "editCalls", fn := fun _ => fun
  | [d1, d2, d3] => { results := [.lit (.bool true)], args := [d1, d2, d3] }
  | _ => none }
def editCallsRow : OpenClaim := { program := "ytedjolkkidciiaa", sum := "15b8e82dac409ef9535d4cbf64b2581ed34a31be5dd50144e0011a8508baf8a2", func := "hourbook/hourbooklaw09.EditCalls", spec := "editCalls", unfollowed := true, recurses := true, apart := false }
def EditCallsSaid : Prop := editCallsRow.holds Try.pinned (OpenSpec.ofChange editCallsSpec)

/-- ITS FALSE NEIGHBOUR: 'it returns false'. Refute it at one input. -/
def editCallsWrong : ChangeSpec := { name := "editCalls", fn := fun _ => fun
  | [d1, d2, d3] => { results := [.lit (.bool false)], args := [d1, d2, d3] }
  | _ => none }
def EditCallsWrongFalsely : Prop := editCallsRow.holds Try.pinned (OpenSpec.ofChange editCallsWrong)

/-- 'hourbooklaw09.EditForm': WHATEVER THE INPUT: true; the input reads as it did. -/
def editFormSpec : ChangeSpec := { name := "editForm", fn := fun _ => fun
  | [d1, d2, d3] => { results := [.lit (.bool true)], args := [d1, d2, d3] }
  | _ => none }
def editFormRow : OpenClaim := { program := "ytedjolkkidciiaa", sum := "15b8e82dac409ef9535d4cbf64b2581ed34a31be5dd50144e0011a8508baf8a2", func := "hourbook/hourbooklaw09.EditForm", spec := "editForm", unfollowed := true, recurses := true, apart := false }
def EditFormSaid : Prop := editFormRow.holds Try.pinned (OpenSpec.ofChange editFormSpec)

/-- ITS FALSE NEIGHBOUR: 'it returns false'. Refute it at one input. -/
def editFormWrong : ChangeSpec := { name := "editForm", fn := fun _ => fun
  | [d1, d2, d3] => { results := [.lit (.bool false)], args := [d1, d2, d3] }
  | _ => none }
def EditFormWrongFalsely : Prop := editFormRow.holds Try.pinned (OpenSpec.ofChange editFormWrong)

/-- 'hourbooklaw09.EditApart': WHATEVER THE INPUT: true; the input reads as it did. -/
def editApartSpec : ChangeSpec := { name := "editApart", fn := fun _ => fun
  | [d1, d2] => { results := [.lit (.bool true)], args := [d1, d2] }
  | _ => none }
def editApartRow : OpenClaim := { program := "ytedjolkkidciiaa", sum := "15b8e82dac409ef9535d4cbf64b2581ed34a31be5dd50144e0011a8508baf8a2", func := "hourbook/hourbooklaw09.EditApart", spec := "editApart", unfollowed := true, recurses := true, apart := false }
def EditApartSaid : Prop := editApartRow.holds Try.pinned (OpenSpec.ofChange editApartSpec)

/-- ITS FALSE NEIGHBOUR: 'it returns false'. Refute it at one input. -/
def editApartWrong : ChangeSpec := { name := "editApart", fn := fun _ => fun
  | [d1, d2] => { results := [.lit (.bool false)], args := [d1, d2] }
  | _ => none }
def EditApartWrongFalsely : Prop := editApartRow.holds Try.pinned (OpenSpec.ofChange editApartWrong)

/- THE SECOND FORM. 'bulk': how many values and letters a reading holds, each counted each time it is reached (what is shared counts as often as it is met; a slice's spare places count too). A statement '..UptoSaid' is the law's where the arguments, and the package variables that the reading takes, are together of bulk at most 1048576: NARROWER than '..Said'. Prove '..Said' where nothing that the law and all that it calls make is longer than what came in: it says more and counts as full. Else prove '..UptoSaid'. A law counts once. -/
mutual
def uptoBulk {H : Type} : DataW H → Nat
  | .lit (.string bytes) => bytes.length + 1
  | .lit _ => 1
  | .nil => 1
  | .ptr d => uptoBulk d + 1
  | .slice elems spare => uptoBulkAll elems + uptoBulkAll spare + 1
  | .agg parts => uptoBulkAll parts + 1
  | .iface _ d => uptoBulk d + 1
  | .map entries => uptoBulkEntries entries + 1
  | .held _ => 1
def uptoBulkAll {H : Type} : List (DataW H) → Nat
  | [] => 0
  | d :: r => uptoBulk d + uptoBulkAll r
def uptoBulkEntries {H : Type} : List (Lit × DataW H) → Nat
  | [] => 0
  | x :: r => uptoBulkEntry x + uptoBulkEntries r
def uptoBulkEntry {H : Type} : Lit × DataW H → Nat
  | (.string bytes, d) => bytes.length + uptoBulk d + 1
  | (_, d) => uptoBulk d + 1
 end
def uptoSmall : (H : Type) → List (DataW H) → Bool := fun _ ds => decide (uptoBulkAll ds ≤ 1048576)
def OpenSpec.upto (s : _root_.Go.ChangeSpec) : _root_.Go.OpenSpec := { _root_.Go.OpenSpec.ofChange s with cond := some uptoSmall }

/-- 'hourbooklaw09.EditReads', WHERE WHAT IT READS IS OF BULK AT MOST 1048576: true; the input reads as it did. -/
def editReadsUptoRow : OpenClaim := { program := "ytedjolkkidciiaa", sum := "15b8e82dac409ef9535d4cbf64b2581ed34a31be5dd50144e0011a8508baf8a2", func := "hourbook/hourbooklaw09.EditReads", spec := "editReads", unfollowed := true, recurses := true, apart := false, narrowed := true }
def EditReadsUptoSaid : Prop := editReadsUptoRow.holds Try.pinned (OpenSpec.upto editReadsSpec)

/-- 'hourbooklaw09.EditSeals', WHERE WHAT IT READS IS OF BULK AT MOST 1048576: true; the input reads as it did. -/
def editSealsUptoRow : OpenClaim := { program := "ytedjolkkidciiaa", sum := "15b8e82dac409ef9535d4cbf64b2581ed34a31be5dd50144e0011a8508baf8a2", func := "hourbook/hourbooklaw09.EditSeals", spec := "editSeals", unfollowed := true, recurses := true, apart := false, narrowed := true }
def EditSealsUptoSaid : Prop := editSealsUptoRow.holds Try.pinned (OpenSpec.upto editSealsSpec)

/-- 'hourbooklaw09.EditKnown', WHERE WHAT IT READS IS OF BULK AT MOST 1048576: true; the input reads as it did. -/
def editKnownUptoRow : OpenClaim := { program := "ytedjolkkidciiaa", sum := "15b8e82dac409ef9535d4cbf64b2581ed34a31be5dd50144e0011a8508baf8a2", func := "hourbook/hourbooklaw09.EditKnown", spec := "editKnown", unfollowed := true, recurses := true, apart := false, narrowed := true }
def EditKnownUptoSaid : Prop := editKnownUptoRow.holds Try.pinned (OpenSpec.upto editKnownSpec)

/-- 'hourbooklaw09.EditCalls', WHERE WHAT IT READS IS OF BULK AT MOST 1048576: true; the input reads as it did. -/
def editCallsUptoRow : OpenClaim := { program := "ytedjolkkidciiaa", sum := "15b8e82dac409ef9535d4cbf64b2581ed34a31be5dd50144e0011a8508baf8a2", func := "hourbook/hourbooklaw09.EditCalls", spec := "editCalls", unfollowed := true, recurses := true, apart := false, narrowed := true }
def EditCallsUptoSaid : Prop := editCallsUptoRow.holds Try.pinned (OpenSpec.upto editCallsSpec)

/-- 'hourbooklaw09.EditForm', WHERE WHAT IT READS IS OF BULK AT MOST 1048576: true; the input reads as it did. -/
def editFormUptoRow : OpenClaim := { program := "ytedjolkkidciiaa", sum := "15b8e82dac409ef9535d4cbf64b2581ed34a31be5dd50144e0011a8508baf8a2", func := "hourbook/hourbooklaw09.EditForm", spec := "editForm", unfollowed := true, recurses := true, apart := false, narrowed := true }
def EditFormUptoSaid : Prop := editFormUptoRow.holds Try.pinned (OpenSpec.upto editFormSpec)

/-- 'hourbooklaw09.EditApart', WHERE WHAT IT READS IS OF BULK AT MOST 1048576: true; the input reads as it did. -/
def editApartUptoRow : OpenClaim := { program := "ytedjolkkidciiaa", sum := "15b8e82dac409ef9535d4cbf64b2581ed34a31be5dd50144e0011a8508baf8a2", func := "hourbook/hourbooklaw09.EditApart", spec := "editApart", unfollowed := true, recurses := true, apart := false, narrowed := true }
def EditApartUptoSaid : Prop := editApartUptoRow.holds Try.pinned (OpenSpec.upto editApartSpec)

end Rows
end Go.Proofs.Ytedjolkkidciiaa
