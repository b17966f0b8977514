/-
  No cell of these rows narrows 'for every input' (looked for: loops, veiled, ifaces, maps, wideKeys, modest, calm, conditions, laid).
  DERIVED. THE GIVEN ROWS OF THIS SEAT. 6 by the template 'for every input the law returns true; each argument reads behind the call as it read before'; 0 by the template 'total and deterministic' (their statements: YtohddbehcfoecaaTotals.lean).
  GIVEN WITH THE SEED: the statements are not yours to turn. If you find one false, say at which input.
  Laid BY PROGRAM, IN A SANDBOX (cutbox-rows.mjs): the forced cells as the released guide's own fill.sh prints them over the translation 7c5a4ea2caee54f2… (all of the seat's roots in one cut). By AI agents, Wed Nov 11 2026. No macro, syntax, notation, axiom, sorry.
-/
import Derived.Test.YtohddbehcfoecaaChecked
import GoSem.Claim
import GoSem.ClaimJoined
import GoSem.ClaimMapViews
import Derived.JoinedTies
import Derived.KernelRfl
namespace Go.Proofs.Ytohddbehcfoecaa
/- THE CELL 'sum', in the pinned program and in every row, IS THE sha256 OF THE DUMP (.gsa) THAT YtohddbehcfoecaaProg.lean LOADS. Nothing in Lean hashes anything: it is a label: what it is worth is what the hold of that sum in a sandbox is worth. -/
noncomputable def Try.pinned : Pinned := { name := "ytohddbehcfoecaa", sum := "7c5a4ea2caee54f2bb1c91377dc0225f0a92b2f2e1ff2bb6248740264bafa0ed", checked := Try.checked }
namespace Rows
def none {H : Type} : Left H := { results := [], args := [] }

/-- 'hourbooklaw03.LocOrder': WHATEVER THE INPUT: true; the input reads as it did. -/
def locOrderSpec : ChangeSpec := { name := "locOrder", fn := fun _ => fun
  | [d1, d2] => { results := [.lit (.bool true)], args := [d1, d2] }
  | _ => none }
def locOrderRow : OpenClaim := { program := "ytohddbehcfoecaa", sum := "7c5a4ea2caee54f2bb1c91377dc0225f0a92b2f2e1ff2bb6248740264bafa0ed", func := "hourbook/hourbooklaw03.LocOrder", spec := "locOrder", inPlace := ["internal/bytealg.Compare"], plainKeys := false, apart := false }
def LocOrderSaid : Prop := locOrderRow.holds Try.pinned (OpenSpec.ofChange locOrderSpec)

/-- ITS FALSE NEIGHBOUR: 'it returns false'. Refute it at one input. -/
def locOrderWrong : ChangeSpec := { name := "locOrder", fn := fun _ => fun
  | [d1, d2] => { results := [.lit (.bool false)], args := [d1, d2] }
  | _ => none }
def LocOrderWrongFalsely : Prop := locOrderRow.holds Try.pinned (OpenSpec.ofChange locOrderWrong)

/-- 'hourbooklaw03.LocBack': WHATEVER THE INPUT: true; the input reads as it did. -/
def locBackSpec : ChangeSpec := { name := "locBack", fn := fun _ => fun
  | [d1, d2, d3] => { results := [.lit (.bool true)], args := [d1, d2, d3] }
  | _ => none }
def locBackRow : OpenClaim := { program := "ytohddbehcfoecaa", sum := "7c5a4ea2caee54f2bb1c91377dc0225f0a92b2f2e1ff2bb6248740264bafa0ed", func := "hourbook/hourbooklaw03.LocBack", spec := "locBack", plainKeys := false, apart := false }
def LocBackSaid : Prop := locBackRow.holds Try.pinned (OpenSpec.ofChange locBackSpec)

/-- ITS FALSE NEIGHBOUR: 'it returns false'. Refute it at one input. -/
def locBackWrong : ChangeSpec := { name := "locBack", fn := fun _ => fun
  | [d1, d2, d3] => { results := [.lit (.bool false)], args := [d1, d2, d3] }
  | _ => none }
def LocBackWrongFalsely : Prop := locBackRow.holds Try.pinned (OpenSpec.ofChange locBackWrong)

/-- 'hourbooklaw03.LocCalls': WHATEVER THE INPUT: true; the input reads as it did. -/
def locCallsSpec : ChangeSpec := { name := "locCalls", fn := fun _ => fun
  | [d1, d2, d3] => { results := [.lit (.bool true)], args := [d1, d2, d3] }
  | _ => none }
def locCallsRow : OpenClaim := { program := "ytohddbehcfoecaa", sum := "7c5a4ea2caee54f2bb1c91377dc0225f0a92b2f2e1ff2bb6248740264bafa0ed", func := "hourbook/hourbooklaw03.LocCalls", spec := "locCalls", plainKeys := false, apart := false }
def LocCallsSaid : Prop := locCallsRow.holds Try.pinned (OpenSpec.ofChange locCallsSpec)

/-- ITS FALSE NEIGHBOUR: 'it returns false'. Refute it at one input. -/
def locCallsWrong : ChangeSpec := { name := "locCalls", fn := fun _ => fun
  | [d1, d2, d3] => { results := [.lit (.bool false)], args := [d1, d2, d3] }
  | _ => none }
def LocCallsWrongFalsely : Prop := locCallsRow.holds Try.pinned (OpenSpec.ofChange locCallsWrong)

/-- 'hourbooklaw03.LocHas': WHATEVER THE INPUT: true; the input reads as it did. -/
def locHasSpec : ChangeSpec := { name := "locHas", fn := fun _ => fun
  | [d] => { results := [.lit (.bool true)], args := [d] }
  | _ => none }
def locHasRow : OpenClaim := { program := "ytohddbehcfoecaa", sum := "7c5a4ea2caee54f2bb1c91377dc0225f0a92b2f2e1ff2bb6248740264bafa0ed", func := "hourbook/hourbooklaw03.LocHas", spec := "locHas", unfollowed := true, recurses := true, plainKeys := false, apart := false }
def LocHasSaid : Prop := locHasRow.holds Try.pinned (OpenSpec.ofChange locHasSpec)

/-- ITS FALSE NEIGHBOUR: 'it returns false'. Refute it at one input. -/
def locHasWrong : ChangeSpec := { name := "locHas", fn := fun _ => fun
  | [d] => { results := [.lit (.bool false)], args := [d] }
  | _ => none }
def LocHasWrongFalsely : Prop := locHasRow.holds Try.pinned (OpenSpec.ofChange locHasWrong)

/-- 'hourbooklaw03.LocSets': WHATEVER THE INPUT: true; the input reads as it did. -/
def locSetsSpec : ChangeSpec := { name := "locSets", fn := fun _ => fun
  | [d] => { results := [.lit (.bool true)], args := [d] }
  | _ => none }
def locSetsRow : OpenClaim := { program := "ytohddbehcfoecaa", sum := "7c5a4ea2caee54f2bb1c91377dc0225f0a92b2f2e1ff2bb6248740264bafa0ed", func := "hourbook/hourbooklaw03.LocSets", spec := "locSets", inPlace := ["maps.clone"], unfollowed := true, recurses := true, plainKeys := false, apart := false }
def LocSetsSaid : Prop := locSetsRow.holds Try.pinned (OpenSpec.ofChange locSetsSpec)

/-- ITS FALSE NEIGHBOUR: 'it returns false'. Refute it at one input. -/
def locSetsWrong : ChangeSpec := { name := "locSets", fn := fun _ => fun
  | [d] => { results := [.lit (.bool false)], args := [d] }
  | _ => none }
def LocSetsWrongFalsely : Prop := locSetsRow.holds Try.pinned (OpenSpec.ofChange locSetsWrong)

/-- 'hourbooklaw03.LocKnown': WHATEVER THE INPUT: true; the input reads as it did. -/
def locKnownSpec : ChangeSpec := { name := "locKnown", fn := fun _ => fun
  | [] => { results := [.lit (.bool true)], args := [] }
  | _ => none }
def locKnownRow : OpenClaim := { program := "ytohddbehcfoecaa", sum := "7c5a4ea2caee54f2bb1c91377dc0225f0a92b2f2e1ff2bb6248740264bafa0ed", func := "hourbook/hourbooklaw03.LocKnown", spec := "locKnown", inPlace := ["maps.clone"], unfollowed := true, recurses := true, plainKeys := false, apart := false }
def LocKnownSaid : Prop := locKnownRow.holds Try.pinned (OpenSpec.ofChange locKnownSpec)

/-- ITS FALSE NEIGHBOUR: 'it returns false'. Refute it at one input. -/
def locKnownWrong : ChangeSpec := { name := "locKnown", fn := fun _ => fun
  | [] => { results := [.lit (.bool false)], args := [] }
  | _ => none }
def LocKnownWrongFalsely : Prop := locKnownRow.holds Try.pinned (OpenSpec.ofChange locKnownWrong)

/- THE SECOND FORM. 'bulk': how many values and letters a reading holds, each counted each time it is reached (what is shared counts as often as it is met; a slice's spare places count too). A statement '..UptoSaid' is the law's where the arguments, and the package variables that the reading takes, are together of bulk at most 1048576: NARROWER than '..Said'. Prove '..Said' where nothing that the law and all that it calls make is longer than what came in: it says more and counts as full. Else prove '..UptoSaid'. A law counts once. -/
mutual
def uptoBulk {H : Type} : DataW H → Nat
  | .lit (.string bytes) => bytes.length + 1
  | .lit _ => 1
  | .nil => 1
  | .ptr d => uptoBulk d + 1
  | .slice elems spare => uptoBulkAll elems + uptoBulkAll spare + 1
  | .agg parts => uptoBulkAll parts + 1
  | .iface _ d => uptoBulk d + 1
  | .map entries => uptoBulkEntries entries + 1
  | .held _ => 1
def uptoBulkAll {H : Type} : List (DataW H) → Nat
  | [] => 0
  | d :: r => uptoBulk d + uptoBulkAll r
def uptoBulkEntries {H : Type} : List (Lit × DataW H) → Nat
  | [] => 0
  | x :: r => uptoBulkEntry x + uptoBulkEntries r
def uptoBulkEntry {H : Type} : Lit × DataW H → Nat
  | (.string bytes, d) => bytes.length + uptoBulk d + 1
  | (_, d) => uptoBulk d + 1
 end
def uptoSmall : (H : Type) → List (DataW H) → Bool := fun _ ds => decide (uptoBulkAll ds ≤ 1048576)
def OpenSpec.upto (s : _root_.Go.ChangeSpec) : _root_.Go.OpenSpec := { _root_.Go.OpenSpec.ofChange s with cond := some uptoSmall }

/-- 'hourbooklaw03.LocOrder', WHERE WHAT IT READS IS OF BULK AT MOST 1048576: true; the input reads as it did. -/
def locOrderUptoRow : OpenClaim := { program := "ytohddbehcfoecaa", sum := "7c5a4ea2caee54f2bb1c91377dc0225f0a92b2f2e1ff2bb6248740264bafa0ed", func := "hourbook/hourbooklaw03.LocOrder", spec := "locOrder", inPlace := ["internal/bytealg.Compare"], plainKeys := false, apart := false, narrowed := true }
def LocOrderUptoSaid : Prop := locOrderUptoRow.holds Try.pinned (OpenSpec.upto locOrderSpec)

/-- 'hourbooklaw03.LocBack', WHERE WHAT IT READS IS OF BULK AT MOST 1048576: true; the input reads as it did. -/
def locBackUptoRow : OpenClaim := { program := "ytohddbehcfoecaa", sum := "7c5a4ea2caee54f2bb1c91377dc0225f0a92b2f2e1ff2bb6248740264bafa0ed", func := "hourbook/hourbooklaw03.LocBack", spec := "locBack", plainKeys := false, apart := false, narrowed := true }
def LocBackUptoSaid : Prop := locBackUptoRow.holds Try.pinned (OpenSpec.upto locBackSpec)

/-- 'hourbooklaw03.LocCalls', WHERE WHAT IT READS IS OF BULK AT MOST 1048576: true; the input reads as it did. -/
def locCallsUptoRow : OpenClaim := { program := "ytohddbehcfoecaa", sum := "7c5a4ea2caee54f2bb1c91377dc0225f0a92b2f2e1ff2bb6248740264bafa0ed", func := "hourbook/hourbooklaw03.LocCalls", spec := "locCalls", plainKeys := false, apart := false, narrowed := true }
def LocCallsUptoSaid : Prop := locCallsUptoRow.holds Try.pinned (OpenSpec.upto locCallsSpec)

/-- 'hourbooklaw03.LocHas', WHERE WHAT IT READS IS OF BULK AT MOST 1048576: true; the input reads as it did. -/
def locHasUptoRow : OpenClaim := { program := "ytohddbehcfoecaa", sum := "7c5a4ea2caee54f2bb1c91377dc0225f0a92b2f2e1ff2bb6248740264bafa0ed", func := "hourbook/hourbooklaw03.LocHas", spec := "locHas", unfollowed := true, recurses := true, plainKeys := false, apart := false, narrowed := true }
def LocHasUptoSaid : Prop := locHasUptoRow.holds Try.pinned (OpenSpec.upto locHasSpec)

/-- 'hourbooklaw03.LocSets', WHERE WHAT IT READS IS OF BULK AT MOST 1048576: true; the input reads as it did. -/
def locSetsUptoRow : OpenClaim := { program := "ytohddbehcfoecaa", sum := "7c5a4ea2caee54f2bb1c91377dc0225f0a92b2f2e1ff2bb6248740264bafa0ed", func := "hourbook/hourbooklaw03.LocSets", spec := "locSets", inPlace := ["maps.clone"], unfollowed := true, recurses := true, plainKeys := false, apart := false, narrowed := true }
def LocSetsUptoSaid : Prop := locSetsUptoRow.holds Try.pinned (OpenSpec.upto locSetsSpec)

/-- 'hourbooklaw03.LocKnown', WHERE WHAT IT READS IS OF BULK AT MOST 1048576: true; the input reads as it did. -/
def locKnownUptoRow : OpenClaim := { program := "ytohddbehcfoecaa", sum := "7c5a4ea2caee54f2bb1c91377dc0225f0a92b2f2e1ff2bb6248740264bafa0ed", func := "hourbook/hourbooklaw03.LocKnown", spec := "locKnown", inPlace := ["maps.clone"], unfollowed := true, recurses := true, plainKeys := false, apart := false, narrowed := true }
def LocKnownUptoSaid : Prop := locKnownUptoRow.holds Try.pinned (OpenSpec.upto locKnownSpec)

end Rows
end Go.Proofs.Ytohddbehcfoecaa
