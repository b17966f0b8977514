/-
  No cell of these rows narrows 'for every input' (looked for: loops, veiled, ifaces, maps, wideKeys, modest, calm, conditions, laid).
  DERIVED. THE GIVEN ROWS OF THIS SEAT. 4 by the template 'for every input the law returns true; each argument reads behind the call as it read before'; 0 by the template 'total and deterministic' (their statements: YtnkkieiofpplgaaTotals.lean).
  GIVEN WITH THE SEED: the statements are not yours to turn. If you find one false, say at which input.
  Laid BY PROGRAM, IN A SANDBOX (cutbox-rows.mjs): the forced cells as the released guide's own fill.sh prints them over the translation 43217e0a0bb82e83… (all of the seat's roots in one cut). By AI agents, Wed Nov 11 2026. No macro, syntax, notation, axiom, sorry.
-/
import Derived.Test.YtnkkieiofpplgaaChecked
import GoSem.Claim
import GoSem.ClaimJoined
import GoSem.ClaimMapViews
import Derived.JoinedTies
import Derived.KernelRfl
namespace Go.Proofs.Ytnkkieiofpplgaa
/- THE CELL 'sum', in the pinned program and in every row, IS THE sha256 OF THE DUMP (.gsa) THAT YtnkkieiofpplgaaProg.lean LOADS. Nothing in Lean hashes anything: it is a label: what it is worth is what the hold of that sum in a sandbox is worth. -/
noncomputable def Try.pinned : Pinned := { name := "ytnkkieiofpplgaa", sum := "43217e0a0bb82e835839a40a62171c554cb1ccb60fc9cba1c152ed35357496dd", checked := Try.checked }
namespace Rows
def none {H : Type} : Left H := { results := [], args := [] }

/-- 'hourbooklaw18.LinkHeads': WHATEVER THE INPUT: true; the input reads as it did. -/
def linkHeadsSpec : ChangeSpec := { name := "linkHeads", fn := fun _ => fun
  | [d1, d2] => { results := [.lit (.bool true)], args := [d1, d2] }
  | _ => none }
def linkHeadsRow : OpenClaim := { program := "ytnkkieiofpplgaa", sum := "43217e0a0bb82e835839a40a62171c554cb1ccb60fc9cba1c152ed35357496dd", func := "hourbook/hourbooklaw18.LinkHeads", spec := "linkHeads", unfollowed := true, recurses := true, plainKeys := false, apart := false }
def LinkHeadsSaid : Prop := linkHeadsRow.holds Try.pinned (OpenSpec.ofChange linkHeadsSpec)

/-- ITS FALSE NEIGHBOUR: 'it returns false'. Refute it at one input. -/
def linkHeadsWrong : ChangeSpec := { name := "linkHeads", fn := fun _ => fun
  | [d1, d2] => { results := [.lit (.bool false)], args := [d1, d2] }
  | _ => none }
def LinkHeadsWrongFalsely : Prop := linkHeadsRow.holds Try.pinned (OpenSpec.ofChange linkHeadsWrong)

/-- 'hourbooklaw18.LinkChains': WHATEVER THE INPUT: true; the input reads as it did. -/
def linkChainsSpec : ChangeSpec := { name := "linkChains", fn := fun _ => fun
  | [d1, d2, d3] => { results := [.lit (.bool true)], args := [d1, d2, d3] }
  | _ => none }
def linkChainsRow : OpenClaim := { program := "ytnkkieiofpplgaa", sum := "43217e0a0bb82e835839a40a62171c554cb1ccb60fc9cba1c152ed35357496dd", func := "hourbook/hourbooklaw18.LinkChains", spec := "linkChains", inPlace := ["internal/bytealg.Compare"], unfollowed := true, recurses := true, plainKeys := false, apart := false }
def LinkChainsSaid : Prop := linkChainsRow.holds Try.pinned (OpenSpec.ofChange linkChainsSpec)

/-- ITS FALSE NEIGHBOUR: 'it returns false'. Refute it at one input. -/
def linkChainsWrong : ChangeSpec := { name := "linkChains", fn := fun _ => fun
  | [d1, d2, d3] => { results := [.lit (.bool false)], args := [d1, d2, d3] }
  | _ => none }
def LinkChainsWrongFalsely : Prop := linkChainsRow.holds Try.pinned (OpenSpec.ofChange linkChainsWrong)

/-- 'hourbooklaw18.LinkTells': WHATEVER THE INPUT: true; the input reads as it did. -/
def linkTellsSpec : ChangeSpec := { name := "linkTells", fn := fun _ => fun
  | [d1, d2] => { results := [.lit (.bool true)], args := [d1, d2] }
  | _ => none }
def linkTellsRow : OpenClaim := { program := "ytnkkieiofpplgaa", sum := "43217e0a0bb82e835839a40a62171c554cb1ccb60fc9cba1c152ed35357496dd", func := "hourbook/hourbooklaw18.LinkTells", spec := "linkTells", inPlace := ["internal/bytealg.Compare"], unfollowed := true, recurses := true, plainKeys := false, apart := false }
def LinkTellsSaid : Prop := linkTellsRow.holds Try.pinned (OpenSpec.ofChange linkTellsSpec)

/-- ITS FALSE NEIGHBOUR: 'it returns false'. Refute it at one input. -/
def linkTellsWrong : ChangeSpec := { name := "linkTells", fn := fun _ => fun
  | [d1, d2] => { results := [.lit (.bool false)], args := [d1, d2] }
  | _ => none }
def LinkTellsWrongFalsely : Prop := linkTellsRow.holds Try.pinned (OpenSpec.ofChange linkTellsWrong)

/-- 'hourbooklaw18.LinkKnown': WHATEVER THE INPUT: true; the input reads as it did. -/
def linkKnownSpec : ChangeSpec := { name := "linkKnown", fn := fun _ => fun
  | [] => { results := [.lit (.bool true)], args := [] }
  | _ => none }
def linkKnownRow : OpenClaim := { program := "ytnkkieiofpplgaa", sum := "43217e0a0bb82e835839a40a62171c554cb1ccb60fc9cba1c152ed35357496dd", func := "hourbook/hourbooklaw18.LinkKnown", spec := "linkKnown", inPlace := ["internal/bytealg.Compare"], unfollowed := true, recurses := true, plainKeys := false, apart := false }
def LinkKnownSaid : Prop := linkKnownRow.holds Try.pinned (OpenSpec.ofChange linkKnownSpec)

/-- ITS FALSE NEIGHBOUR: 'it returns false'. Refute it at one input. -/
def linkKnownWrong : ChangeSpec := { name := "linkKnown", fn := fun _ => fun
  | [] => { results := [.lit (.bool false)], args := [] }
  | _ => none }
def LinkKnownWrongFalsely : Prop := linkKnownRow.holds Try.pinned (OpenSpec.ofChange linkKnownWrong)

/- THE SECOND FORM. 'bulk': how many values and letters a reading holds, each counted each time it is reached (what is shared counts as often as it is met; a slice's spare places count too). A statement '..UptoSaid' is the law's where the arguments, and the package variables that the reading takes, are together of bulk at most 1048576: NARROWER than '..Said'. Prove '..Said' where nothing that the law and all that it calls make is longer than what came in: it says more and counts as full. Else prove '..UptoSaid'. A law counts once. -/
mutual
def uptoBulk {H : Type} : DataW H → Nat
  | .lit (.string bytes) => bytes.length + 1
  | .lit _ => 1
  | .nil => 1
  | .ptr d => uptoBulk d + 1
  | .slice elems spare => uptoBulkAll elems + uptoBulkAll spare + 1
  | .agg parts => uptoBulkAll parts + 1
  | .iface _ d => uptoBulk d + 1
  | .map entries => uptoBulkEntries entries + 1
  | .held _ => 1
def uptoBulkAll {H : Type} : List (DataW H) → Nat
  | [] => 0
  | d :: r => uptoBulk d + uptoBulkAll r
def uptoBulkEntries {H : Type} : List (Lit × DataW H) → Nat
  | [] => 0
  | x :: r => uptoBulkEntry x + uptoBulkEntries r
def uptoBulkEntry {H : Type} : Lit × DataW H → Nat
  | (.string bytes, d) => bytes.length + uptoBulk d + 1
  | (_, d) => uptoBulk d + 1
 end
def uptoSmall : (H : Type) → List (DataW H) → Bool := fun _ ds => decide (uptoBulkAll ds ≤ 1048576)
def OpenSpec.upto (s : _root_.Go.ChangeSpec) : _root_.Go.OpenSpec := { _root_.Go.OpenSpec.ofChange s with cond := some uptoSmall }

/-- 'hourbooklaw18.LinkHeads', WHERE WHAT IT READS IS OF BULK AT MOST 1048576: true; the input reads as it did. -/
def linkHeadsUptoRow : OpenClaim := { program := "ytnkkieiofpplgaa", sum := "43217e0a0bb82e835839a40a62171c554cb1ccb60fc9cba1c152ed35357496dd", func := "hourbook/hourbooklaw18.LinkHeads", spec := "linkHeads", unfollowed := true, recurses := true, plainKeys := false, apart := false, narrowed := true }
def LinkHeadsUptoSaid : Prop := linkHeadsUptoRow.holds Try.pinned (OpenSpec.upto linkHeadsSpec)

/-- 'hourbooklaw18.LinkChains', WHERE WHAT IT READS IS OF BULK AT MOST 1048576: true; the input reads as it did. -/
def linkChainsUptoRow : OpenClaim := { program := "ytnkkieiofpplgaa", sum := "43217e0a0bb82e835839a40a62171c554cb1ccb60fc9cba1c152ed35357496dd", func := "hourbook/hourbooklaw18.LinkChains", spec := "linkChains", inPlace := ["internal/bytealg.Compare"], unfollowed := true, recurses := true, plainKeys := false, apart := false, narrowed := true }
def LinkChainsUptoSaid : Prop := linkChainsUptoRow.holds Try.pinned (OpenSpec.upto linkChainsSpec)

/-- 'hourbooklaw18.LinkTells', WHERE WHAT IT READS IS OF BULK AT MOST 1048576: true; the input reads as it did. -/
def linkTellsUptoRow : OpenClaim := { program := "ytnkkieiofpplgaa", sum := "43217e0a0bb82e835839a40a62171c554cb1ccb60fc9cba1c152ed35357496dd", func := "hourbook/hourbooklaw18.LinkTells", spec := "linkTells", inPlace := ["internal/bytealg.Compare"], unfollowed := true, recurses := true, plainKeys := false, apart := false, narrowed := true }
def LinkTellsUptoSaid : Prop := linkTellsUptoRow.holds Try.pinned (OpenSpec.upto linkTellsSpec)

/-- 'hourbooklaw18.LinkKnown', WHERE WHAT IT READS IS OF BULK AT MOST 1048576: true; the input reads as it did. -/
def linkKnownUptoRow : OpenClaim := { program := "ytnkkieiofpplgaa", sum := "43217e0a0bb82e835839a40a62171c554cb1ccb60fc9cba1c152ed35357496dd", func := "hourbook/hourbooklaw18.LinkKnown", spec := "linkKnown", inPlace := ["internal/bytealg.Compare"], unfollowed := true, recurses := true, plainKeys := false, apart := false, narrowed := true }
def LinkKnownUptoSaid : Prop := linkKnownUptoRow.holds Try.pinned (OpenSpec.upto linkKnownSpec)

end Rows
end Go.Proofs.Ytnkkieiofpplgaa
