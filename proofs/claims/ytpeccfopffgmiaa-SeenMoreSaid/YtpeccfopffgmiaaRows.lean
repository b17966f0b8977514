/-
  No cell of these rows narrows 'for every input' (looked for: loops, veiled, ifaces, maps, wideKeys, modest, calm, conditions, laid).
  DERIVED. THE GIVEN ROWS OF THIS SEAT. 4 by the template 'for every input the law returns true; each argument reads behind the call as it read before'; 0 by the template 'total and deterministic' (their statements: YtpeccfopffgmiaaTotals.lean).
  GIVEN WITH THE SEED: the statements are not yours to turn. If you find one false, say at which input.
  Laid BY PROGRAM, IN A SANDBOX (cutbox-rows.mjs): the forced cells as the released guide's own fill.sh prints them over the translation 3f8103d5a03971ec… (all of the seat's roots in one cut). By AI agents, Wed Nov 11 2026. No macro, syntax, notation, axiom, sorry.
-/
import Derived.Test.YtpeccfopffgmiaaChecked
import GoSem.Claim
import GoSem.ClaimJoined
import GoSem.ClaimMapViews
import Derived.JoinedTies
import Derived.KernelRfl
namespace Go.Proofs.Ytpeccfopffgmiaa
/- THE CELL 'sum', in the pinned program and in every row, IS THE sha256 OF THE DUMP (.gsa) THAT YtpeccfopffgmiaaProg.lean LOADS. Nothing in Lean hashes anything: it is a label: what it is worth is what the hold of that sum in a sandbox is worth. -/
noncomputable def Try.pinned : Pinned := { name := "ytpeccfopffgmiaa", sum := "3f8103d5a03971ec94e0137848776e6f94a3980ff75321a4b4d92c0c218d8f36", checked := Try.checked }
namespace Rows
def none {H : Type} : Left H := { results := [], args := [] }

/-- 'hourbooklaw20.SeenTells': WHATEVER THE INPUT: true; the input reads as it did. -/
def seenTellsSpec : ChangeSpec := { name := "seenTells", fn := fun _ => fun
  | [d1, d2] => { results := [.lit (.bool true)], args := [d1, d2] }
  | _ => none }
def seenTellsRow : OpenClaim := { program := "ytpeccfopffgmiaa", sum := "3f8103d5a03971ec94e0137848776e6f94a3980ff75321a4b4d92c0c218d8f36", func := "hourbook/hourbooklaw20.SeenTells", spec := "seenTells", unfollowed := true, recurses := true, apart := false }
def SeenTellsSaid : Prop := seenTellsRow.holds Try.pinned (OpenSpec.ofChange seenTellsSpec)

/-- ITS FALSE NEIGHBOUR: 'it returns false'. Refute it at one input. -/
def seenTellsWrong : ChangeSpec := { name := "seenTells", fn := fun _ => fun
  | [d1, d2] => { results := [.lit (.bool false)], args := [d1, d2] }
  | _ => none }
def SeenTellsWrongFalsely : Prop := seenTellsRow.holds Try.pinned (OpenSpec.ofChange seenTellsWrong)

/-- 'hourbooklaw20.SeenSame': WHATEVER THE INPUT: true; the input reads as it did. -/
def seenSameSpec : ChangeSpec := { name := "seenSame", fn := fun _ => fun
  | [d1, d2] => { results := [.lit (.bool true)], args := [d1, d2] }
  | _ => none }
def seenSameRow : OpenClaim := { program := "ytpeccfopffgmiaa", sum := "3f8103d5a03971ec94e0137848776e6f94a3980ff75321a4b4d92c0c218d8f36", func := "hourbook/hourbooklaw20.SeenSame", spec := "seenSame", unfollowed := true, recurses := true, apart := false }
def SeenSameSaid : Prop := seenSameRow.holds Try.pinned (OpenSpec.ofChange seenSameSpec)

/-- ITS FALSE NEIGHBOUR: 'it returns false'. Refute it at one input. -/
def seenSameWrong : ChangeSpec := { name := "seenSame", fn := fun _ => fun
  | [d1, d2] => { results := [.lit (.bool false)], args := [d1, d2] }
  | _ => none }
def SeenSameWrongFalsely : Prop := seenSameRow.holds Try.pinned (OpenSpec.ofChange seenSameWrong)

/-- 'hourbooklaw20.SeenMore': WHATEVER THE INPUT: true; the input reads as it did. -/
def seenMoreSpec : ChangeSpec := { name := "seenMore", fn := fun _ => fun
  | [d1, d2, d3, d4] => { results := [.lit (.bool true)], args := [d1, d2, d3, d4] }
  | _ => none }
def seenMoreRow : OpenClaim := { program := "ytpeccfopffgmiaa", sum := "3f8103d5a03971ec94e0137848776e6f94a3980ff75321a4b4d92c0c218d8f36", func := "hourbook/hourbooklaw20.SeenMore", spec := "seenMore", unfollowed := true, recurses := true, apart := false }
def SeenMoreSaid : Prop := seenMoreRow.holds Try.pinned (OpenSpec.ofChange seenMoreSpec)

/-- ITS FALSE NEIGHBOUR: 'it returns false'. Refute it at one input. -/
def seenMoreWrong : ChangeSpec := { name := "seenMore", fn := fun _ => fun
  | [d1, d2, d3, d4] => { results := [.lit (.bool false)], args := [d1, d2, d3, d4] }
  | _ => none }
def SeenMoreWrongFalsely : Prop := seenMoreRow.holds Try.pinned (OpenSpec.ofChange seenMoreWrong)

/-- 'hourbooklaw20.SeenKnown': WHATEVER THE INPUT: true; the input reads as it did. -/
def seenKnownSpec : ChangeSpec := { name := "seenKnown", fn := fun _ => fun
  | [] => { results := [.lit (.bool true)], args := [] }
  | _ => none }
def seenKnownRow : OpenClaim := { program := "ytpeccfopffgmiaa", sum := "3f8103d5a03971ec94e0137848776e6f94a3980ff75321a4b4d92c0c218d8f36", func := "hourbook/hourbooklaw20.SeenKnown", spec := "seenKnown", unfollowed := true, recurses := true, apart := false }
def SeenKnownSaid : Prop := seenKnownRow.holds Try.pinned (OpenSpec.ofChange seenKnownSpec)

/-- ITS FALSE NEIGHBOUR: 'it returns false'. Refute it at one input. -/
def seenKnownWrong : ChangeSpec := { name := "seenKnown", fn := fun _ => fun
  | [] => { results := [.lit (.bool false)], args := [] }
  | _ => none }
def SeenKnownWrongFalsely : Prop := seenKnownRow.holds Try.pinned (OpenSpec.ofChange seenKnownWrong)

/- THE SECOND FORM. 'bulk': how many values and letters a reading holds, each counted each time it is reached (what is shared counts as often as it is met; a slice's spare places count too). A statement '..UptoSaid' is the law's where the arguments, and the package variables that the reading takes, are together of bulk at most 1048576: NARROWER than '..Said'. Prove '..Said' where nothing that the law and all that it calls make is longer than what came in: it says more and counts as full. Else prove '..UptoSaid'. A law counts once. -/
mutual
def uptoBulk {H : Type} : DataW H → Nat
  | .lit (.string bytes) => bytes.length + 1
  | .lit _ => 1
  | .nil => 1
  | .ptr d => uptoBulk d + 1
  | .slice elems spare => uptoBulkAll elems + uptoBulkAll spare + 1
  | .agg parts => uptoBulkAll parts + 1
  | .iface _ d => uptoBulk d + 1
  | .map entries => uptoBulkEntries entries + 1
  | .held _ => 1
def uptoBulkAll {H : Type} : List (DataW H) → Nat
  | [] => 0
  | d :: r => uptoBulk d + uptoBulkAll r
def uptoBulkEntries {H : Type} : List (Lit × DataW H) → Nat
  | [] => 0
  | x :: r => uptoBulkEntry x + uptoBulkEntries r
def uptoBulkEntry {H : Type} : Lit × DataW H → Nat
  | (.string bytes, d) => bytes.length + uptoBulk d + 1
  | (_, d) => uptoBulk d + 1
 end
def uptoSmall : (H : Type) → List (DataW H) → Bool := fun _ ds => decide (uptoBulkAll ds ≤ 1048576)
def OpenSpec.upto (s : _root_.Go.ChangeSpec) : _root_.Go.OpenSpec := { _root_.Go.OpenSpec.ofChange s with cond := some uptoSmall }

/-- 'hourbooklaw20.SeenTells', WHERE WHAT IT READS IS OF BULK AT MOST 1048576: true; the input reads as it did. -/
def seenTellsUptoRow : OpenClaim := { program := "ytpeccfopffgmiaa", sum := "3f8103d5a03971ec94e0137848776e6f94a3980ff75321a4b4d92c0c218d8f36", func := "hourbook/hourbooklaw20.SeenTells", spec := "seenTells", unfollowed := true, recurses := true, apart := false, narrowed := true }
def SeenTellsUptoSaid : Prop := seenTellsUptoRow.holds Try.pinned (OpenSpec.upto seenTellsSpec)

/-- 'hourbooklaw20.SeenSame', WHERE WHAT IT READS IS OF BULK AT MOST 1048576: true; the input reads as it did. -/
def seenSameUptoRow : OpenClaim := { program := "ytpeccfopffgmiaa", sum := "3f8103d5a03971ec94e0137848776e6f94a3980ff75321a4b4d92c0c218d8f36", func := "hourbook/hourbooklaw20.SeenSame", spec := "seenSame", unfollowed := true, recurses := true, apart := false, narrowed := true }
def SeenSameUptoSaid : Prop := seenSameUptoRow.holds Try.pinned (OpenSpec.upto seenSameSpec)

/-- 'hourbooklaw20.SeenMore', WHERE WHAT IT READS IS OF BULK AT MOST 1048576: true; the input reads as it did. -/
def seenMoreUptoRow : OpenClaim := { program := "ytpeccfopffgmiaa", sum := "3f8103d5a03971ec94e0137848776e6f94a3980ff75321a4b4d92c0c218d8f36", func := "hourbook/hourbooklaw20.SeenMore", spec := "seenMore", unfollowed := true, recurses := true, apart := false, narrowed := true }
def SeenMoreUptoSaid : Prop := seenMoreUptoRow.holds Try.pinned (OpenSpec.upto seenMoreSpec)

/-- 'hourbooklaw20.SeenKnown', WHERE WHAT IT READS IS OF BULK AT MOST 1048576: true; the input reads as it did. -/
def seenKnownUptoRow : OpenClaim := { program := "ytpeccfopffgmiaa", sum := "3f8103d5a03971ec94e0137848776e6f94a3980ff75321a4b4d92c0c218d8f36", func := "hourbook/hourbooklaw20.SeenKnown", spec := "seenKnown", unfollowed := true, recurses := true, apart := false, narrowed := true }
def SeenKnownUptoSaid : Prop := seenKnownUptoRow.holds Try.pinned (OpenSpec.upto seenKnownSpec)

end Rows
end Go.Proofs.Ytpeccfopffgmiaa
