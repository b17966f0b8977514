/-
  No cell of these rows narrows 'for every input' (looked for: loops, veiled, ifaces, maps, wideKeys, modest, calm, conditions, laid).
  DERIVED. THE GIVEN ROWS OF THIS SEAT. 6 by the template 'for every input the law returns true; each argument reads behind the call as it read before'; 0 by the template 'total and deterministic' (their statements: YtbhkhlloomiafaaTotals.lean).
  GIVEN WITH THE SEED: the statements are not yours to turn. If you find one false, say at which input.
  Laid BY PROGRAM, IN A SANDBOX (cutbox-rows.mjs): the forced cells as the released guide's own fill.sh prints them over the translation 1af3c645761d9cea… (all of the seat's roots in one cut). By AI agents, Wed Nov 11 2026. No macro, syntax, notation, axiom, sorry.
-/
import Derived.Test.YtbhkhlloomiafaaChecked
import GoSem.Claim
import GoSem.ClaimJoined
import GoSem.ClaimMapViews
import Derived.JoinedTies
import Derived.KernelRfl
namespace Go.Proofs.Ytbhkhlloomiafaa
/- THE CELL 'sum', in the pinned program and in every row, IS THE sha256 OF THE DUMP (.gsa) THAT YtbhkhlloomiafaaProg.lean LOADS. Nothing in Lean hashes anything: it is a label: what it is worth is what the hold of that sum in a sandbox is worth. -/
noncomputable def Try.pinned : Pinned := { name := "ytbhkhlloomiafaa", sum := "1af3c645761d9ceadb0050672d71bb9007d0e77da43f29b3f230f579c90c05be", checked := Try.checked }
namespace Rows
def none {H : Type} : Left H := { results := [], args := [] }

/-- 'hourbooklaw01.PrefixBack': WHATEVER THE INPUT: true; the input reads as it did. -/
def prefixBackSpec : ChangeSpec := { name := "prefixBack", fn := fun _ => fun
  | [d1, d2, d3] => { results := [.lit (.bool true)], args := [d1, d2, d3] }
  | _ => none }
def prefixBackRow : OpenClaim := { program := "ytbhkhlloomiafaa", sum := "1af3c645761d9ceadb0050672d71bb9007d0e77da43f29b3f230f579c90c05be", func := "hourbook/hourbooklaw01.PrefixBack", spec := "prefixBack", apart := false }
def PrefixBackSaid : Prop := prefixBackRow.holds Try.pinned (OpenSpec.ofChange prefixBackSpec)

/-- ITS FALSE NEIGHBOUR: 'it returns false'. Refute it at one input. -/
def prefixBackWrong : ChangeSpec := { name := "prefixBack", fn := fun _ => fun
  | [d1, d2, d3] => { results := [.lit (.bool false)], args := [d1, d2, d3] }
  | _ => none }
def PrefixBackWrongFalsely : Prop := prefixBackRow.holds Try.pinned (OpenSpec.ofChange prefixBackWrong)

/-- 'hourbooklaw01.PrefixFolds': WHATEVER THE INPUT: true; the input reads as it did. -/
def prefixFoldsSpec : ChangeSpec := { name := "prefixFolds", fn := fun _ => fun
  | [d1, d2, d3] => { results := [.lit (.bool true)], args := [d1, d2, d3] }
  | _ => none }
def prefixFoldsRow : OpenClaim := { program := "ytbhkhlloomiafaa", sum := "1af3c645761d9ceadb0050672d71bb9007d0e77da43f29b3f230f579c90c05be", func := "hourbook/hourbooklaw01.PrefixFolds", spec := "prefixFolds", unfollowed := true, recurses := true, apart := false }
def PrefixFoldsSaid : Prop := prefixFoldsRow.holds Try.pinned (OpenSpec.ofChange prefixFoldsSpec)

/-- ITS FALSE NEIGHBOUR: 'it returns false'. Refute it at one input. -/
def prefixFoldsWrong : ChangeSpec := { name := "prefixFolds", fn := fun _ => fun
  | [d1, d2, d3] => { results := [.lit (.bool false)], args := [d1, d2, d3] }
  | _ => none }
def PrefixFoldsWrongFalsely : Prop := prefixFoldsRow.holds Try.pinned (OpenSpec.ofChange prefixFoldsWrong)

/-- 'hourbooklaw01.PrefixOrder': WHATEVER THE INPUT: true; the input reads as it did. -/
def prefixOrderSpec : ChangeSpec := { name := "prefixOrder", fn := fun _ => fun
  | [d1, d2] => { results := [.lit (.bool true)], args := [d1, d2] }
  | _ => none }
def prefixOrderRow : OpenClaim := { program := "ytbhkhlloomiafaa", sum := "1af3c645761d9ceadb0050672d71bb9007d0e77da43f29b3f230f579c90c05be", func := "hourbook/hourbooklaw01.PrefixOrder", spec := "prefixOrder", inPlace := ["internal/bytealg.Compare"], apart := false }
def PrefixOrderSaid : Prop := prefixOrderRow.holds Try.pinned (OpenSpec.ofChange prefixOrderSpec)

/-- ITS FALSE NEIGHBOUR: 'it returns false'. Refute it at one input. -/
def prefixOrderWrong : ChangeSpec := { name := "prefixOrder", fn := fun _ => fun
  | [d1, d2] => { results := [.lit (.bool false)], args := [d1, d2] }
  | _ => none }
def PrefixOrderWrongFalsely : Prop := prefixOrderRow.holds Try.pinned (OpenSpec.ofChange prefixOrderWrong)

/-- 'hourbooklaw01.PrefixFixed': WHATEVER THE INPUT: true; the input reads as it did. -/
def prefixFixedSpec : ChangeSpec := { name := "prefixFixed", fn := fun _ => fun
  | [d1, d2, d3] => { results := [.lit (.bool true)], args := [d1, d2, d3] }
  | _ => none }
def prefixFixedRow : OpenClaim := { program := "ytbhkhlloomiafaa", sum := "1af3c645761d9ceadb0050672d71bb9007d0e77da43f29b3f230f579c90c05be", func := "hourbook/hourbooklaw01.PrefixFixed", spec := "prefixFixed", apart := false }
def PrefixFixedSaid : Prop := prefixFixedRow.holds Try.pinned (OpenSpec.ofChange prefixFixedSpec)

/-- ITS FALSE NEIGHBOUR: 'it returns false'. Refute it at one input. -/
def prefixFixedWrong : ChangeSpec := { name := "prefixFixed", fn := fun _ => fun
  | [d1, d2, d3] => { results := [.lit (.bool false)], args := [d1, d2, d3] }
  | _ => none }
def PrefixFixedWrongFalsely : Prop := prefixFixedRow.holds Try.pinned (OpenSpec.ofChange prefixFixedWrong)

/-- 'hourbooklaw01.PrefixCalls': WHATEVER THE INPUT: true; the input reads as it did. -/
def prefixCallsSpec : ChangeSpec := { name := "prefixCalls", fn := fun _ => fun
  | [d1, d2, d3] => { results := [.lit (.bool true)], args := [d1, d2, d3] }
  | _ => none }
def prefixCallsRow : OpenClaim := { program := "ytbhkhlloomiafaa", sum := "1af3c645761d9ceadb0050672d71bb9007d0e77da43f29b3f230f579c90c05be", func := "hourbook/hourbooklaw01.PrefixCalls", spec := "prefixCalls", apart := false }
def PrefixCallsSaid : Prop := prefixCallsRow.holds Try.pinned (OpenSpec.ofChange prefixCallsSpec)

/-- ITS FALSE NEIGHBOUR: 'it returns false'. Refute it at one input. -/
def prefixCallsWrong : ChangeSpec := { name := "prefixCalls", fn := fun _ => fun
  | [d1, d2, d3] => { results := [.lit (.bool false)], args := [d1, d2, d3] }
  | _ => none }
def PrefixCallsWrongFalsely : Prop := prefixCallsRow.holds Try.pinned (OpenSpec.ofChange prefixCallsWrong)

/-- 'hourbooklaw01.PrefixKnown': WHATEVER THE INPUT: true; the input reads as it did. -/
def prefixKnownSpec : ChangeSpec := { name := "prefixKnown", fn := fun _ => fun
  | [] => { results := [.lit (.bool true)], args := [] }
  | _ => none }
def prefixKnownRow : OpenClaim := { program := "ytbhkhlloomiafaa", sum := "1af3c645761d9ceadb0050672d71bb9007d0e77da43f29b3f230f579c90c05be", func := "hourbook/hourbooklaw01.PrefixKnown", spec := "prefixKnown", apart := false }
def PrefixKnownSaid : Prop := prefixKnownRow.holds Try.pinned (OpenSpec.ofChange prefixKnownSpec)

/-- ITS FALSE NEIGHBOUR: 'it returns false'. Refute it at one input. -/
def prefixKnownWrong : ChangeSpec := { name := "prefixKnown", fn := fun _ => fun
  | [] => { results := [.lit (.bool false)], args := [] }
  | _ => none }
def PrefixKnownWrongFalsely : Prop := prefixKnownRow.holds Try.pinned (OpenSpec.ofChange prefixKnownWrong)

/- THE SECOND FORM. 'bulk': how many values and letters a reading holds, each counted each time it is reached (what is shared counts as often as it is met; a slice's spare places count too). A statement '..UptoSaid' is the law's where the arguments, and the package variables that the reading takes, are together of bulk at most 1048576: NARROWER than '..Said'. Prove '..Said' where nothing that the law and all that it calls make is longer than what came in: it says more and counts as full. Else prove '..UptoSaid'. A law counts once. -/
mutual
def uptoBulk {H : Type} : DataW H → Nat
  | .lit (.string bytes) => bytes.length + 1
  | .lit _ => 1
  | .nil => 1
  | .ptr d => uptoBulk d + 1
  | .slice elems spare => uptoBulkAll elems + uptoBulkAll spare + 1
  | .agg parts => uptoBulkAll parts + 1
  | .iface _ d => uptoBulk d + 1
  | .map entries => uptoBulkEntries entries + 1
  | .held _ => 1
def uptoBulkAll {H : Type} : List (DataW H) → Nat
  | [] => 0
  | d :: r => uptoBulk d + uptoBulkAll r
def uptoBulkEntries {H : Type} : List (Lit × DataW H) → Nat
  | [] => 0
  | x :: r => uptoBulkEntry x + uptoBulkEntries r
def uptoBulkEntry {H : Type} : Lit × DataW H → Nat
  | (.string bytes, d) => bytes.length + uptoBulk d + 1
  | (_, d) => uptoBulk d + 1
 end
def uptoSmall : (H : Type) → List (DataW H) → Bool := fun _ ds => decide (uptoBulkAll ds ≤ 1048576)
def OpenSpec.upto (s : _root_.Go.ChangeSpec) : _root_.Go.OpenSpec := { _root_.Go.OpenSpec.ofChange s with cond := some uptoSmall }

/-- 'hourbooklaw01.PrefixBack', WHERE WHAT IT READS IS OF BULK AT MOST 1048576: true; the input reads as it did. -/
def prefixBackUptoRow : OpenClaim := { program := "ytbhkhlloomiafaa", sum := "1af3c645761d9ceadb0050672d71bb9007d0e77da43f29b3f230f579c90c05be", func := "hourbook/hourbooklaw01.PrefixBack", spec := "prefixBack", apart := false, narrowed := true }
def PrefixBackUptoSaid : Prop := prefixBackUptoRow.holds Try.pinned (OpenSpec.upto prefixBackSpec)

/-- 'hourbooklaw01.PrefixFolds', WHERE WHAT IT READS IS OF BULK AT MOST 1048576: true; the input reads as it did. -/
def prefixFoldsUptoRow : OpenClaim := { program := "ytbhkhlloomiafaa", sum := "1af3c645761d9ceadb0050672d71bb9007d0e77da43f29b3f230f579c90c05be", func := "hourbook/hourbooklaw01.PrefixFolds", spec := "prefixFolds", unfollowed := true, recurses := true, apart := false, narrowed := true }
def PrefixFoldsUptoSaid : Prop := prefixFoldsUptoRow.holds Try.pinned (OpenSpec.upto prefixFoldsSpec)

/-- 'hourbooklaw01.PrefixOrder', WHERE WHAT IT READS IS OF BULK AT MOST 1048576: true; the input reads as it did. -/
def prefixOrderUptoRow : OpenClaim := { program := "ytbhkhlloomiafaa", sum := "1af3c645761d9ceadb0050672d71bb9007d0e77da43f29b3f230f579c90c05be", func := "hourbook/hourbooklaw01.PrefixOrder", spec := "prefixOrder", inPlace := ["internal/bytealg.Compare"], apart := false, narrowed := true }
def PrefixOrderUptoSaid : Prop := prefixOrderUptoRow.holds Try.pinned (OpenSpec.upto prefixOrderSpec)

/-- 'hourbooklaw01.PrefixFixed', WHERE WHAT IT READS IS OF BULK AT MOST 1048576: true; the input reads as it did. -/
def prefixFixedUptoRow : OpenClaim := { program := "ytbhkhlloomiafaa", sum := "1af3c645761d9ceadb0050672d71bb9007d0e77da43f29b3f230f579c90c05be", func := "hourbook/hourbooklaw01.PrefixFixed", spec := "prefixFixed", apart := false, narrowed := true }
def PrefixFixedUptoSaid : Prop := prefixFixedUptoRow.holds Try.pinned (OpenSpec.upto prefixFixedSpec)

/-- 'hourbooklaw01.PrefixCalls', WHERE WHAT IT READS IS OF BULK AT MOST 1048576: true; the input reads as it did. -/
def prefixCallsUptoRow : OpenClaim := { program := "ytbhkhlloomiafaa", sum := "1af3c645761d9ceadb0050672d71bb9007d0e77da43f29b3f230f579c90c05be", func := "hourbook/hourbooklaw01.PrefixCalls", spec := "prefixCalls", apart := false, narrowed := true }
def PrefixCallsUptoSaid : Prop := prefixCallsUptoRow.holds Try.pinned (OpenSpec.upto prefixCallsSpec)

/-- 'hourbooklaw01.PrefixKnown', WHERE WHAT IT READS IS OF BULK AT MOST 1048576: true; the input reads as it did. -/
def prefixKnownUptoRow : OpenClaim := { program := "ytbhkhlloomiafaa", sum := "1af3c645761d9ceadb0050672d71bb9007d0e77da43f29b3f230f579c90c05be", func := "hourbook/hourbooklaw01.PrefixKnown", spec := "prefixKnown", apart := false, narrowed := true }
def PrefixKnownUptoSaid : Prop := prefixKnownUptoRow.holds Try.pinned (OpenSpec.upto prefixKnownSpec)

end Rows
end Go.Proofs.Ytbhkhlloomiafaa
