/-
  No cell of these rows narrows 'for every input' (looked for: loops, veiled, ifaces, maps, wideKeys, modest, calm, conditions, laid).
  DERIVED. THE GIVEN ROWS OF THIS SEAT. 5 by the template 'for every input the law returns true; each argument reads behind the call as it read before'; 0 by the template 'total and deterministic' (their statements: YticjecfbjmibaaaTotals.lean).
  GIVEN WITH THE SEED: the statements are not yours to turn. If you find one false, say at which input.
  Laid BY PROGRAM, IN A SANDBOX (cutbox-rows.mjs): the forced cells as the released guide's own fill.sh prints them over the translation 9eba2d5b8647e838… (all of the seat's roots in one cut). By AI agents, Wed Nov 11 2026. No macro, syntax, notation, axiom, sorry.
-/
import Derived.Test.YticjecfbjmibaaaChecked
import GoSem.Claim
import GoSem.ClaimJoined
import GoSem.ClaimMapViews
import Derived.JoinedTies
import Derived.KernelRfl
namespace Go.Proofs.Yticjecfbjmibaaa
/- THE CELL 'sum', in the pinned program and in every row, IS THE sha256 OF THE DUMP (.gsa) THAT YticjecfbjmibaaaProg.lean LOADS. Nothing in Lean hashes anything: it is a label: what it is worth is what the hold of that sum in a sandbox is worth. -/
noncomputable def Try.pinned : Pinned := { name := "yticjecfbjmibaaa", sum := "9eba2d5b8647e8384def276a336d125132828f182f868f2dce647b71fd5457c3", checked := Try.checked }
namespace Rows
def none {H : Type} : Left H := { results := [], args := [] }

/-- 'hourbooklaw04.KeyLong': WHATEVER THE INPUT: true; the input reads as it did. -/
def keyLongSpec : ChangeSpec := { name := "keyLong", fn := fun _ => fun
  | [d] => { results := [.lit (.bool true)], args := [d] }
  | _ => none }
def keyLongRow : OpenClaim := { program := "yticjecfbjmibaaa", sum := "9eba2d5b8647e8384def276a336d125132828f182f868f2dce647b71fd5457c3", func := "hourbook/hourbooklaw04.KeyLong", spec := "keyLong", inPlace := ["internal/bytealg.MakeNoZero"], plainKeys := false, apart := false }
def KeyLongSaid : Prop := keyLongRow.holds Try.pinned (OpenSpec.ofChange keyLongSpec)

/-- ITS FALSE NEIGHBOUR: 'it returns false'. Refute it at one input. -/
def keyLongWrong : ChangeSpec := { name := "keyLong", fn := fun _ => fun
  | [d] => { results := [.lit (.bool false)], args := [d] }
  | _ => none }
def KeyLongWrongFalsely : Prop := keyLongRow.holds Try.pinned (OpenSpec.ofChange keyLongWrong)

/-- 'hourbooklaw04.KeyOrder': WHATEVER THE INPUT: true; the input reads as it did. -/
def keyOrderSpec : ChangeSpec := { name := "keyOrder", fn := fun _ => fun
  | [d1, d2, d3, d4] => { results := [.lit (.bool true)], args := [d1, d2, d3, d4] }
  | _ => none }
def keyOrderRow : OpenClaim := { program := "yticjecfbjmibaaa", sum := "9eba2d5b8647e8384def276a336d125132828f182f868f2dce647b71fd5457c3", func := "hourbook/hourbooklaw04.KeyOrder", spec := "keyOrder", inPlace := ["internal/bytealg.Compare", "internal/bytealg.MakeNoZero"], unfollowed := true, recurses := true, plainKeys := false, apart := false }
def KeyOrderSaid : Prop := keyOrderRow.holds Try.pinned (OpenSpec.ofChange keyOrderSpec)

/-- ITS FALSE NEIGHBOUR: 'it returns false'. Refute it at one input. -/
def keyOrderWrong : ChangeSpec := { name := "keyOrder", fn := fun _ => fun
  | [d1, d2, d3, d4] => { results := [.lit (.bool false)], args := [d1, d2, d3, d4] }
  | _ => none }
def KeyOrderWrongFalsely : Prop := keyOrderRow.holds Try.pinned (OpenSpec.ofChange keyOrderWrong)

/-- 'hourbooklaw04.KeyHashes': WHATEVER THE INPUT: true; the input reads as it did. -/
def keyHashesSpec : ChangeSpec := { name := "keyHashes", fn := fun _ => fun
  | [d1, d2, d3, d4, d5] => { results := [.lit (.bool true)], args := [d1, d2, d3, d4, d5] }
  | _ => none }
def keyHashesRow : OpenClaim := { program := "yticjecfbjmibaaa", sum := "9eba2d5b8647e8384def276a336d125132828f182f868f2dce647b71fd5457c3", func := "hourbook/hourbooklaw04.KeyHashes", spec := "keyHashes", inPlace := ["internal/bytealg.MakeNoZero"], unfollowed := true, recurses := true, plainKeys := false, apart := false }
def KeyHashesSaid : Prop := keyHashesRow.holds Try.pinned (OpenSpec.ofChange keyHashesSpec)

/-- ITS FALSE NEIGHBOUR: 'it returns false'. Refute it at one input. -/
def keyHashesWrong : ChangeSpec := { name := "keyHashes", fn := fun _ => fun
  | [d1, d2, d3, d4, d5] => { results := [.lit (.bool false)], args := [d1, d2, d3, d4, d5] }
  | _ => none }
def KeyHashesWrongFalsely : Prop := keyHashesRow.holds Try.pinned (OpenSpec.ofChange keyHashesWrong)

/-- 'hourbooklaw04.KeyPrints': WHATEVER THE INPUT: true; the input reads as it did. -/
def keyPrintsSpec : ChangeSpec := { name := "keyPrints", fn := fun _ => fun
  | [d1, d2, d3] => { results := [.lit (.bool true)], args := [d1, d2, d3] }
  | _ => none }
def keyPrintsRow : OpenClaim := { program := "yticjecfbjmibaaa", sum := "9eba2d5b8647e8384def276a336d125132828f182f868f2dce647b71fd5457c3", func := "hourbook/hourbooklaw04.KeyPrints", spec := "keyPrints", inPlace := ["internal/bytealg.MakeNoZero"], unfollowed := true, recurses := true, plainKeys := false, apart := false }
def KeyPrintsSaid : Prop := keyPrintsRow.holds Try.pinned (OpenSpec.ofChange keyPrintsSpec)

/-- ITS FALSE NEIGHBOUR: 'it returns false'. Refute it at one input. -/
def keyPrintsWrong : ChangeSpec := { name := "keyPrints", fn := fun _ => fun
  | [d1, d2, d3] => { results := [.lit (.bool false)], args := [d1, d2, d3] }
  | _ => none }
def KeyPrintsWrongFalsely : Prop := keyPrintsRow.holds Try.pinned (OpenSpec.ofChange keyPrintsWrong)

/-- 'hourbooklaw04.KeyKnown': WHATEVER THE INPUT: true; the input reads as it did. -/
def keyKnownSpec : ChangeSpec := { name := "keyKnown", fn := fun _ => fun
  | [] => { results := [.lit (.bool true)], args := [] }
  | _ => none }
def keyKnownRow : OpenClaim := { program := "yticjecfbjmibaaa", sum := "9eba2d5b8647e8384def276a336d125132828f182f868f2dce647b71fd5457c3", func := "hourbook/hourbooklaw04.KeyKnown", spec := "keyKnown", inPlace := ["internal/bytealg.Compare", "internal/bytealg.MakeNoZero"], unfollowed := true, recurses := true, plainKeys := false, apart := false }
def KeyKnownSaid : Prop := keyKnownRow.holds Try.pinned (OpenSpec.ofChange keyKnownSpec)

/-- ITS FALSE NEIGHBOUR: 'it returns false'. Refute it at one input. -/
def keyKnownWrong : ChangeSpec := { name := "keyKnown", fn := fun _ => fun
  | [] => { results := [.lit (.bool false)], args := [] }
  | _ => none }
def KeyKnownWrongFalsely : Prop := keyKnownRow.holds Try.pinned (OpenSpec.ofChange keyKnownWrong)

/- THE SECOND FORM. 'bulk': how many values and letters a reading holds, each counted each time it is reached (what is shared counts as often as it is met; a slice's spare places count too). A statement '..UptoSaid' is the law's where the arguments, and the package variables that the reading takes, are together of bulk at most 1048576: NARROWER than '..Said'. Prove '..Said' where nothing that the law and all that it calls make is longer than what came in: it says more and counts as full. Else prove '..UptoSaid'. A law counts once. -/
mutual
def uptoBulk {H : Type} : DataW H → Nat
  | .lit (.string bytes) => bytes.length + 1
  | .lit _ => 1
  | .nil => 1
  | .ptr d => uptoBulk d + 1
  | .slice elems spare => uptoBulkAll elems + uptoBulkAll spare + 1
  | .agg parts => uptoBulkAll parts + 1
  | .iface _ d => uptoBulk d + 1
  | .map entries => uptoBulkEntries entries + 1
  | .held _ => 1
def uptoBulkAll {H : Type} : List (DataW H) → Nat
  | [] => 0
  | d :: r => uptoBulk d + uptoBulkAll r
def uptoBulkEntries {H : Type} : List (Lit × DataW H) → Nat
  | [] => 0
  | x :: r => uptoBulkEntry x + uptoBulkEntries r
def uptoBulkEntry {H : Type} : Lit × DataW H → Nat
  | (.string bytes, d) => bytes.length + uptoBulk d + 1
  | (_, d) => uptoBulk d + 1
 end
def uptoSmall : (H : Type) → List (DataW H) → Bool := fun _ ds => decide (uptoBulkAll ds ≤ 1048576)
def OpenSpec.upto (s : _root_.Go.ChangeSpec) : _root_.Go.OpenSpec := { _root_.Go.OpenSpec.ofChange s with cond := some uptoSmall }

/-- 'hourbooklaw04.KeyLong', WHERE WHAT IT READS IS OF BULK AT MOST 1048576: true; the input reads as it did. -/
def keyLongUptoRow : OpenClaim := { program := "yticjecfbjmibaaa", sum := "9eba2d5b8647e8384def276a336d125132828f182f868f2dce647b71fd5457c3", func := "hourbook/hourbooklaw04.KeyLong", spec := "keyLong", inPlace := ["internal/bytealg.MakeNoZero"], plainKeys := false, apart := false, narrowed := true }
def KeyLongUptoSaid : Prop := keyLongUptoRow.holds Try.pinned (OpenSpec.upto keyLongSpec)

/-- 'hourbooklaw04.KeyOrder', WHERE WHAT IT READS IS OF BULK AT MOST 1048576: true; the input reads as it did. -/
def keyOrderUptoRow : OpenClaim := { program := "yticjecfbjmibaaa", sum := "9eba2d5b8647e8384def276a336d125132828f182f868f2dce647b71fd5457c3", func := "hourbook/hourbooklaw04.KeyOrder", spec := "keyOrder", inPlace := ["internal/bytealg.Compare", "internal/bytealg.MakeNoZero"], unfollowed := true, recurses := true, plainKeys := false, apart := false, narrowed := true }
def KeyOrderUptoSaid : Prop := keyOrderUptoRow.holds Try.pinned (OpenSpec.upto keyOrderSpec)

/-- 'hourbooklaw04.KeyHashes', WHERE WHAT IT READS IS OF BULK AT MOST 1048576: true; the input reads as it did. -/
def keyHashesUptoRow : OpenClaim := { program := "yticjecfbjmibaaa", sum := "9eba2d5b8647e8384def276a336d125132828f182f868f2dce647b71fd5457c3", func := "hourbook/hourbooklaw04.KeyHashes", spec := "keyHashes", inPlace := ["internal/bytealg.MakeNoZero"], unfollowed := true, recurses := true, plainKeys := false, apart := false, narrowed := true }
def KeyHashesUptoSaid : Prop := keyHashesUptoRow.holds Try.pinned (OpenSpec.upto keyHashesSpec)

/-- 'hourbooklaw04.KeyPrints', WHERE WHAT IT READS IS OF BULK AT MOST 1048576: true; the input reads as it did. -/
def keyPrintsUptoRow : OpenClaim := { program := "yticjecfbjmibaaa", sum := "9eba2d5b8647e8384def276a336d125132828f182f868f2dce647b71fd5457c3", func := "hourbook/hourbooklaw04.KeyPrints", spec := "keyPrints", inPlace := ["internal/bytealg.MakeNoZero"], unfollowed := true, recurses := true, plainKeys := false, apart := false, narrowed := true }
def KeyPrintsUptoSaid : Prop := keyPrintsUptoRow.holds Try.pinned (OpenSpec.upto keyPrintsSpec)

/-- 'hourbooklaw04.KeyKnown', WHERE WHAT IT READS IS OF BULK AT MOST 1048576: true; the input reads as it did. -/
def keyKnownUptoRow : OpenClaim := { program := "yticjecfbjmibaaa", sum := "9eba2d5b8647e8384def276a336d125132828f182f868f2dce647b71fd5457c3", func := "hourbook/hourbooklaw04.KeyKnown", spec := "keyKnown", inPlace := ["internal/bytealg.Compare", "internal/bytealg.MakeNoZero"], unfollowed := true, recurses := true, plainKeys := false, apart := false, narrowed := true }
def KeyKnownUptoSaid : Prop := keyKnownUptoRow.holds Try.pinned (OpenSpec.upto keyKnownSpec)

end Rows
end Go.Proofs.Yticjecfbjmibaaa
