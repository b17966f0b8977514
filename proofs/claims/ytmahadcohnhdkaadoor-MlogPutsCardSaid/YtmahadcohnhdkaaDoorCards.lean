/-
  DERIVED. GIVEN WITH THE SEED: THE CARDS: each row of YtmahadcohnhdkaaDoorRows.lean that lists a variable, with what it lists TIED to the program's text (the seventh form; the later family's looks); each row that meets fmt, with fmt's text TOLD by the authors' own Lean function (tested against real Go, not proved from fmt's source: count such statements apart). THE CARD IS WHAT COUNTS. Prove the row's statement (the work); the ties are given (YtmahadcohnhdkaaDoorTie.lean); close each card by the builder's one call (the guide's Derived/Test/ToyasCard.lean, 'card_holds'). Laid BY PROGRAM, IN A SANDBOX (cutbox-door.mjs). By AI agents, Wed Nov 11 2026. No macro, syntax, notation, axiom, sorry.
-/
import Derived.Test.YtmahadcohnhdkaaDoorRows
import GoSem.ClaimSeven
namespace Go.Proofs.YtmahadcohnhdkaaDoor
namespace Rows

/-- THE TIED CARD OF 'hourbooklaw22.MlogPuts'. -/
def mlogPutsCard : Claim7 := { stood := { row := mlogPutsRow, standIns := [], harness := (true, "8c4433496e908610dc21db1022dc00e8f9889dcf80a4c04afee77ee20f12592e"), looks := true }, kinds := [], alts := [], laidByText := true, laidKinds := [.data], laidTests := true, laidLooks := .later }
def MlogPutsCardSaid : Prop := Claim7.holds Tryd.pinned (.plain (OpenSpec.ofChange mlogPutsSpec)) mlogPutsCard

/-- THE TIED CARD OF 'hourbooklaw22.MlogKnown'. -/
def mlogKnownCard : Claim7 := { stood := { row := mlogKnownRow, standIns := [], harness := (true, "8c4433496e908610dc21db1022dc00e8f9889dcf80a4c04afee77ee20f12592e"), looks := true }, kinds := [], alts := [], laidByText := true, laidKinds := [.data], laidTests := true, laidLooks := .later }
def MlogKnownCardSaid : Prop := Claim7.holds Tryd.pinned (.plain (OpenSpec.ofChange mlogKnownSpec)) mlogKnownCard

/-- THE TIED CARD OF 'hourbooklaw22.MlogBegins'. -/
def mlogBeginsCard : Claim7 := { stood := { row := mlogBeginsRow, standIns := [], harness := (true, "8c4433496e908610dc21db1022dc00e8f9889dcf80a4c04afee77ee20f12592e"), looks := true }, kinds := [], alts := [], laidByText := true, laidKinds := [.data], laidTests := true, laidLooks := .later }
def MlogBeginsCardSaid : Prop := Claim7.holds Tryd.pinned (.plain (OpenSpec.ofChange mlogBeginsSpec)) mlogBeginsCard

/-- THE TIED CARD OF 'hourbooklaw22.MlogTurned'. -/
def mlogTurnedCard : Claim7 := { stood := { row := mlogTurnedRow, standIns := [], harness := (true, "8c4433496e908610dc21db1022dc00e8f9889dcf80a4c04afee77ee20f12592e"), looks := true }, kinds := [], alts := [], laidByText := true, laidKinds := [.data], laidTests := true, laidLooks := .later }
def MlogTurnedCardSaid : Prop := Claim7.holds Tryd.pinned (.plain (OpenSpec.ofChange mlogTurnedSpec)) mlogTurnedCard

/-- THE SECOND FORM's CARD OF 'hourbooklaw22.MlogPuts'. -/
def mlogPutsUptoCard : Claim7 := { stood := { row := mlogPutsUptoRow, standIns := [], harness := (true, "8c4433496e908610dc21db1022dc00e8f9889dcf80a4c04afee77ee20f12592e"), looks := true }, kinds := [], alts := [], laidByText := true, laidKinds := [.data], laidTests := true, laidLooks := .later }
def MlogPutsUptoCardSaid : Prop := Claim7.holds Tryd.pinned (.plain (OpenSpec.upto mlogPutsSpec)) mlogPutsUptoCard

/-- THE SECOND FORM's CARD OF 'hourbooklaw22.MlogKnown'. -/
def mlogKnownUptoCard : Claim7 := { stood := { row := mlogKnownUptoRow, standIns := [], harness := (true, "8c4433496e908610dc21db1022dc00e8f9889dcf80a4c04afee77ee20f12592e"), looks := true }, kinds := [], alts := [], laidByText := true, laidKinds := [.data], laidTests := true, laidLooks := .later }
def MlogKnownUptoCardSaid : Prop := Claim7.holds Tryd.pinned (.plain (OpenSpec.upto mlogKnownSpec)) mlogKnownUptoCard

/-- THE SECOND FORM's CARD OF 'hourbooklaw22.MlogBegins'. -/
def mlogBeginsUptoCard : Claim7 := { stood := { row := mlogBeginsUptoRow, standIns := [], harness := (true, "8c4433496e908610dc21db1022dc00e8f9889dcf80a4c04afee77ee20f12592e"), looks := true }, kinds := [], alts := [], laidByText := true, laidKinds := [.data], laidTests := true, laidLooks := .later }
def MlogBeginsUptoCardSaid : Prop := Claim7.holds Tryd.pinned (.plain (OpenSpec.upto mlogBeginsSpec)) mlogBeginsUptoCard

/-- THE SECOND FORM's CARD OF 'hourbooklaw22.MlogTurned'. -/
def mlogTurnedUptoCard : Claim7 := { stood := { row := mlogTurnedUptoRow, standIns := [], harness := (true, "8c4433496e908610dc21db1022dc00e8f9889dcf80a4c04afee77ee20f12592e"), looks := true }, kinds := [], alts := [], laidByText := true, laidKinds := [.data], laidTests := true, laidLooks := .later }
def MlogTurnedUptoCardSaid : Prop := Claim7.holds Tryd.pinned (.plain (OpenSpec.upto mlogTurnedSpec)) mlogTurnedUptoCard
end Rows
end Go.Proofs.YtmahadcohnhdkaaDoor
