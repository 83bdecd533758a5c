/-
  DERIVED. GIVEN WITH THE SEED: THE CARDS: each row of YtcnalhganahiiaaGreatDoorRows.lean that lists a variable, with what it lists TIED to the program's text (the seventh form; the later family's looks); each row that meets fmt, with fmt's text TOLD by the authors' own Lean function (tested against real Go, not proved from fmt's source: count such statements apart). THE CARD IS WHAT COUNTS. Prove the row's statement (the work); the ties are given (YtcnalhganahiiaaGreatDoorTie.lean); close each card by the builder's one call (the guide's Derived/Test/ToyasCard.lean, 'card_holds'). Laid BY PROGRAM, IN A SANDBOX (cutbox-door.mjs). By AI agents, Wed Nov 11 2026. No macro, syntax, notation, axiom, sorry.
-/
import Derived.Test.YtcnalhganahiiaaGreatDoorRows
import GoSem.ClaimSeven
namespace Go.Proofs.YtcnalhganahiiaaGreatDoor
namespace Rows

/-- THE TIED CARD OF 'comptoirlaw10.SimpleTells'. -/
def simpleTellsCard : Claim7 := { stood := { row := simpleTellsRow, standIns := [], harness := (true, "d94e36dc76e7627f1d80f25ad7d376f03d15cb7ad37b8bb4d3c9795a480a2e69"), looks := true }, kinds := [], alts := [], laidByText := true, laidKinds := [.data, .data, .data, .data, .pinned], laidTests := true, laidLooks := .later }
def SimpleTellsCardSaid : Prop := Claim7.holds Tryz.pinned (.plain (OpenSpec.ofChange simpleTellsSpec)) simpleTellsCard

/-- THE TIED CARD OF 'comptoirlaw10.SimpleTimes'. -/
def simpleTimesCard : Claim7 := { stood := { row := simpleTimesRow, standIns := [], harness := (true, "d94e36dc76e7627f1d80f25ad7d376f03d15cb7ad37b8bb4d3c9795a480a2e69"), looks := true }, kinds := [], alts := [], laidByText := true, laidKinds := [.data, .data, .data, .data, .pinned], laidTests := true, laidLooks := .later }
def SimpleTimesCardSaid : Prop := Claim7.holds Tryz.pinned (.plain (OpenSpec.ofChange simpleTimesSpec)) simpleTimesCard

/-- THE TIED CARD OF 'comptoirlaw10.SimpleAmounts'. -/
def simpleAmountsCard : Claim7 := { stood := { row := simpleAmountsRow, standIns := [], harness := (true, "d94e36dc76e7627f1d80f25ad7d376f03d15cb7ad37b8bb4d3c9795a480a2e69"), looks := true }, kinds := [], alts := [], laidByText := true, laidKinds := [.data, .data, .data, .data, .pinned], laidTests := true, laidLooks := .later }
def SimpleAmountsCardSaid : Prop := Claim7.holds Tryz.pinned (.plain (OpenSpec.ofChange simpleAmountsSpec)) simpleAmountsCard

/-- THE TIED CARD OF 'comptoirlaw10.SimpleChecks'. -/
def simpleChecksCard : Claim7 := { stood := { row := simpleChecksRow, standIns := [], harness := (true, "d94e36dc76e7627f1d80f25ad7d376f03d15cb7ad37b8bb4d3c9795a480a2e69"), looks := true }, kinds := [], alts := [], laidByText := true, laidKinds := [.data, .data, .data, .data, .pinned], laidTests := true, laidLooks := .later }
def SimpleChecksCardSaid : Prop := Claim7.holds Tryz.pinned (.plain (OpenSpec.ofChange simpleChecksSpec)) simpleChecksCard

/-- THE TIED CARD OF 'comptoirlaw10.SimpleTimesBack'. -/
def simpleTimesBackCard : Claim7 := { stood := { row := simpleTimesBackRow, standIns := [], harness := (true, "d94e36dc76e7627f1d80f25ad7d376f03d15cb7ad37b8bb4d3c9795a480a2e69"), looks := true }, kinds := [], alts := [], laidByText := true, laidKinds := [.data, .data, .data, .data, .pinned], laidTests := true, laidLooks := .later }
def SimpleTimesBackCardSaid : Prop := Claim7.holds Tryz.pinned (.plain (OpenSpec.ofChange simpleTimesBackSpec)) simpleTimesBackCard

/-- THE SECOND FORM's CARD OF 'comptoirlaw10.SimpleTells'. -/
def simpleTellsUptoCard : Claim7 := { stood := { row := simpleTellsUptoRow, standIns := [], harness := (true, "d94e36dc76e7627f1d80f25ad7d376f03d15cb7ad37b8bb4d3c9795a480a2e69"), looks := true }, kinds := [], alts := [], laidByText := true, laidKinds := [.data, .data, .data, .data, .pinned], laidTests := true, laidLooks := .later }
def SimpleTellsUptoCardSaid : Prop := Claim7.holds Tryz.pinned (.plain (OpenSpec.upto simpleTellsSpec)) simpleTellsUptoCard

/-- THE SECOND FORM's CARD OF 'comptoirlaw10.SimpleTimes'. -/
def simpleTimesUptoCard : Claim7 := { stood := { row := simpleTimesUptoRow, standIns := [], harness := (true, "d94e36dc76e7627f1d80f25ad7d376f03d15cb7ad37b8bb4d3c9795a480a2e69"), looks := true }, kinds := [], alts := [], laidByText := true, laidKinds := [.data, .data, .data, .data, .pinned], laidTests := true, laidLooks := .later }
def SimpleTimesUptoCardSaid : Prop := Claim7.holds Tryz.pinned (.plain (OpenSpec.upto simpleTimesSpec)) simpleTimesUptoCard

/-- THE SECOND FORM's CARD OF 'comptoirlaw10.SimpleAmounts'. -/
def simpleAmountsUptoCard : Claim7 := { stood := { row := simpleAmountsUptoRow, standIns := [], harness := (true, "d94e36dc76e7627f1d80f25ad7d376f03d15cb7ad37b8bb4d3c9795a480a2e69"), looks := true }, kinds := [], alts := [], laidByText := true, laidKinds := [.data, .data, .data, .data, .pinned], laidTests := true, laidLooks := .later }
def SimpleAmountsUptoCardSaid : Prop := Claim7.holds Tryz.pinned (.plain (OpenSpec.upto simpleAmountsSpec)) simpleAmountsUptoCard

/-- THE SECOND FORM's CARD OF 'comptoirlaw10.SimpleChecks'. -/
def simpleChecksUptoCard : Claim7 := { stood := { row := simpleChecksUptoRow, standIns := [], harness := (true, "d94e36dc76e7627f1d80f25ad7d376f03d15cb7ad37b8bb4d3c9795a480a2e69"), looks := true }, kinds := [], alts := [], laidByText := true, laidKinds := [.data, .data, .data, .data, .pinned], laidTests := true, laidLooks := .later }
def SimpleChecksUptoCardSaid : Prop := Claim7.holds Tryz.pinned (.plain (OpenSpec.upto simpleChecksSpec)) simpleChecksUptoCard

/-- THE SECOND FORM's CARD OF 'comptoirlaw10.SimpleTimesBack'. -/
def simpleTimesBackUptoCard : Claim7 := { stood := { row := simpleTimesBackUptoRow, standIns := [], harness := (true, "d94e36dc76e7627f1d80f25ad7d376f03d15cb7ad37b8bb4d3c9795a480a2e69"), looks := true }, kinds := [], alts := [], laidByText := true, laidKinds := [.data, .data, .data, .data, .pinned], laidTests := true, laidLooks := .later }
def SimpleTimesBackUptoCardSaid : Prop := Claim7.holds Tryz.pinned (.plain (OpenSpec.upto simpleTimesBackSpec)) simpleTimesBackUptoCard
end Rows
end Go.Proofs.YtcnalhganahiiaaGreatDoor
