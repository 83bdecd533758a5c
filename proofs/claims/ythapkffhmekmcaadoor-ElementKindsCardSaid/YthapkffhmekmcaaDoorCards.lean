/-
  DERIVED. GIVEN WITH THE SEED: THE CARDS: each row of YthapkffhmekmcaaDoorRows.lean that lists a variable, with what it lists TIED to the program's text (the seventh form; the later family's looks); each row that meets fmt, with fmt's text TOLD by the authors' own Lean function (tested against real Go, not proved from fmt's source: count such statements apart). THE CARD IS WHAT COUNTS. Prove the row's statement (the work); the ties are given (YthapkffhmekmcaaDoorTie.lean); close each card by the builder's one call (the guide's Derived/Test/ToyasCard.lean, 'card_holds'). Laid BY PROGRAM, IN A SANDBOX (cutbox-door.mjs). By AI agents, Wed Nov 11 2026. No macro, syntax, notation, axiom, sorry.
-/
import Derived.Test.YthapkffhmekmcaaDoorRows
import GoSem.ClaimSeven
namespace Go.Proofs.YthapkffhmekmcaaDoor
namespace Rows

/-- THE TIED CARD OF 'comptoirlaw16.ElementTells'. -/
def elementTellsCard : Claim7 := { stood := { row := elementTellsRow, standIns := [], harness := (true, "e8f7017bf10c58642677cd5da4ea5cfec9f60fd28a370e88b3ee1a7d83b0ee54"), looks := false }, kinds := [], alts := [], laidByText := true, laidKinds := [.data, .data, .data], laidTests := true, laidLooks := .later }
def ElementTellsCardSaid : Prop := Claim7.holds Tryd.pinned (.plain (OpenSpec.ofChange elementTellsSpec)) elementTellsCard

/-- THE TIED CARD OF 'comptoirlaw16.ElementBack'. -/
def elementBackCard : Claim7 := { stood := { row := elementBackRow, standIns := [], harness := (true, "e8f7017bf10c58642677cd5da4ea5cfec9f60fd28a370e88b3ee1a7d83b0ee54"), looks := false }, kinds := [], alts := [], laidByText := true, laidKinds := [.data, .data, .data], laidTests := true, laidLooks := .later }
def ElementBackCardSaid : Prop := Claim7.holds Tryd.pinned (.plain (OpenSpec.ofChange elementBackSpec)) elementBackCard

/-- THE TIED CARD OF 'comptoirlaw16.ElementLengths'. -/
def elementLengthsCard : Claim7 := { stood := { row := elementLengthsRow, standIns := [], harness := (true, "e8f7017bf10c58642677cd5da4ea5cfec9f60fd28a370e88b3ee1a7d83b0ee54"), looks := false }, kinds := [], alts := [], laidByText := true, laidKinds := [.data, .data, .data], laidTests := true, laidLooks := .later }
def ElementLengthsCardSaid : Prop := Claim7.holds Tryd.pinned (.plain (OpenSpec.ofChange elementLengthsSpec)) elementLengthsCard

/-- THE TIED CARD OF 'comptoirlaw16.ElementKinds'. -/
def elementKindsCard : Claim7 := { stood := { row := elementKindsRow, standIns := [], harness := (true, "e8f7017bf10c58642677cd5da4ea5cfec9f60fd28a370e88b3ee1a7d83b0ee54"), looks := false }, kinds := [], alts := [], laidByText := true, laidKinds := [.data, .data, .data], laidTests := true, laidLooks := .later }
def ElementKindsCardSaid : Prop := Claim7.holds Tryd.pinned (.plain (OpenSpec.ofChange elementKindsSpec)) elementKindsCard

/-- THE TIED CARD OF 'comptoirlaw16.ElementTable'. -/
def elementTableCard : Claim7 := { stood := { row := elementTableRow, standIns := [], harness := (true, "e8f7017bf10c58642677cd5da4ea5cfec9f60fd28a370e88b3ee1a7d83b0ee54"), looks := false }, kinds := [], alts := [], laidByText := true, laidKinds := [.data, .data, .data], laidTests := true, laidLooks := .later }
def ElementTableCardSaid : Prop := Claim7.holds Tryd.pinned (.plain (OpenSpec.ofChange elementTableSpec)) elementTableCard

/-- THE TIED CARD OF 'comptoirlaw16.ElementDigits'. -/
def elementDigitsCard : Claim7 := { stood := { row := elementDigitsRow, standIns := [], harness := (true, "e8f7017bf10c58642677cd5da4ea5cfec9f60fd28a370e88b3ee1a7d83b0ee54"), looks := false }, kinds := [], alts := [], laidByText := true, laidKinds := [.data, .data, .data], laidTests := true, laidLooks := .later }
def ElementDigitsCardSaid : Prop := Claim7.holds Tryd.pinned (.plain (OpenSpec.ofChange elementDigitsSpec)) elementDigitsCard

/-- THE SECOND FORM's CARD OF 'comptoirlaw16.ElementTells'. -/
def elementTellsUptoCard : Claim7 := { stood := { row := elementTellsUptoRow, standIns := [], harness := (true, "e8f7017bf10c58642677cd5da4ea5cfec9f60fd28a370e88b3ee1a7d83b0ee54"), looks := false }, kinds := [], alts := [], laidByText := true, laidKinds := [.data, .data, .data], laidTests := true, laidLooks := .later }
def ElementTellsUptoCardSaid : Prop := Claim7.holds Tryd.pinned (.plain (OpenSpec.upto elementTellsSpec)) elementTellsUptoCard

/-- THE SECOND FORM's CARD OF 'comptoirlaw16.ElementBack'. -/
def elementBackUptoCard : Claim7 := { stood := { row := elementBackUptoRow, standIns := [], harness := (true, "e8f7017bf10c58642677cd5da4ea5cfec9f60fd28a370e88b3ee1a7d83b0ee54"), looks := false }, kinds := [], alts := [], laidByText := true, laidKinds := [.data, .data, .data], laidTests := true, laidLooks := .later }
def ElementBackUptoCardSaid : Prop := Claim7.holds Tryd.pinned (.plain (OpenSpec.upto elementBackSpec)) elementBackUptoCard

/-- THE SECOND FORM's CARD OF 'comptoirlaw16.ElementLengths'. -/
def elementLengthsUptoCard : Claim7 := { stood := { row := elementLengthsUptoRow, standIns := [], harness := (true, "e8f7017bf10c58642677cd5da4ea5cfec9f60fd28a370e88b3ee1a7d83b0ee54"), looks := false }, kinds := [], alts := [], laidByText := true, laidKinds := [.data, .data, .data], laidTests := true, laidLooks := .later }
def ElementLengthsUptoCardSaid : Prop := Claim7.holds Tryd.pinned (.plain (OpenSpec.upto elementLengthsSpec)) elementLengthsUptoCard

/-- THE SECOND FORM's CARD OF 'comptoirlaw16.ElementKinds'. -/
def elementKindsUptoCard : Claim7 := { stood := { row := elementKindsUptoRow, standIns := [], harness := (true, "e8f7017bf10c58642677cd5da4ea5cfec9f60fd28a370e88b3ee1a7d83b0ee54"), looks := false }, kinds := [], alts := [], laidByText := true, laidKinds := [.data, .data, .data], laidTests := true, laidLooks := .later }
def ElementKindsUptoCardSaid : Prop := Claim7.holds Tryd.pinned (.plain (OpenSpec.upto elementKindsSpec)) elementKindsUptoCard

/-- THE SECOND FORM's CARD OF 'comptoirlaw16.ElementTable'. -/
def elementTableUptoCard : Claim7 := { stood := { row := elementTableUptoRow, standIns := [], harness := (true, "e8f7017bf10c58642677cd5da4ea5cfec9f60fd28a370e88b3ee1a7d83b0ee54"), looks := false }, kinds := [], alts := [], laidByText := true, laidKinds := [.data, .data, .data], laidTests := true, laidLooks := .later }
def ElementTableUptoCardSaid : Prop := Claim7.holds Tryd.pinned (.plain (OpenSpec.upto elementTableSpec)) elementTableUptoCard

/-- THE SECOND FORM's CARD OF 'comptoirlaw16.ElementDigits'. -/
def elementDigitsUptoCard : Claim7 := { stood := { row := elementDigitsUptoRow, standIns := [], harness := (true, "e8f7017bf10c58642677cd5da4ea5cfec9f60fd28a370e88b3ee1a7d83b0ee54"), looks := false }, kinds := [], alts := [], laidByText := true, laidKinds := [.data, .data, .data], laidTests := true, laidLooks := .later }
def ElementDigitsUptoCardSaid : Prop := Claim7.holds Tryd.pinned (.plain (OpenSpec.upto elementDigitsSpec)) elementDigitsUptoCard
end Rows
end Go.Proofs.YthapkffhmekmcaaDoor
