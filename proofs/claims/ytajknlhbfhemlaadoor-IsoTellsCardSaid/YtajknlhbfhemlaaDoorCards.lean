/-
  DERIVED. GIVEN WITH THE SEED: THE CARDS: each row of YtajknlhbfhemlaaDoorRows.lean that lists a variable, with what it lists TIED to the program's text (the seventh form; the later family's looks); each row that meets fmt, with fmt's text TOLD by the authors' own Lean function (tested against real Go, not proved from fmt's source: count such statements apart). THE CARD IS WHAT COUNTS. Prove the row's statement (the work); the ties are given (YtajknlhbfhemlaaDoorTie.lean); close each card by the builder's one call (the guide's Derived/Test/ToyasCard.lean, 'card_holds'). Laid BY PROGRAM, IN A SANDBOX (cutbox-door.mjs). By AI agents, Wed Nov 11 2026. No macro, syntax, notation, axiom, sorry.
-/
import Derived.Test.YtajknlhbfhemlaaDoorRows
import GoSem.ClaimSeven
namespace Go.Proofs.YtajknlhbfhemlaaDoor
namespace Rows

/-- THE TIED CARD OF 'comptoirlaw17.IsoTells'. -/
def isoTellsCard : Claim7 := { stood := { row := isoTellsRow, standIns := [], harness := (true, "bc2b5c9fc8cbfefe853349ef1fb4c414b28d74e3aa7943d86338a7e3d25f99a6"), looks := false }, kinds := [], alts := [], laidByText := true, laidKinds := [.data, .data, .data], laidTests := true, laidLooks := .later }
def IsoTellsCardSaid : Prop := Claim7.holds Tryd.pinned (.plain (OpenSpec.ofChange isoTellsSpec)) isoTellsCard

/-- THE TIED CARD OF 'comptoirlaw17.IsoBack'. -/
def isoBackCard : Claim7 := { stood := { row := isoBackRow, standIns := [], harness := (true, "bc2b5c9fc8cbfefe853349ef1fb4c414b28d74e3aa7943d86338a7e3d25f99a6"), looks := false }, kinds := [], alts := [], laidByText := true, laidKinds := [.data, .data, .data], laidTests := true, laidLooks := .later }
def IsoBackCardSaid : Prop := Claim7.holds Tryd.pinned (.plain (OpenSpec.ofChange isoBackSpec)) isoBackCard

/-- THE TIED CARD OF 'comptoirlaw17.IsoNeeds'. -/
def isoNeedsCard : Claim7 := { stood := { row := isoNeedsRow, standIns := [], harness := (true, "bc2b5c9fc8cbfefe853349ef1fb4c414b28d74e3aa7943d86338a7e3d25f99a6"), looks := false }, kinds := [], alts := [], laidByText := true, laidKinds := [.data, .data, .data], laidTests := true, laidLooks := .later }
def IsoNeedsCardSaid : Prop := Claim7.holds Tryd.pinned (.plain (OpenSpec.ofChange isoNeedsSpec)) isoNeedsCard

/-- THE SECOND FORM's CARD OF 'comptoirlaw17.IsoTells'. -/
def isoTellsUptoCard : Claim7 := { stood := { row := isoTellsUptoRow, standIns := [], harness := (true, "bc2b5c9fc8cbfefe853349ef1fb4c414b28d74e3aa7943d86338a7e3d25f99a6"), looks := false }, kinds := [], alts := [], laidByText := true, laidKinds := [.data, .data, .data], laidTests := true, laidLooks := .later }
def IsoTellsUptoCardSaid : Prop := Claim7.holds Tryd.pinned (.plain (OpenSpec.upto isoTellsSpec)) isoTellsUptoCard

/-- THE SECOND FORM's CARD OF 'comptoirlaw17.IsoBack'. -/
def isoBackUptoCard : Claim7 := { stood := { row := isoBackUptoRow, standIns := [], harness := (true, "bc2b5c9fc8cbfefe853349ef1fb4c414b28d74e3aa7943d86338a7e3d25f99a6"), looks := false }, kinds := [], alts := [], laidByText := true, laidKinds := [.data, .data, .data], laidTests := true, laidLooks := .later }
def IsoBackUptoCardSaid : Prop := Claim7.holds Tryd.pinned (.plain (OpenSpec.upto isoBackSpec)) isoBackUptoCard

/-- THE SECOND FORM's CARD OF 'comptoirlaw17.IsoNeeds'. -/
def isoNeedsUptoCard : Claim7 := { stood := { row := isoNeedsUptoRow, standIns := [], harness := (true, "bc2b5c9fc8cbfefe853349ef1fb4c414b28d74e3aa7943d86338a7e3d25f99a6"), looks := false }, kinds := [], alts := [], laidByText := true, laidKinds := [.data, .data, .data], laidTests := true, laidLooks := .later }
def IsoNeedsUptoCardSaid : Prop := Claim7.holds Tryd.pinned (.plain (OpenSpec.upto isoNeedsSpec)) isoNeedsUptoCard
end Rows
end Go.Proofs.YtajknlhbfhemlaaDoor
