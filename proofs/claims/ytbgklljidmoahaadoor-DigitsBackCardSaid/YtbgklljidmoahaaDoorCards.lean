/-
  DERIVED. GIVEN WITH THE SEED: THE CARDS: each row of YtbgklljidmoahaaDoorRows.lean that lists a variable, with what it lists TIED to the program's text (the seventh form; the later family's looks); each row that meets fmt, with fmt's text TOLD by the authors' own Lean function (tested against real Go, not proved from fmt's source: count such statements apart). THE CARD IS WHAT COUNTS. Prove the row's statement (the work); the ties are given (YtbgklljidmoahaaDoorTie.lean); close each card by the builder's one call (the guide's Derived/Test/ToyasCard.lean, 'card_holds'). Laid BY PROGRAM, IN A SANDBOX (cutbox-door.mjs). By AI agents, Wed Nov 11 2026. No macro, syntax, notation, axiom, sorry.
-/
import Derived.Test.YtbgklljidmoahaaDoorRows
import GoSem.ClaimSeven
namespace Go.Proofs.YtbgklljidmoahaaDoor
namespace Rows

/-- THE TIED CARD OF 'comptoirlaw02.DigitsWide'. -/
def digitsWideCard : Claim7 := { stood := { row := digitsWideRow, standIns := [], harness := (true, "85836d0d8de19cf10b7780731cfe9db3682878c569674a3c2829ccd09708338c"), looks := false }, kinds := [], alts := [], laidByText := true, laidKinds := [.data, .data, .data], laidTests := true, laidLooks := .later }
def DigitsWideCardSaid : Prop := Claim7.holds Tryd.pinned (.plain (OpenSpec.ofChange digitsWideSpec)) digitsWideCard

/-- THE TIED CARD OF 'comptoirlaw02.DigitsTell'. -/
def digitsTellCard : Claim7 := { stood := { row := digitsTellRow, standIns := [], harness := (true, "85836d0d8de19cf10b7780731cfe9db3682878c569674a3c2829ccd09708338c"), looks := false }, kinds := [], alts := [], laidByText := true, laidKinds := [.data, .data, .data], laidTests := true, laidLooks := .later }
def DigitsTellCardSaid : Prop := Claim7.holds Tryd.pinned (.plain (OpenSpec.ofChange digitsTellSpec)) digitsTellCard

/-- THE TIED CARD OF 'comptoirlaw02.DigitsBack'. -/
def digitsBackCard : Claim7 := { stood := { row := digitsBackRow, standIns := [], harness := (true, "85836d0d8de19cf10b7780731cfe9db3682878c569674a3c2829ccd09708338c"), looks := false }, kinds := [], alts := [], laidByText := true, laidKinds := [.data, .data, .data], laidTests := true, laidLooks := .later }
def DigitsBackCardSaid : Prop := Claim7.holds Tryd.pinned (.plain (OpenSpec.ofChange digitsBackSpec)) digitsBackCard

/-- THE SECOND FORM's CARD OF 'comptoirlaw02.DigitsWide'. -/
def digitsWideUptoCard : Claim7 := { stood := { row := digitsWideUptoRow, standIns := [], harness := (true, "85836d0d8de19cf10b7780731cfe9db3682878c569674a3c2829ccd09708338c"), looks := false }, kinds := [], alts := [], laidByText := true, laidKinds := [.data, .data, .data], laidTests := true, laidLooks := .later }
def DigitsWideUptoCardSaid : Prop := Claim7.holds Tryd.pinned (.plain (OpenSpec.upto digitsWideSpec)) digitsWideUptoCard

/-- THE SECOND FORM's CARD OF 'comptoirlaw02.DigitsTell'. -/
def digitsTellUptoCard : Claim7 := { stood := { row := digitsTellUptoRow, standIns := [], harness := (true, "85836d0d8de19cf10b7780731cfe9db3682878c569674a3c2829ccd09708338c"), looks := false }, kinds := [], alts := [], laidByText := true, laidKinds := [.data, .data, .data], laidTests := true, laidLooks := .later }
def DigitsTellUptoCardSaid : Prop := Claim7.holds Tryd.pinned (.plain (OpenSpec.upto digitsTellSpec)) digitsTellUptoCard

/-- THE SECOND FORM's CARD OF 'comptoirlaw02.DigitsBack'. -/
def digitsBackUptoCard : Claim7 := { stood := { row := digitsBackUptoRow, standIns := [], harness := (true, "85836d0d8de19cf10b7780731cfe9db3682878c569674a3c2829ccd09708338c"), looks := false }, kinds := [], alts := [], laidByText := true, laidKinds := [.data, .data, .data], laidTests := true, laidLooks := .later }
def DigitsBackUptoCardSaid : Prop := Claim7.holds Tryd.pinned (.plain (OpenSpec.upto digitsBackSpec)) digitsBackUptoCard
end Rows
end Go.Proofs.YtbgklljidmoahaaDoor
