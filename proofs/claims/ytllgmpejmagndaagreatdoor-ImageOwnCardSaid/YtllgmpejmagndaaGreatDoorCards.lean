/-
  DERIVED. GIVEN WITH THE SEED: THE CARDS: each row of YtllgmpejmagndaaGreatDoorRows.lean that lists a variable, with what it lists TIED to the program's text (the seventh form; the later family's looks); each row that meets fmt, with fmt's text TOLD by the authors' own Lean function (tested against real Go, not proved from fmt's source: count such statements apart). THE CARD IS WHAT COUNTS. Prove the row's statement (the work); the ties are given (YtllgmpejmagndaaGreatDoorTie.lean); close each card by the builder's one call (the guide's Derived/Test/ToyasCard.lean, 'card_holds'). Laid BY PROGRAM, IN A SANDBOX (cutbox-door.mjs). By AI agents, Wed Nov 11 2026. No macro, syntax, notation, axiom, sorry.
-/
import Derived.Test.YtllgmpejmagndaaGreatDoorRows
import GoSem.ClaimSeven
namespace Go.Proofs.YtllgmpejmagndaaGreatDoor
namespace Rows

/-- THE TIED CARD OF 'relaylaw20.ImageTurned'. -/
def imageTurnedCard : Claim7 := { stood := { row := imageTurnedRow, standIns := [], harness := (true, "4d57ffe0c4a49d05373ee41d41a6ebda07b81b881b394547c96a101948df6247"), looks := true }, kinds := [], alts := [], laidByText := true, laidKinds := [.data, .data, .data, .sentinel, .sentinel], laidTests := true, laidLooks := .later }
def ImageTurnedCardSaid : Prop := Claim7.holds Tryz.pinned (.plain (OpenSpec.ofChange imageTurnedSpec)) imageTurnedCard

/-- THE TIED CARD OF 'relaylaw20.ImageBegins'. -/
def imageBeginsCard : Claim7 := { stood := { row := imageBeginsRow, standIns := [], harness := (true, "4d57ffe0c4a49d05373ee41d41a6ebda07b81b881b394547c96a101948df6247"), looks := true }, kinds := [], alts := [], laidByText := true, laidKinds := [.data, .data, .data, .sentinel, .sentinel], laidTests := true, laidLooks := .later }
def ImageBeginsCardSaid : Prop := Claim7.holds Tryz.pinned (.plain (OpenSpec.ofChange imageBeginsSpec)) imageBeginsCard

/-- THE TIED CARD OF 'relaylaw20.ImageOwn'. -/
def imageOwnCard : Claim7 := { stood := { row := imageOwnRow, standIns := [], harness := (true, "4d57ffe0c4a49d05373ee41d41a6ebda07b81b881b394547c96a101948df6247"), looks := true }, kinds := [], alts := [], laidByText := true, laidKinds := [.data, .data, .data, .sentinel, .sentinel], laidTests := true, laidLooks := .later }
def ImageOwnCardSaid : Prop := Claim7.holds Tryz.pinned (.plain (OpenSpec.ofChange imageOwnSpec)) imageOwnCard

/-- THE TIED CARD OF 'relaylaw20.ImageForm'. -/
def imageFormCard : Claim7 := { stood := { row := imageFormRow, standIns := [], harness := (true, "4d57ffe0c4a49d05373ee41d41a6ebda07b81b881b394547c96a101948df6247"), looks := true }, kinds := [], alts := [], laidByText := true, laidKinds := [.data, .data, .data, .sentinel, .sentinel], laidTests := true, laidLooks := .later }
def ImageFormCardSaid : Prop := Claim7.holds Tryz.pinned (.plain (OpenSpec.ofChange imageFormSpec)) imageFormCard

/-- THE TIED CARD OF 'relaylaw20.ImageBack'. -/
def imageBackCard : Claim7 := { stood := { row := imageBackRow, standIns := [], harness := (true, "4d57ffe0c4a49d05373ee41d41a6ebda07b81b881b394547c96a101948df6247"), looks := true }, kinds := [], alts := [], laidByText := true, laidKinds := [.data, .data, .data, .sentinel, .sentinel], laidTests := true, laidLooks := .later }
def ImageBackCardSaid : Prop := Claim7.holds Tryz.pinned (.plain (OpenSpec.ofChange imageBackSpec)) imageBackCard

/-- THE SECOND FORM's CARD OF 'relaylaw20.ImageTurned'. -/
def imageTurnedUptoCard : Claim7 := { stood := { row := imageTurnedUptoRow, standIns := [], harness := (true, "4d57ffe0c4a49d05373ee41d41a6ebda07b81b881b394547c96a101948df6247"), looks := true }, kinds := [], alts := [], laidByText := true, laidKinds := [.data, .data, .data, .sentinel, .sentinel], laidTests := true, laidLooks := .later }
def ImageTurnedUptoCardSaid : Prop := Claim7.holds Tryz.pinned (.plain (OpenSpec.upto imageTurnedSpec)) imageTurnedUptoCard

/-- THE SECOND FORM's CARD OF 'relaylaw20.ImageBegins'. -/
def imageBeginsUptoCard : Claim7 := { stood := { row := imageBeginsUptoRow, standIns := [], harness := (true, "4d57ffe0c4a49d05373ee41d41a6ebda07b81b881b394547c96a101948df6247"), looks := true }, kinds := [], alts := [], laidByText := true, laidKinds := [.data, .data, .data, .sentinel, .sentinel], laidTests := true, laidLooks := .later }
def ImageBeginsUptoCardSaid : Prop := Claim7.holds Tryz.pinned (.plain (OpenSpec.upto imageBeginsSpec)) imageBeginsUptoCard

/-- THE SECOND FORM's CARD OF 'relaylaw20.ImageOwn'. -/
def imageOwnUptoCard : Claim7 := { stood := { row := imageOwnUptoRow, standIns := [], harness := (true, "4d57ffe0c4a49d05373ee41d41a6ebda07b81b881b394547c96a101948df6247"), looks := true }, kinds := [], alts := [], laidByText := true, laidKinds := [.data, .data, .data, .sentinel, .sentinel], laidTests := true, laidLooks := .later }
def ImageOwnUptoCardSaid : Prop := Claim7.holds Tryz.pinned (.plain (OpenSpec.upto imageOwnSpec)) imageOwnUptoCard

/-- THE SECOND FORM's CARD OF 'relaylaw20.ImageForm'. -/
def imageFormUptoCard : Claim7 := { stood := { row := imageFormUptoRow, standIns := [], harness := (true, "4d57ffe0c4a49d05373ee41d41a6ebda07b81b881b394547c96a101948df6247"), looks := true }, kinds := [], alts := [], laidByText := true, laidKinds := [.data, .data, .data, .sentinel, .sentinel], laidTests := true, laidLooks := .later }
def ImageFormUptoCardSaid : Prop := Claim7.holds Tryz.pinned (.plain (OpenSpec.upto imageFormSpec)) imageFormUptoCard

/-- THE SECOND FORM's CARD OF 'relaylaw20.ImageBack'. -/
def imageBackUptoCard : Claim7 := { stood := { row := imageBackUptoRow, standIns := [], harness := (true, "4d57ffe0c4a49d05373ee41d41a6ebda07b81b881b394547c96a101948df6247"), looks := true }, kinds := [], alts := [], laidByText := true, laidKinds := [.data, .data, .data, .sentinel, .sentinel], laidTests := true, laidLooks := .later }
def ImageBackUptoCardSaid : Prop := Claim7.holds Tryz.pinned (.plain (OpenSpec.upto imageBackSpec)) imageBackUptoCard
end Rows
end Go.Proofs.YtllgmpejmagndaaGreatDoor
