/-
  DERIVED. GIVEN WITH THE SEED: THE CARDS: each row of YthabhakehajjnaaGreatDoorRows.lean that lists a variable, with what it lists TIED to the program's text (the seventh form; the later family's looks); each row that meets fmt, with fmt's text TOLD by the authors' own Lean function (tested against real Go, not proved from fmt's source: count such statements apart). THE CARD IS WHAT COUNTS. Prove the row's statement (the work); the ties are given (YthabhakehajjnaaGreatDoorTie.lean); close each card by the builder's one call (the guide's Derived/Test/ToyasCard.lean, 'card_holds'). Laid BY PROGRAM, IN A SANDBOX (cutbox-door.mjs). By AI agents, Wed Nov 11 2026. No macro, syntax, notation, axiom, sorry.
-/
import Derived.Test.YthabhakehajjnaaGreatDoorRows
import GoSem.ClaimSeven
namespace Go.Proofs.YthabhakehajjnaaGreatDoor
namespace Rows

/-- THE TIED CARD OF 'relaylaw11.GraphcoreOrder'. -/
def graphcoreOrderCard : Claim7 := { stood := { row := graphcoreOrderRow, standIns := [], harness := (true, "5a56dc6ce5cca70625394f06765b928fc54cdac2a72614b361d15b6115d641c3"), looks := true }, kinds := [], alts := [], laidByText := true, laidKinds := [.data, .data, .data], laidTests := true, laidLooks := .later }
def GraphcoreOrderCardSaid : Prop := Claim7.holds Tryz.pinned (.plain (OpenSpec.ofChange graphcoreOrderSpec)) graphcoreOrderCard

/-- THE TIED CARD OF 'relaylaw11.GraphcoreEdges'. -/
def graphcoreEdgesCard : Claim7 := { stood := { row := graphcoreEdgesRow, standIns := [], harness := (true, "5a56dc6ce5cca70625394f06765b928fc54cdac2a72614b361d15b6115d641c3"), looks := true }, kinds := [], alts := [], laidByText := true, laidKinds := [.data, .data, .data], laidTests := true, laidLooks := .later }
def GraphcoreEdgesCardSaid : Prop := Claim7.holds Tryz.pinned (.plain (OpenSpec.ofChange graphcoreEdgesSpec)) graphcoreEdgesCard

/-- THE TIED CARD OF 'relaylaw11.GraphcoreLadders'. -/
def graphcoreLaddersCard : Claim7 := { stood := { row := graphcoreLaddersRow, standIns := [], harness := (true, "5a56dc6ce5cca70625394f06765b928fc54cdac2a72614b361d15b6115d641c3"), looks := true }, kinds := [], alts := [], laidByText := true, laidKinds := [.data, .data, .data], laidTests := true, laidLooks := .later }
def GraphcoreLaddersCardSaid : Prop := Claim7.holds Tryz.pinned (.plain (OpenSpec.ofChange graphcoreLaddersSpec)) graphcoreLaddersCard

/-- THE TIED CARD OF 'relaylaw11.GraphcoreRungs'. -/
def graphcoreRungsCard : Claim7 := { stood := { row := graphcoreRungsRow, standIns := [], harness := (true, "5a56dc6ce5cca70625394f06765b928fc54cdac2a72614b361d15b6115d641c3"), looks := true }, kinds := [], alts := [], laidByText := true, laidKinds := [.data, .data, .data], laidTests := true, laidLooks := .later }
def GraphcoreRungsCardSaid : Prop := Claim7.holds Tryz.pinned (.plain (OpenSpec.ofChange graphcoreRungsSpec)) graphcoreRungsCard

/-- THE SECOND FORM's CARD OF 'relaylaw11.GraphcoreOrder'. -/
def graphcoreOrderUptoCard : Claim7 := { stood := { row := graphcoreOrderUptoRow, standIns := [], harness := (true, "5a56dc6ce5cca70625394f06765b928fc54cdac2a72614b361d15b6115d641c3"), looks := true }, kinds := [], alts := [], laidByText := true, laidKinds := [.data, .data, .data], laidTests := true, laidLooks := .later }
def GraphcoreOrderUptoCardSaid : Prop := Claim7.holds Tryz.pinned (.plain (OpenSpec.upto graphcoreOrderSpec)) graphcoreOrderUptoCard

/-- THE SECOND FORM's CARD OF 'relaylaw11.GraphcoreEdges'. -/
def graphcoreEdgesUptoCard : Claim7 := { stood := { row := graphcoreEdgesUptoRow, standIns := [], harness := (true, "5a56dc6ce5cca70625394f06765b928fc54cdac2a72614b361d15b6115d641c3"), looks := true }, kinds := [], alts := [], laidByText := true, laidKinds := [.data, .data, .data], laidTests := true, laidLooks := .later }
def GraphcoreEdgesUptoCardSaid : Prop := Claim7.holds Tryz.pinned (.plain (OpenSpec.upto graphcoreEdgesSpec)) graphcoreEdgesUptoCard

/-- THE SECOND FORM's CARD OF 'relaylaw11.GraphcoreLadders'. -/
def graphcoreLaddersUptoCard : Claim7 := { stood := { row := graphcoreLaddersUptoRow, standIns := [], harness := (true, "5a56dc6ce5cca70625394f06765b928fc54cdac2a72614b361d15b6115d641c3"), looks := true }, kinds := [], alts := [], laidByText := true, laidKinds := [.data, .data, .data], laidTests := true, laidLooks := .later }
def GraphcoreLaddersUptoCardSaid : Prop := Claim7.holds Tryz.pinned (.plain (OpenSpec.upto graphcoreLaddersSpec)) graphcoreLaddersUptoCard

/-- THE SECOND FORM's CARD OF 'relaylaw11.GraphcoreRungs'. -/
def graphcoreRungsUptoCard : Claim7 := { stood := { row := graphcoreRungsUptoRow, standIns := [], harness := (true, "5a56dc6ce5cca70625394f06765b928fc54cdac2a72614b361d15b6115d641c3"), looks := true }, kinds := [], alts := [], laidByText := true, laidKinds := [.data, .data, .data], laidTests := true, laidLooks := .later }
def GraphcoreRungsUptoCardSaid : Prop := Claim7.holds Tryz.pinned (.plain (OpenSpec.upto graphcoreRungsSpec)) graphcoreRungsUptoCard
end Rows
end Go.Proofs.YthabhakehajjnaaGreatDoor
