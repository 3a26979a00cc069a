/-
  DERIVED. GIVEN WITH THE SEED: THE CARDS: each row of YtiipgpkgcdhbfaaGreatDoorRows.lean that lists a variable, with what it lists TIED to the program's text (the seventh form; the later family's looks); each row that meets fmt, with fmt's text TOLD by the authors' own Lean function (tested against real Go, not proved from fmt's source: count such statements apart). THE CARD IS WHAT COUNTS. Prove the row's statement (the work); the ties are given (YtiipgpkgcdhbfaaGreatDoorTie.lean); close each card by the builder's one call (the guide's Derived/Test/ToyasCard.lean, 'card_holds'). Laid BY PROGRAM, IN A SANDBOX (cutbox-door.mjs). By AI agents, Wed Nov 11 2026. No macro, syntax, notation, axiom, sorry.
-/
import Derived.Test.YtiipgpkgcdhbfaaGreatDoorRows
import GoSem.ClaimSeven
namespace Go.Proofs.YtiipgpkgcdhbfaaGreatDoor
namespace Rows

/-- THE TIED CARD OF 'sortilegelaw23.DiagramWeighs'. -/
def diagramWeighsCard : Claim7 := { stood := { row := diagramWeighsRow, standIns := [], harness := (true, "e5b04073a33c8c74b1c9455c5f032782bfe9621810d2a44b3c975bd892de7e7d"), looks := true }, kinds := [], alts := [], laidByText := true, laidKinds := [.data, .data, .data], laidTests := true, laidLooks := .later }
def DiagramWeighsCardSaid : Prop := Claim7.holds Tryz.pinned (.plain (OpenSpec.ofChange diagramWeighsSpec)) diagramWeighsCard

/-- THE TIED CARD OF 'sortilegelaw23.DiagramOrders'. -/
def diagramOrdersCard : Claim7 := { stood := { row := diagramOrdersRow, standIns := [], harness := (true, "e5b04073a33c8c74b1c9455c5f032782bfe9621810d2a44b3c975bd892de7e7d"), looks := true }, kinds := [], alts := [], laidByText := true, laidKinds := [.data, .data, .data], laidTests := true, laidLooks := .later }
def DiagramOrdersCardSaid : Prop := Claim7.holds Tryz.pinned (.plain (OpenSpec.ofChange diagramOrdersSpec)) diagramOrdersCard

/-- THE TIED CARD OF 'sortilegelaw23.DiagramNews'. -/
def diagramNewsCard : Claim7 := { stood := { row := diagramNewsRow, standIns := [], harness := (true, "e5b04073a33c8c74b1c9455c5f032782bfe9621810d2a44b3c975bd892de7e7d"), looks := true }, kinds := [], alts := [], laidByText := true, laidKinds := [.data, .data, .data], laidTests := true, laidLooks := .later }
def DiagramNewsCardSaid : Prop := Claim7.holds Tryz.pinned (.plain (OpenSpec.ofChange diagramNewsSpec)) diagramNewsCard

/-- THE TIED CARD OF 'sortilegelaw25.ProofMakes'. -/
def proofMakesCard : Claim7 := { stood := { row := proofMakesRow, standIns := [], harness := (true, "e5b04073a33c8c74b1c9455c5f032782bfe9621810d2a44b3c975bd892de7e7d"), looks := true }, kinds := [], alts := [], laidByText := true, laidKinds := [.data, .data, .data], laidTests := true, laidLooks := .later }
def ProofMakesCardSaid : Prop := Claim7.holds Tryz.pinned (.plain (OpenSpec.ofChange proofMakesSpec)) proofMakesCard

/-- THE TIED CARD OF 'sortilegelaw25.ProofAccepts'. -/
def proofAcceptsCard : Claim7 := { stood := { row := proofAcceptsRow, standIns := [], harness := (true, "e5b04073a33c8c74b1c9455c5f032782bfe9621810d2a44b3c975bd892de7e7d"), looks := true }, kinds := [], alts := [], laidByText := true, laidKinds := [.data, .data, .data], laidTests := true, laidLooks := .later }
def ProofAcceptsCardSaid : Prop := Claim7.holds Tryz.pinned (.plain (OpenSpec.ofChange proofAcceptsSpec)) proofAcceptsCard

/-- THE TIED CARD OF 'sortilegelaw25.ProofTampers'. -/
def proofTampersCard : Claim7 := { stood := { row := proofTampersRow, standIns := [], harness := (true, "e5b04073a33c8c74b1c9455c5f032782bfe9621810d2a44b3c975bd892de7e7d"), looks := true }, kinds := [], alts := [], laidByText := true, laidKinds := [.data, .data, .data], laidTests := true, laidLooks := .later }
def ProofTampersCardSaid : Prop := Claim7.holds Tryz.pinned (.plain (OpenSpec.ofChange proofTampersSpec)) proofTampersCard

/-- THE TIED CARD OF 'sortilegelaw25.ProofWholes'. -/
def proofWholesCard : Claim7 := { stood := { row := proofWholesRow, standIns := [], harness := (true, "e5b04073a33c8c74b1c9455c5f032782bfe9621810d2a44b3c975bd892de7e7d"), looks := true }, kinds := [], alts := [], laidByText := true, laidKinds := [.data, .data, .data], laidTests := true, laidLooks := .later }
def ProofWholesCardSaid : Prop := Claim7.holds Tryz.pinned (.plain (OpenSpec.ofChange proofWholesSpec)) proofWholesCard

/-- THE SECOND FORM's CARD OF 'sortilegelaw23.DiagramWeighs'. -/
def diagramWeighsUptoCard : Claim7 := { stood := { row := diagramWeighsUptoRow, standIns := [], harness := (true, "e5b04073a33c8c74b1c9455c5f032782bfe9621810d2a44b3c975bd892de7e7d"), looks := true }, kinds := [], alts := [], laidByText := true, laidKinds := [.data, .data, .data], laidTests := true, laidLooks := .later }
def DiagramWeighsUptoCardSaid : Prop := Claim7.holds Tryz.pinned (.plain (OpenSpec.upto diagramWeighsSpec)) diagramWeighsUptoCard

/-- THE SECOND FORM's CARD OF 'sortilegelaw23.DiagramOrders'. -/
def diagramOrdersUptoCard : Claim7 := { stood := { row := diagramOrdersUptoRow, standIns := [], harness := (true, "e5b04073a33c8c74b1c9455c5f032782bfe9621810d2a44b3c975bd892de7e7d"), looks := true }, kinds := [], alts := [], laidByText := true, laidKinds := [.data, .data, .data], laidTests := true, laidLooks := .later }
def DiagramOrdersUptoCardSaid : Prop := Claim7.holds Tryz.pinned (.plain (OpenSpec.upto diagramOrdersSpec)) diagramOrdersUptoCard

/-- THE SECOND FORM's CARD OF 'sortilegelaw23.DiagramNews'. -/
def diagramNewsUptoCard : Claim7 := { stood := { row := diagramNewsUptoRow, standIns := [], harness := (true, "e5b04073a33c8c74b1c9455c5f032782bfe9621810d2a44b3c975bd892de7e7d"), looks := true }, kinds := [], alts := [], laidByText := true, laidKinds := [.data, .data, .data], laidTests := true, laidLooks := .later }
def DiagramNewsUptoCardSaid : Prop := Claim7.holds Tryz.pinned (.plain (OpenSpec.upto diagramNewsSpec)) diagramNewsUptoCard

/-- THE SECOND FORM's CARD OF 'sortilegelaw25.ProofMakes'. -/
def proofMakesUptoCard : Claim7 := { stood := { row := proofMakesUptoRow, standIns := [], harness := (true, "e5b04073a33c8c74b1c9455c5f032782bfe9621810d2a44b3c975bd892de7e7d"), looks := true }, kinds := [], alts := [], laidByText := true, laidKinds := [.data, .data, .data], laidTests := true, laidLooks := .later }
def ProofMakesUptoCardSaid : Prop := Claim7.holds Tryz.pinned (.plain (OpenSpec.upto proofMakesSpec)) proofMakesUptoCard

/-- THE SECOND FORM's CARD OF 'sortilegelaw25.ProofAccepts'. -/
def proofAcceptsUptoCard : Claim7 := { stood := { row := proofAcceptsUptoRow, standIns := [], harness := (true, "e5b04073a33c8c74b1c9455c5f032782bfe9621810d2a44b3c975bd892de7e7d"), looks := true }, kinds := [], alts := [], laidByText := true, laidKinds := [.data, .data, .data], laidTests := true, laidLooks := .later }
def ProofAcceptsUptoCardSaid : Prop := Claim7.holds Tryz.pinned (.plain (OpenSpec.upto proofAcceptsSpec)) proofAcceptsUptoCard

/-- THE SECOND FORM's CARD OF 'sortilegelaw25.ProofTampers'. -/
def proofTampersUptoCard : Claim7 := { stood := { row := proofTampersUptoRow, standIns := [], harness := (true, "e5b04073a33c8c74b1c9455c5f032782bfe9621810d2a44b3c975bd892de7e7d"), looks := true }, kinds := [], alts := [], laidByText := true, laidKinds := [.data, .data, .data], laidTests := true, laidLooks := .later }
def ProofTampersUptoCardSaid : Prop := Claim7.holds Tryz.pinned (.plain (OpenSpec.upto proofTampersSpec)) proofTampersUptoCard

/-- THE SECOND FORM's CARD OF 'sortilegelaw25.ProofWholes'. -/
def proofWholesUptoCard : Claim7 := { stood := { row := proofWholesUptoRow, standIns := [], harness := (true, "e5b04073a33c8c74b1c9455c5f032782bfe9621810d2a44b3c975bd892de7e7d"), looks := true }, kinds := [], alts := [], laidByText := true, laidKinds := [.data, .data, .data], laidTests := true, laidLooks := .later }
def ProofWholesUptoCardSaid : Prop := Claim7.holds Tryz.pinned (.plain (OpenSpec.upto proofWholesSpec)) proofWholesUptoCard
end Rows
end Go.Proofs.YtiipgpkgcdhbfaaGreatDoor
