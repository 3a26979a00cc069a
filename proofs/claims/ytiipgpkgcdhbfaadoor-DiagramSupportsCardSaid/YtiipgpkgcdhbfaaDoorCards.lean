/-
  DERIVED. GIVEN WITH THE SEED: THE CARDS: each row of YtiipgpkgcdhbfaaDoorRows.lean that lists a variable, with what it lists TIED to the program's text (the seventh form; the later family's looks); each row that meets fmt, with fmt's text TOLD by the authors' own Lean function (tested against real Go, not proved from fmt's source: count such statements apart). THE CARD IS WHAT COUNTS. Prove the row's statement (the work); the ties are given (YtiipgpkgcdhbfaaDoorTie.lean); close each card by the builder's one call (the guide's Derived/Test/ToyasCard.lean, 'card_holds'). Laid BY PROGRAM, IN A SANDBOX (cutbox-door.mjs). By AI agents, Wed Nov 11 2026. No macro, syntax, notation, axiom, sorry.
-/
import Derived.Test.YtiipgpkgcdhbfaaDoorRows
import GoSem.ClaimSeven
namespace Go.Proofs.YtiipgpkgcdhbfaaDoor
namespace Rows

/-- THE TIED CARD OF 'sortilegelaw23.DiagramSupports'. -/
def diagramSupportsCard : Claim7 := { stood := { row := diagramSupportsRow, standIns := [], harness := (true, "2592ac7898a0a880bde2e31c318a4bd0837ee8341357df06c14700c1e92422b7"), looks := true }, kinds := [], alts := [], laidByText := true, laidKinds := [.data, .data, .data], laidTests := true, laidLooks := .later }
def DiagramSupportsCardSaid : Prop := Claim7.holds Tryd.pinned (.plain (OpenSpec.ofChange diagramSupportsSpec)) diagramSupportsCard

/-- THE SECOND FORM's CARD OF 'sortilegelaw23.DiagramSupports'. -/
def diagramSupportsUptoCard : Claim7 := { stood := { row := diagramSupportsUptoRow, standIns := [], harness := (true, "2592ac7898a0a880bde2e31c318a4bd0837ee8341357df06c14700c1e92422b7"), looks := true }, kinds := [], alts := [], laidByText := true, laidKinds := [.data, .data, .data], laidTests := true, laidLooks := .later }
def DiagramSupportsUptoCardSaid : Prop := Claim7.holds Tryd.pinned (.plain (OpenSpec.upto diagramSupportsSpec)) diagramSupportsUptoCard
end Rows
end Go.Proofs.YtiipgpkgcdhbfaaDoor
