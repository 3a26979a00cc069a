/-
  DERIVED. GIVEN WITH THE SEED: THE CARDS: each row of YtpkhogofbdlfeaaDoorRows.lean that lists a variable, with what it lists TIED to the program's text (the seventh form; the later family's looks); each row that meets fmt, with fmt's text TOLD by the authors' own Lean function (tested against real Go, not proved from fmt's source: count such statements apart). THE CARD IS WHAT COUNTS. Prove the row's statement (the work); the ties are given (YtpkhogofbdlfeaaDoorTie.lean); close each card by the builder's one call (the guide's Derived/Test/ToyasCard.lean, 'card_holds'). Laid BY PROGRAM, IN A SANDBOX (cutbox-door.mjs). By AI agents, Wed Nov 11 2026. No macro, syntax, notation, axiom, sorry.
-/
import Derived.Test.YtpkhogofbdlfeaaDoorRows
import GoSem.ClaimSeven
namespace Go.Proofs.YtpkhogofbdlfeaaDoor
namespace Rows

/-- THE TIED CARD OF 'sortilegelaw23.DiagramSteps'. -/
def diagramStepsCard : Claim7 := { stood := { row := diagramStepsRow, standIns := [], harness := (true, "72685cbbd24cba88d538d2f81e1bf84acb472bf6df6c32119c12f5ede98b3d32"), looks := true }, kinds := [], alts := [], laidByText := true, laidKinds := [.data, .data, .data], laidTests := true, laidLooks := .later }
def DiagramStepsCardSaid : Prop := Claim7.holds Tryd.pinned (.plain (OpenSpec.ofChange diagramStepsSpec)) diagramStepsCard

/-- THE TIED CARD OF 'sortilegelaw23.DiagramOwn'. -/
def diagramOwnCard : Claim7 := { stood := { row := diagramOwnRow, standIns := [], harness := (true, "72685cbbd24cba88d538d2f81e1bf84acb472bf6df6c32119c12f5ede98b3d32"), looks := true }, kinds := [], alts := [], laidByText := true, laidKinds := [.data, .data, .data], laidTests := true, laidLooks := .later }
def DiagramOwnCardSaid : Prop := Claim7.holds Tryd.pinned (.plain (OpenSpec.ofChange diagramOwnSpec)) diagramOwnCard

/-- THE TIED CARD OF 'sortilegelaw23.DiagramApplyErrs'. -/
def diagramApplyErrsCard : Claim7 := { stood := { row := diagramApplyErrsRow, standIns := [], harness := (true, "72685cbbd24cba88d538d2f81e1bf84acb472bf6df6c32119c12f5ede98b3d32"), looks := true }, kinds := [], alts := [], laidByText := true, laidKinds := [.data, .data, .data], laidTests := true, laidLooks := .later }
def DiagramApplyErrsCardSaid : Prop := Claim7.holds Tryd.pinned (.plain (OpenSpec.ofChange diagramApplyErrsSpec)) diagramApplyErrsCard

/-- THE TIED CARD OF 'sortilegelaw23.DiagramTells'. -/
def diagramTellsCard : Claim7 := { stood := { row := diagramTellsRow, standIns := [], harness := (true, "72685cbbd24cba88d538d2f81e1bf84acb472bf6df6c32119c12f5ede98b3d32"), looks := true }, kinds := [], alts := [], laidByText := true, laidKinds := [.data, .data, .data], laidTests := true, laidLooks := .later }
def DiagramTellsCardSaid : Prop := Claim7.holds Tryd.pinned (.plain (OpenSpec.ofChange diagramTellsSpec)) diagramTellsCard

/-- THE TIED CARD OF 'sortilegelaw23.DiagramLoads'. -/
def diagramLoadsCard : Claim7 := { stood := { row := diagramLoadsRow, standIns := [], harness := (true, "72685cbbd24cba88d538d2f81e1bf84acb472bf6df6c32119c12f5ede98b3d32"), looks := true }, kinds := [], alts := [], laidByText := true, laidKinds := [.data, .data, .data], laidTests := true, laidLooks := .later }
def DiagramLoadsCardSaid : Prop := Claim7.holds Tryd.pinned (.plain (OpenSpec.ofChange diagramLoadsSpec)) diagramLoadsCard

/-- THE TIED CARD OF 'sortilegelaw23.DiagramRestricts'. -/
def diagramRestrictsCard : Claim7 := { stood := { row := diagramRestrictsRow, standIns := [], harness := (true, "72685cbbd24cba88d538d2f81e1bf84acb472bf6df6c32119c12f5ede98b3d32"), looks := true }, kinds := [], alts := [], laidByText := true, laidKinds := [.data, .data, .data], laidTests := true, laidLooks := .later }
def DiagramRestrictsCardSaid : Prop := Claim7.holds Tryd.pinned (.plain (OpenSpec.ofChange diagramRestrictsSpec)) diagramRestrictsCard

/-- THE TIED CARD OF 'sortilegelaw23.DiagramApplies'. -/
def diagramAppliesCard : Claim7 := { stood := { row := diagramAppliesRow, standIns := [], harness := (true, "72685cbbd24cba88d538d2f81e1bf84acb472bf6df6c32119c12f5ede98b3d32"), looks := true }, kinds := [], alts := [], laidByText := true, laidKinds := [.data, .data, .data], laidTests := true, laidLooks := .later }
def DiagramAppliesCardSaid : Prop := Claim7.holds Tryd.pinned (.plain (OpenSpec.ofChange diagramAppliesSpec)) diagramAppliesCard

/-- THE TIED CARD OF 'sortilegelaw23.DiagramBack'. -/
def diagramBackCard : Claim7 := { stood := { row := diagramBackRow, standIns := [], harness := (true, "72685cbbd24cba88d538d2f81e1bf84acb472bf6df6c32119c12f5ede98b3d32"), looks := true }, kinds := [], alts := [], laidByText := true, laidKinds := [.data, .data, .data], laidTests := true, laidLooks := .later }
def DiagramBackCardSaid : Prop := Claim7.holds Tryd.pinned (.plain (OpenSpec.ofChange diagramBackSpec)) diagramBackCard

/-- THE SECOND FORM's CARD OF 'sortilegelaw23.DiagramSteps'. -/
def diagramStepsUptoCard : Claim7 := { stood := { row := diagramStepsUptoRow, standIns := [], harness := (true, "72685cbbd24cba88d538d2f81e1bf84acb472bf6df6c32119c12f5ede98b3d32"), looks := true }, kinds := [], alts := [], laidByText := true, laidKinds := [.data, .data, .data], laidTests := true, laidLooks := .later }
def DiagramStepsUptoCardSaid : Prop := Claim7.holds Tryd.pinned (.plain (OpenSpec.upto diagramStepsSpec)) diagramStepsUptoCard

/-- THE SECOND FORM's CARD OF 'sortilegelaw23.DiagramOwn'. -/
def diagramOwnUptoCard : Claim7 := { stood := { row := diagramOwnUptoRow, standIns := [], harness := (true, "72685cbbd24cba88d538d2f81e1bf84acb472bf6df6c32119c12f5ede98b3d32"), looks := true }, kinds := [], alts := [], laidByText := true, laidKinds := [.data, .data, .data], laidTests := true, laidLooks := .later }
def DiagramOwnUptoCardSaid : Prop := Claim7.holds Tryd.pinned (.plain (OpenSpec.upto diagramOwnSpec)) diagramOwnUptoCard

/-- THE SECOND FORM's CARD OF 'sortilegelaw23.DiagramApplyErrs'. -/
def diagramApplyErrsUptoCard : Claim7 := { stood := { row := diagramApplyErrsUptoRow, standIns := [], harness := (true, "72685cbbd24cba88d538d2f81e1bf84acb472bf6df6c32119c12f5ede98b3d32"), looks := true }, kinds := [], alts := [], laidByText := true, laidKinds := [.data, .data, .data], laidTests := true, laidLooks := .later }
def DiagramApplyErrsUptoCardSaid : Prop := Claim7.holds Tryd.pinned (.plain (OpenSpec.upto diagramApplyErrsSpec)) diagramApplyErrsUptoCard

/-- THE SECOND FORM's CARD OF 'sortilegelaw23.DiagramTells'. -/
def diagramTellsUptoCard : Claim7 := { stood := { row := diagramTellsUptoRow, standIns := [], harness := (true, "72685cbbd24cba88d538d2f81e1bf84acb472bf6df6c32119c12f5ede98b3d32"), looks := true }, kinds := [], alts := [], laidByText := true, laidKinds := [.data, .data, .data], laidTests := true, laidLooks := .later }
def DiagramTellsUptoCardSaid : Prop := Claim7.holds Tryd.pinned (.plain (OpenSpec.upto diagramTellsSpec)) diagramTellsUptoCard

/-- THE SECOND FORM's CARD OF 'sortilegelaw23.DiagramLoads'. -/
def diagramLoadsUptoCard : Claim7 := { stood := { row := diagramLoadsUptoRow, standIns := [], harness := (true, "72685cbbd24cba88d538d2f81e1bf84acb472bf6df6c32119c12f5ede98b3d32"), looks := true }, kinds := [], alts := [], laidByText := true, laidKinds := [.data, .data, .data], laidTests := true, laidLooks := .later }
def DiagramLoadsUptoCardSaid : Prop := Claim7.holds Tryd.pinned (.plain (OpenSpec.upto diagramLoadsSpec)) diagramLoadsUptoCard

/-- THE SECOND FORM's CARD OF 'sortilegelaw23.DiagramRestricts'. -/
def diagramRestrictsUptoCard : Claim7 := { stood := { row := diagramRestrictsUptoRow, standIns := [], harness := (true, "72685cbbd24cba88d538d2f81e1bf84acb472bf6df6c32119c12f5ede98b3d32"), looks := true }, kinds := [], alts := [], laidByText := true, laidKinds := [.data, .data, .data], laidTests := true, laidLooks := .later }
def DiagramRestrictsUptoCardSaid : Prop := Claim7.holds Tryd.pinned (.plain (OpenSpec.upto diagramRestrictsSpec)) diagramRestrictsUptoCard

/-- THE SECOND FORM's CARD OF 'sortilegelaw23.DiagramApplies'. -/
def diagramAppliesUptoCard : Claim7 := { stood := { row := diagramAppliesUptoRow, standIns := [], harness := (true, "72685cbbd24cba88d538d2f81e1bf84acb472bf6df6c32119c12f5ede98b3d32"), looks := true }, kinds := [], alts := [], laidByText := true, laidKinds := [.data, .data, .data], laidTests := true, laidLooks := .later }
def DiagramAppliesUptoCardSaid : Prop := Claim7.holds Tryd.pinned (.plain (OpenSpec.upto diagramAppliesSpec)) diagramAppliesUptoCard

/-- THE SECOND FORM's CARD OF 'sortilegelaw23.DiagramBack'. -/
def diagramBackUptoCard : Claim7 := { stood := { row := diagramBackUptoRow, standIns := [], harness := (true, "72685cbbd24cba88d538d2f81e1bf84acb472bf6df6c32119c12f5ede98b3d32"), looks := true }, kinds := [], alts := [], laidByText := true, laidKinds := [.data, .data, .data], laidTests := true, laidLooks := .later }
def DiagramBackUptoCardSaid : Prop := Claim7.holds Tryd.pinned (.plain (OpenSpec.upto diagramBackSpec)) diagramBackUptoCard
end Rows
end Go.Proofs.YtpkhogofbdlfeaaDoor
