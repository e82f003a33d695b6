/-
  DERIVED. GIVEN WITH THE SEED: THE CARDS: each row of YtjimmpldofoimaaGreatDoorRows.lean that lists a variable, with what it lists TIED to the program's text (the seventh form; the later family's looks); each row that meets fmt, with fmt's text TOLD by the authors' own Lean function (tested against real Go, not proved from fmt's source: count such statements apart). THE CARD IS WHAT COUNTS. Prove the row's statement (the work); the ties are given (YtjimmpldofoimaaGreatDoorTie.lean); close each card by the builder's one call (the guide's Derived/Test/ToyasCard.lean, 'card_holds'). Laid BY PROGRAM, IN A SANDBOX (cutbox-door.mjs). By AI agents, Wed Nov 11 2026. No macro, syntax, notation, axiom, sorry.
-/
import Derived.Test.YtjimmpldofoimaaGreatDoorRows
import GoSem.ClaimSeven
namespace Go.Proofs.YtjimmpldofoimaaGreatDoor
namespace Rows

/-- THE TIED CARD OF 'bailmentlaw29.ProveChecks'. -/
def proveChecksCard : Claim7 := { stood := { row := proveChecksRow, standIns := [], harness := (true, "fd0a5496741cf13a563863e7cc9c9bf2af3894b6f91ceb4f6891ec9aa67d9dad"), looks := false }, kinds := [], alts := [], laidByText := true, laidKinds := [.data, .data, .data, .data, .funcs], laidTests := true, laidLooks := .later }
def ProveChecksCardSaid : Prop := Claim7.holds Tryz.pinned (.plain (OpenSpec.ofChange proveChecksSpec)) proveChecksCard

/-- THE TIED CARD OF 'bailmentlaw29.ProveSearches'. -/
def proveSearchesCard : Claim7 := { stood := { row := proveSearchesRow, standIns := [], harness := (true, "fd0a5496741cf13a563863e7cc9c9bf2af3894b6f91ceb4f6891ec9aa67d9dad"), looks := false }, kinds := [], alts := [], laidByText := true, laidKinds := [.data, .data, .data, .data, .funcs], laidTests := true, laidLooks := .later }
def ProveSearchesCardSaid : Prop := Claim7.holds Tryz.pinned (.plain (OpenSpec.ofChange proveSearchesSpec)) proveSearchesCard

/-- THE TIED CARD OF 'bailmentlaw10.FormulaHolds'. -/
def formulaHoldsCard : Claim7 := { stood := { row := formulaHoldsRow, standIns := [], harness := (true, "fd0a5496741cf13a563863e7cc9c9bf2af3894b6f91ceb4f6891ec9aa67d9dad"), looks := false }, kinds := [], alts := [], laidByText := true, laidKinds := [.data, .data, .data, .funcs, .data], laidTests := true, laidLooks := .later }
def FormulaHoldsCardSaid : Prop := Claim7.holds Tryz.pinned (.plain (OpenSpec.ofChange formulaHoldsSpec)) formulaHoldsCard

/-- THE TIED CARD OF 'bailmentlaw10.FormulaCases'. -/
def formulaCasesCard : Claim7 := { stood := { row := formulaCasesRow, standIns := [], harness := (true, "fd0a5496741cf13a563863e7cc9c9bf2af3894b6f91ceb4f6891ec9aa67d9dad"), looks := false }, kinds := [], alts := [], laidByText := true, laidKinds := [.data, .data, .data, .funcs, .data], laidTests := true, laidLooks := .later }
def FormulaCasesCardSaid : Prop := Claim7.holds Tryz.pinned (.plain (OpenSpec.ofChange formulaCasesSpec)) formulaCasesCard

/-- THE TIED CARD OF 'bailmentlaw10.FormulaPuts'. -/
def formulaPutsCard : Claim7 := { stood := { row := formulaPutsRow, standIns := [], harness := (true, "fd0a5496741cf13a563863e7cc9c9bf2af3894b6f91ceb4f6891ec9aa67d9dad"), looks := false }, kinds := [], alts := [], laidByText := true, laidKinds := [.data, .data, .data, .funcs, .data], laidTests := true, laidLooks := .later }
def FormulaPutsCardSaid : Prop := Claim7.holds Tryz.pinned (.plain (OpenSpec.ofChange formulaPutsSpec)) formulaPutsCard

/-- THE TIED CARD OF 'bailmentlaw10.FormulaRanges'. -/
def formulaRangesCard : Claim7 := { stood := { row := formulaRangesRow, standIns := [], harness := (true, "fd0a5496741cf13a563863e7cc9c9bf2af3894b6f91ceb4f6891ec9aa67d9dad"), looks := false }, kinds := [], alts := [], laidByText := true, laidKinds := [.data, .data, .data, .funcs, .data], laidTests := true, laidLooks := .later }
def FormulaRangesCardSaid : Prop := Claim7.holds Tryz.pinned (.plain (OpenSpec.ofChange formulaRangesSpec)) formulaRangesCard

/-- THE TIED CARD OF 'bailmentlaw10.FormulaJoins'. -/
def formulaJoinsCard : Claim7 := { stood := { row := formulaJoinsRow, standIns := [], harness := (true, "fd0a5496741cf13a563863e7cc9c9bf2af3894b6f91ceb4f6891ec9aa67d9dad"), looks := false }, kinds := [], alts := [], laidByText := true, laidKinds := [.data, .data, .data, .funcs, .data], laidTests := true, laidLooks := .later }
def FormulaJoinsCardSaid : Prop := Claim7.holds Tryz.pinned (.plain (OpenSpec.ofChange formulaJoinsSpec)) formulaJoinsCard

/-- THE TIED CARD OF 'bailmentlaw10.FormulaTerms'. -/
def formulaTermsCard : Claim7 := { stood := { row := formulaTermsRow, standIns := [], harness := (true, "fd0a5496741cf13a563863e7cc9c9bf2af3894b6f91ceb4f6891ec9aa67d9dad"), looks := false }, kinds := [], alts := [], laidByText := true, laidKinds := [.data, .data, .data, .funcs, .data], laidTests := true, laidLooks := .later }
def FormulaTermsCardSaid : Prop := Claim7.holds Tryz.pinned (.plain (OpenSpec.ofChange formulaTermsSpec)) formulaTermsCard

/-- THE TIED CARD OF 'bailmentlaw29.ProveModels'. -/
def proveModelsCard : Claim7 := { stood := { row := proveModelsRow, standIns := [], harness := (true, "fd0a5496741cf13a563863e7cc9c9bf2af3894b6f91ceb4f6891ec9aa67d9dad"), looks := false }, kinds := [], alts := [], laidByText := true, laidKinds := [.data, .data, .data, .data, .funcs], laidTests := true, laidLooks := .later }
def ProveModelsCardSaid : Prop := Claim7.holds Tryz.pinned (.plain (OpenSpec.ofChange proveModelsSpec)) proveModelsCard

/-- THE TIED CARD OF 'bailmentlaw29.ProveTrue'. -/
def proveTrueCard : Claim7 := { stood := { row := proveTrueRow, standIns := [], harness := (true, "fd0a5496741cf13a563863e7cc9c9bf2af3894b6f91ceb4f6891ec9aa67d9dad"), looks := false }, kinds := [], alts := [], laidByText := true, laidKinds := [.data, .data, .data, .data, .funcs], laidTests := true, laidLooks := .later }
def ProveTrueCardSaid : Prop := Claim7.holds Tryz.pinned (.plain (OpenSpec.ofChange proveTrueSpec)) proveTrueCard

/-- THE TIED CARD OF 'bailmentlaw10.FormulaMeans'. -/
def formulaMeansCard : Claim7 := { stood := { row := formulaMeansRow, standIns := [], harness := (true, "fd0a5496741cf13a563863e7cc9c9bf2af3894b6f91ceb4f6891ec9aa67d9dad"), looks := false }, kinds := [], alts := [], laidByText := true, laidKinds := [.data, .data, .data, .funcs, .data], laidTests := true, laidLooks := .later }
def FormulaMeansCardSaid : Prop := Claim7.holds Tryz.pinned (.plain (OpenSpec.ofChange formulaMeansSpec)) formulaMeansCard

/-- THE TIED CARD OF 'bailmentlaw29.ProveFinds'. -/
def proveFindsCard : Claim7 := { stood := { row := proveFindsRow, standIns := [], harness := (true, "fd0a5496741cf13a563863e7cc9c9bf2af3894b6f91ceb4f6891ec9aa67d9dad"), looks := false }, kinds := [], alts := [], laidByText := true, laidKinds := [.data, .data, .data, .funcs, .data, .data, .funcs], laidTests := true, laidLooks := .later }
def ProveFindsCardSaid : Prop := Claim7.holds Tryz.pinned (.plain (OpenSpec.ofChange proveFindsSpec)) proveFindsCard

/-- THE TIED CARD OF 'bailmentlaw29.ProveNever'. -/
def proveNeverCard : Claim7 := { stood := { row := proveNeverRow, standIns := [], harness := (true, "fd0a5496741cf13a563863e7cc9c9bf2af3894b6f91ceb4f6891ec9aa67d9dad"), looks := false }, kinds := [], alts := [], laidByText := true, laidKinds := [.data, .data, .data, .data, .funcs, .data, .data, .funcs, .pinned], laidTests := true, laidLooks := .later }
def ProveNeverCardSaid : Prop := Claim7.holds Tryz.pinned (.plain (OpenSpec.ofChange proveNeverSpec)) proveNeverCard

/-- THE TIED CARD OF 'bailmentlaw29.ProveFormulas'. -/
def proveFormulasCard : Claim7 := { stood := { row := proveFormulasRow, standIns := [], harness := (true, "fd0a5496741cf13a563863e7cc9c9bf2af3894b6f91ceb4f6891ec9aa67d9dad"), looks := false }, kinds := [], alts := [], laidByText := true, laidKinds := [.data, .data, .data, .funcs, .data, .data, .funcs], laidTests := true, laidLooks := .later }
def ProveFormulasCardSaid : Prop := Claim7.holds Tryz.pinned (.plain (OpenSpec.ofChange proveFormulasSpec)) proveFormulasCard

/-- THE TIED CARD OF 'bailmentlaw29.ProveStrings'. -/
def proveStringsCard : Claim7 := { stood := { row := proveStringsRow, standIns := [], harness := (true, "fd0a5496741cf13a563863e7cc9c9bf2af3894b6f91ceb4f6891ec9aa67d9dad"), looks := false }, kinds := [], alts := [], laidByText := true, laidKinds := [.data, .data, .data, .data, .data, .funcs, .pinned], laidTests := true, laidLooks := .later }
def ProveStringsCardSaid : Prop := Claim7.holds Tryz.pinned (.plain (OpenSpec.ofChange proveStringsSpec)) proveStringsCard

/-- THE TIED CARD OF 'bailmentlaw10.FormulaStrings'. -/
def formulaStringsCard : Claim7 := { stood := { row := formulaStringsRow, standIns := [], harness := (true, "fd0a5496741cf13a563863e7cc9c9bf2af3894b6f91ceb4f6891ec9aa67d9dad"), looks := false }, kinds := [], alts := [], laidByText := true, laidKinds := [.data, .data, .data, .data, .funcs, .data, .pinned], laidTests := true, laidLooks := .later }
def FormulaStringsCardSaid : Prop := Claim7.holds Tryz.pinned (.plain (OpenSpec.ofChange formulaStringsSpec)) formulaStringsCard

/-- THE TIED CARD OF 'bailmentlaw10.FormulaMoves'. -/
def formulaMovesCard : Claim7 := { stood := { row := formulaMovesRow, standIns := [], harness := (true, "fd0a5496741cf13a563863e7cc9c9bf2af3894b6f91ceb4f6891ec9aa67d9dad"), looks := false }, kinds := [], alts := [], laidByText := true, laidKinds := [.data, .data, .data, .data, .funcs, .data, .pinned], laidTests := true, laidLooks := .later }
def FormulaMovesCardSaid : Prop := Claim7.holds Tryz.pinned (.plain (OpenSpec.ofChange formulaMovesSpec)) formulaMovesCard

/-- THE SECOND FORM's CARD OF 'bailmentlaw29.ProveChecks'. -/
def proveChecksUptoCard : Claim7 := { stood := { row := proveChecksUptoRow, standIns := [], harness := (true, "fd0a5496741cf13a563863e7cc9c9bf2af3894b6f91ceb4f6891ec9aa67d9dad"), looks := false }, kinds := [], alts := [], laidByText := true, laidKinds := [.data, .data, .data, .data, .funcs], laidTests := true, laidLooks := .later }
def ProveChecksUptoCardSaid : Prop := Claim7.holds Tryz.pinned (.plain (OpenSpec.upto proveChecksSpec)) proveChecksUptoCard

/-- THE SECOND FORM's CARD OF 'bailmentlaw29.ProveSearches'. -/
def proveSearchesUptoCard : Claim7 := { stood := { row := proveSearchesUptoRow, standIns := [], harness := (true, "fd0a5496741cf13a563863e7cc9c9bf2af3894b6f91ceb4f6891ec9aa67d9dad"), looks := false }, kinds := [], alts := [], laidByText := true, laidKinds := [.data, .data, .data, .data, .funcs], laidTests := true, laidLooks := .later }
def ProveSearchesUptoCardSaid : Prop := Claim7.holds Tryz.pinned (.plain (OpenSpec.upto proveSearchesSpec)) proveSearchesUptoCard

/-- THE SECOND FORM's CARD OF 'bailmentlaw10.FormulaHolds'. -/
def formulaHoldsUptoCard : Claim7 := { stood := { row := formulaHoldsUptoRow, standIns := [], harness := (true, "fd0a5496741cf13a563863e7cc9c9bf2af3894b6f91ceb4f6891ec9aa67d9dad"), looks := false }, kinds := [], alts := [], laidByText := true, laidKinds := [.data, .data, .data, .funcs, .data], laidTests := true, laidLooks := .later }
def FormulaHoldsUptoCardSaid : Prop := Claim7.holds Tryz.pinned (.plain (OpenSpec.upto formulaHoldsSpec)) formulaHoldsUptoCard

/-- THE SECOND FORM's CARD OF 'bailmentlaw10.FormulaCases'. -/
def formulaCasesUptoCard : Claim7 := { stood := { row := formulaCasesUptoRow, standIns := [], harness := (true, "fd0a5496741cf13a563863e7cc9c9bf2af3894b6f91ceb4f6891ec9aa67d9dad"), looks := false }, kinds := [], alts := [], laidByText := true, laidKinds := [.data, .data, .data, .funcs, .data], laidTests := true, laidLooks := .later }
def FormulaCasesUptoCardSaid : Prop := Claim7.holds Tryz.pinned (.plain (OpenSpec.upto formulaCasesSpec)) formulaCasesUptoCard

/-- THE SECOND FORM's CARD OF 'bailmentlaw10.FormulaPuts'. -/
def formulaPutsUptoCard : Claim7 := { stood := { row := formulaPutsUptoRow, standIns := [], harness := (true, "fd0a5496741cf13a563863e7cc9c9bf2af3894b6f91ceb4f6891ec9aa67d9dad"), looks := false }, kinds := [], alts := [], laidByText := true, laidKinds := [.data, .data, .data, .funcs, .data], laidTests := true, laidLooks := .later }
def FormulaPutsUptoCardSaid : Prop := Claim7.holds Tryz.pinned (.plain (OpenSpec.upto formulaPutsSpec)) formulaPutsUptoCard

/-- THE SECOND FORM's CARD OF 'bailmentlaw10.FormulaRanges'. -/
def formulaRangesUptoCard : Claim7 := { stood := { row := formulaRangesUptoRow, standIns := [], harness := (true, "fd0a5496741cf13a563863e7cc9c9bf2af3894b6f91ceb4f6891ec9aa67d9dad"), looks := false }, kinds := [], alts := [], laidByText := true, laidKinds := [.data, .data, .data, .funcs, .data], laidTests := true, laidLooks := .later }
def FormulaRangesUptoCardSaid : Prop := Claim7.holds Tryz.pinned (.plain (OpenSpec.upto formulaRangesSpec)) formulaRangesUptoCard

/-- THE SECOND FORM's CARD OF 'bailmentlaw10.FormulaJoins'. -/
def formulaJoinsUptoCard : Claim7 := { stood := { row := formulaJoinsUptoRow, standIns := [], harness := (true, "fd0a5496741cf13a563863e7cc9c9bf2af3894b6f91ceb4f6891ec9aa67d9dad"), looks := false }, kinds := [], alts := [], laidByText := true, laidKinds := [.data, .data, .data, .funcs, .data], laidTests := true, laidLooks := .later }
def FormulaJoinsUptoCardSaid : Prop := Claim7.holds Tryz.pinned (.plain (OpenSpec.upto formulaJoinsSpec)) formulaJoinsUptoCard

/-- THE SECOND FORM's CARD OF 'bailmentlaw10.FormulaTerms'. -/
def formulaTermsUptoCard : Claim7 := { stood := { row := formulaTermsUptoRow, standIns := [], harness := (true, "fd0a5496741cf13a563863e7cc9c9bf2af3894b6f91ceb4f6891ec9aa67d9dad"), looks := false }, kinds := [], alts := [], laidByText := true, laidKinds := [.data, .data, .data, .funcs, .data], laidTests := true, laidLooks := .later }
def FormulaTermsUptoCardSaid : Prop := Claim7.holds Tryz.pinned (.plain (OpenSpec.upto formulaTermsSpec)) formulaTermsUptoCard

/-- THE SECOND FORM's CARD OF 'bailmentlaw29.ProveModels'. -/
def proveModelsUptoCard : Claim7 := { stood := { row := proveModelsUptoRow, standIns := [], harness := (true, "fd0a5496741cf13a563863e7cc9c9bf2af3894b6f91ceb4f6891ec9aa67d9dad"), looks := false }, kinds := [], alts := [], laidByText := true, laidKinds := [.data, .data, .data, .data, .funcs], laidTests := true, laidLooks := .later }
def ProveModelsUptoCardSaid : Prop := Claim7.holds Tryz.pinned (.plain (OpenSpec.upto proveModelsSpec)) proveModelsUptoCard

/-- THE SECOND FORM's CARD OF 'bailmentlaw29.ProveTrue'. -/
def proveTrueUptoCard : Claim7 := { stood := { row := proveTrueUptoRow, standIns := [], harness := (true, "fd0a5496741cf13a563863e7cc9c9bf2af3894b6f91ceb4f6891ec9aa67d9dad"), looks := false }, kinds := [], alts := [], laidByText := true, laidKinds := [.data, .data, .data, .data, .funcs], laidTests := true, laidLooks := .later }
def ProveTrueUptoCardSaid : Prop := Claim7.holds Tryz.pinned (.plain (OpenSpec.upto proveTrueSpec)) proveTrueUptoCard

/-- THE SECOND FORM's CARD OF 'bailmentlaw10.FormulaMeans'. -/
def formulaMeansUptoCard : Claim7 := { stood := { row := formulaMeansUptoRow, standIns := [], harness := (true, "fd0a5496741cf13a563863e7cc9c9bf2af3894b6f91ceb4f6891ec9aa67d9dad"), looks := false }, kinds := [], alts := [], laidByText := true, laidKinds := [.data, .data, .data, .funcs, .data], laidTests := true, laidLooks := .later }
def FormulaMeansUptoCardSaid : Prop := Claim7.holds Tryz.pinned (.plain (OpenSpec.upto formulaMeansSpec)) formulaMeansUptoCard

/-- THE SECOND FORM's CARD OF 'bailmentlaw29.ProveFinds'. -/
def proveFindsUptoCard : Claim7 := { stood := { row := proveFindsUptoRow, standIns := [], harness := (true, "fd0a5496741cf13a563863e7cc9c9bf2af3894b6f91ceb4f6891ec9aa67d9dad"), looks := false }, kinds := [], alts := [], laidByText := true, laidKinds := [.data, .data, .data, .funcs, .data, .data, .funcs], laidTests := true, laidLooks := .later }
def ProveFindsUptoCardSaid : Prop := Claim7.holds Tryz.pinned (.plain (OpenSpec.upto proveFindsSpec)) proveFindsUptoCard

/-- THE SECOND FORM's CARD OF 'bailmentlaw29.ProveNever'. -/
def proveNeverUptoCard : Claim7 := { stood := { row := proveNeverUptoRow, standIns := [], harness := (true, "fd0a5496741cf13a563863e7cc9c9bf2af3894b6f91ceb4f6891ec9aa67d9dad"), looks := false }, kinds := [], alts := [], laidByText := true, laidKinds := [.data, .data, .data, .data, .funcs, .data, .data, .funcs, .pinned], laidTests := true, laidLooks := .later }
def ProveNeverUptoCardSaid : Prop := Claim7.holds Tryz.pinned (.plain (OpenSpec.upto proveNeverSpec)) proveNeverUptoCard

/-- THE SECOND FORM's CARD OF 'bailmentlaw29.ProveFormulas'. -/
def proveFormulasUptoCard : Claim7 := { stood := { row := proveFormulasUptoRow, standIns := [], harness := (true, "fd0a5496741cf13a563863e7cc9c9bf2af3894b6f91ceb4f6891ec9aa67d9dad"), looks := false }, kinds := [], alts := [], laidByText := true, laidKinds := [.data, .data, .data, .funcs, .data, .data, .funcs], laidTests := true, laidLooks := .later }
def ProveFormulasUptoCardSaid : Prop := Claim7.holds Tryz.pinned (.plain (OpenSpec.upto proveFormulasSpec)) proveFormulasUptoCard

/-- THE SECOND FORM's CARD OF 'bailmentlaw29.ProveStrings'. -/
def proveStringsUptoCard : Claim7 := { stood := { row := proveStringsUptoRow, standIns := [], harness := (true, "fd0a5496741cf13a563863e7cc9c9bf2af3894b6f91ceb4f6891ec9aa67d9dad"), looks := false }, kinds := [], alts := [], laidByText := true, laidKinds := [.data, .data, .data, .data, .data, .funcs, .pinned], laidTests := true, laidLooks := .later }
def ProveStringsUptoCardSaid : Prop := Claim7.holds Tryz.pinned (.plain (OpenSpec.upto proveStringsSpec)) proveStringsUptoCard

/-- THE SECOND FORM's CARD OF 'bailmentlaw10.FormulaStrings'. -/
def formulaStringsUptoCard : Claim7 := { stood := { row := formulaStringsUptoRow, standIns := [], harness := (true, "fd0a5496741cf13a563863e7cc9c9bf2af3894b6f91ceb4f6891ec9aa67d9dad"), looks := false }, kinds := [], alts := [], laidByText := true, laidKinds := [.data, .data, .data, .data, .funcs, .data, .pinned], laidTests := true, laidLooks := .later }
def FormulaStringsUptoCardSaid : Prop := Claim7.holds Tryz.pinned (.plain (OpenSpec.upto formulaStringsSpec)) formulaStringsUptoCard

/-- THE SECOND FORM's CARD OF 'bailmentlaw10.FormulaMoves'. -/
def formulaMovesUptoCard : Claim7 := { stood := { row := formulaMovesUptoRow, standIns := [], harness := (true, "fd0a5496741cf13a563863e7cc9c9bf2af3894b6f91ceb4f6891ec9aa67d9dad"), looks := false }, kinds := [], alts := [], laidByText := true, laidKinds := [.data, .data, .data, .data, .funcs, .data, .pinned], laidTests := true, laidLooks := .later }
def FormulaMovesUptoCardSaid : Prop := Claim7.holds Tryz.pinned (.plain (OpenSpec.upto formulaMovesSpec)) formulaMovesUptoCard
end Rows
end Go.Proofs.YtjimmpldofoimaaGreatDoor
