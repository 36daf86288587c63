/-
  DERIVED. GIVEN WITH THE SEED: THE CARDS: each row of YtkongcnmkiihjaaGreatDoorRows.lean that lists a variable, with what it lists TIED to the program's text (the seventh form; the later family's looks); each row that meets fmt, with fmt's text TOLD by the authors' own Lean function (tested against real Go, not proved from fmt's source: count such statements apart). THE CARD IS WHAT COUNTS. Prove the row's statement (the work); the ties are given (YtkongcnmkiihjaaGreatDoorTie.lean); close each card by the builder's one call (the guide's Derived/Test/ToyasCard.lean, 'card_holds'). Laid BY PROGRAM, IN A SANDBOX (cutbox-door.mjs). By AI agents, Wed Nov 11 2026. No macro, syntax, notation, axiom, sorry.
-/
import Derived.Test.YtkongcnmkiihjaaGreatDoorRows
import GoSem.ClaimSeven
namespace Go.Proofs.YtkongcnmkiihjaaGreatDoor
namespace Rows

/-- THE TIED CARD OF 'moveoutlaw06.VelocityMoved'. -/
def velocityMovedCard : Claim7 := { stood := { row := velocityMovedRow, standIns := [], harness := (true, "a1a323c512223edc39f4736b19c83dbf0e7abd5a77a6adfc6f65b5272966d8f1"), looks := false }, kinds := [], alts := [], laidByText := true, laidKinds := [.data, .data, .data, .data, .data], laidTests := true, laidLooks := .later }
def VelocityMovedCardSaid : Prop := Claim7.holds Tryz.pinned (.plain (OpenSpec.ofChange velocityMovedSpec)) velocityMovedCard

/-- THE TIED CARD OF 'moveoutlaw06.VelocityPotentials'. -/
def velocityPotentialsCard : Claim7 := { stood := { row := velocityPotentialsRow, standIns := [], harness := (true, "a1a323c512223edc39f4736b19c83dbf0e7abd5a77a6adfc6f65b5272966d8f1"), looks := false }, kinds := [], alts := [], laidByText := true, laidKinds := [.data, .data, .data, .data, .data], laidTests := true, laidLooks := .later }
def VelocityPotentialsCardSaid : Prop := Claim7.holds Tryz.pinned (.plain (OpenSpec.ofChange velocityPotentialsSpec)) velocityPotentialsCard

/-- THE TIED CARD OF 'moveoutlaw06.VelocityHyperbolas'. -/
def velocityHyperbolasCard : Claim7 := { stood := { row := velocityHyperbolasRow, standIns := [], harness := (true, "a1a323c512223edc39f4736b19c83dbf0e7abd5a77a6adfc6f65b5272966d8f1"), looks := false }, kinds := [], alts := [], laidByText := true, laidKinds := [.data, .data, .data, .data, .data], laidTests := true, laidLooks := .later }
def VelocityHyperbolasCardSaid : Prop := Claim7.holds Tryz.pinned (.plain (OpenSpec.ofChange velocityHyperbolasSpec)) velocityHyperbolasCard

/-- THE TIED CARD OF 'moveoutlaw06.VelocityPaths'. -/
def velocityPathsCard : Claim7 := { stood := { row := velocityPathsRow, standIns := [], harness := (true, "a1a323c512223edc39f4736b19c83dbf0e7abd5a77a6adfc6f65b5272966d8f1"), looks := false }, kinds := [], alts := [], laidByText := true, laidKinds := [.data, .data, .data, .data, .data], laidTests := true, laidLooks := .later }
def VelocityPathsCardSaid : Prop := Claim7.holds Tryz.pinned (.plain (OpenSpec.ofChange velocityPathsSpec)) velocityPathsCard

/-- THE TIED CARD OF 'moveoutlaw06.VelocityProved'. -/
def velocityProvedCard : Claim7 := { stood := { row := velocityProvedRow, standIns := [], harness := (true, "a1a323c512223edc39f4736b19c83dbf0e7abd5a77a6adfc6f65b5272966d8f1"), looks := false }, kinds := [], alts := [], laidByText := true, laidKinds := [.data, .data, .data, .data, .data], laidTests := true, laidLooks := .later }
def VelocityProvedCardSaid : Prop := Claim7.holds Tryz.pinned (.plain (OpenSpec.ofChange velocityProvedSpec)) velocityProvedCard

/-- THE TIED CARD OF 'moveoutlaw06.VelocityMoments'. -/
def velocityMomentsCard : Claim7 := { stood := { row := velocityMomentsRow, standIns := [], harness := (true, "a1a323c512223edc39f4736b19c83dbf0e7abd5a77a6adfc6f65b5272966d8f1"), looks := false }, kinds := [], alts := [], laidByText := true, laidKinds := [.data, .data, .data, .data, .data], laidTests := true, laidLooks := .later }
def VelocityMomentsCardSaid : Prop := Claim7.holds Tryz.pinned (.plain (OpenSpec.ofChange velocityMomentsSpec)) velocityMomentsCard

/-- THE TIED CARD OF 'moveoutlaw06.VelocityExplained'. -/
def velocityExplainedCard : Claim7 := { stood := { row := velocityExplainedRow, standIns := [], harness := (true, "a1a323c512223edc39f4736b19c83dbf0e7abd5a77a6adfc6f65b5272966d8f1"), looks := false }, kinds := [], alts := [], laidByText := true, laidKinds := [.data, .data, .data, .data, .data], laidTests := true, laidLooks := .later }
def VelocityExplainedCardSaid : Prop := Claim7.holds Tryz.pinned (.plain (OpenSpec.ofChange velocityExplainedSpec)) velocityExplainedCard

/-- THE TIED CARD OF 'moveoutlaw06.VelocityGathers'. -/
def velocityGathersCard : Claim7 := { stood := { row := velocityGathersRow, standIns := [], harness := (true, "a1a323c512223edc39f4736b19c83dbf0e7abd5a77a6adfc6f65b5272966d8f1"), looks := false }, kinds := [], alts := [], laidByText := true, laidKinds := [.data, .data, .data, .data, .data], laidTests := true, laidLooks := .later }
def VelocityGathersCardSaid : Prop := Claim7.holds Tryz.pinned (.plain (OpenSpec.ofChange velocityGathersSpec)) velocityGathersCard

/-- THE TIED CARD OF 'moveoutlaw06.VelocityPanels'. -/
def velocityPanelsCard : Claim7 := { stood := { row := velocityPanelsRow, standIns := [], harness := (true, "a1a323c512223edc39f4736b19c83dbf0e7abd5a77a6adfc6f65b5272966d8f1"), looks := false }, kinds := [], alts := [], laidByText := true, laidKinds := [.data, .data, .data, .data, .data], laidTests := true, laidLooks := .later }
def VelocityPanelsCardSaid : Prop := Claim7.holds Tryz.pinned (.plain (OpenSpec.ofChange velocityPanelsSpec)) velocityPanelsCard

/-- THE TIED CARD OF 'moveoutlaw06.VelocityAlike'. -/
def velocityAlikeCard : Claim7 := { stood := { row := velocityAlikeRow, standIns := [], harness := (true, "a1a323c512223edc39f4736b19c83dbf0e7abd5a77a6adfc6f65b5272966d8f1"), looks := false }, kinds := [], alts := [], laidByText := true, laidKinds := [.data, .data, .data, .data, .data], laidTests := true, laidLooks := .later }
def VelocityAlikeCardSaid : Prop := Claim7.holds Tryz.pinned (.plain (OpenSpec.ofChange velocityAlikeSpec)) velocityAlikeCard

/-- THE TIED CARD OF 'moveoutlaw06.VelocityTexts'. -/
def velocityTextsCard : Claim7 := { stood := { row := velocityTextsRow, standIns := [], harness := (true, "a1a323c512223edc39f4736b19c83dbf0e7abd5a77a6adfc6f65b5272966d8f1"), looks := false }, kinds := [], alts := [], laidByText := true, laidKinds := [.data, .data, .data, .data, .data, .data, .pinned], laidTests := true, laidLooks := .later }
def VelocityTextsCardSaid : Prop := Claim7.holds Tryz.pinned (.plain (OpenSpec.ofChange velocityTextsSpec)) velocityTextsCard

/-- THE TIED CARD OF 'moveoutlaw06.VelocityBack'. -/
def velocityBackCard : Claim7 := { stood := { row := velocityBackRow, standIns := [], harness := (true, "a1a323c512223edc39f4736b19c83dbf0e7abd5a77a6adfc6f65b5272966d8f1"), looks := false }, kinds := [], alts := [], laidByText := true, laidKinds := [.data, .data, .data, .data, .data, .data, .pinned], laidTests := true, laidLooks := .later }
def VelocityBackCardSaid : Prop := Claim7.holds Tryz.pinned (.plain (OpenSpec.ofChange velocityBackSpec)) velocityBackCard

/-- THE SECOND FORM's CARD OF 'moveoutlaw06.VelocityMoved'. -/
def velocityMovedUptoCard : Claim7 := { stood := { row := velocityMovedUptoRow, standIns := [], harness := (true, "a1a323c512223edc39f4736b19c83dbf0e7abd5a77a6adfc6f65b5272966d8f1"), looks := false }, kinds := [], alts := [], laidByText := true, laidKinds := [.data, .data, .data, .data, .data], laidTests := true, laidLooks := .later }
def VelocityMovedUptoCardSaid : Prop := Claim7.holds Tryz.pinned (.plain (OpenSpec.upto velocityMovedSpec)) velocityMovedUptoCard

/-- THE SECOND FORM's CARD OF 'moveoutlaw06.VelocityPotentials'. -/
def velocityPotentialsUptoCard : Claim7 := { stood := { row := velocityPotentialsUptoRow, standIns := [], harness := (true, "a1a323c512223edc39f4736b19c83dbf0e7abd5a77a6adfc6f65b5272966d8f1"), looks := false }, kinds := [], alts := [], laidByText := true, laidKinds := [.data, .data, .data, .data, .data], laidTests := true, laidLooks := .later }
def VelocityPotentialsUptoCardSaid : Prop := Claim7.holds Tryz.pinned (.plain (OpenSpec.upto velocityPotentialsSpec)) velocityPotentialsUptoCard

/-- THE SECOND FORM's CARD OF 'moveoutlaw06.VelocityHyperbolas'. -/
def velocityHyperbolasUptoCard : Claim7 := { stood := { row := velocityHyperbolasUptoRow, standIns := [], harness := (true, "a1a323c512223edc39f4736b19c83dbf0e7abd5a77a6adfc6f65b5272966d8f1"), looks := false }, kinds := [], alts := [], laidByText := true, laidKinds := [.data, .data, .data, .data, .data], laidTests := true, laidLooks := .later }
def VelocityHyperbolasUptoCardSaid : Prop := Claim7.holds Tryz.pinned (.plain (OpenSpec.upto velocityHyperbolasSpec)) velocityHyperbolasUptoCard

/-- THE SECOND FORM's CARD OF 'moveoutlaw06.VelocityPaths'. -/
def velocityPathsUptoCard : Claim7 := { stood := { row := velocityPathsUptoRow, standIns := [], harness := (true, "a1a323c512223edc39f4736b19c83dbf0e7abd5a77a6adfc6f65b5272966d8f1"), looks := false }, kinds := [], alts := [], laidByText := true, laidKinds := [.data, .data, .data, .data, .data], laidTests := true, laidLooks := .later }
def VelocityPathsUptoCardSaid : Prop := Claim7.holds Tryz.pinned (.plain (OpenSpec.upto velocityPathsSpec)) velocityPathsUptoCard

/-- THE SECOND FORM's CARD OF 'moveoutlaw06.VelocityProved'. -/
def velocityProvedUptoCard : Claim7 := { stood := { row := velocityProvedUptoRow, standIns := [], harness := (true, "a1a323c512223edc39f4736b19c83dbf0e7abd5a77a6adfc6f65b5272966d8f1"), looks := false }, kinds := [], alts := [], laidByText := true, laidKinds := [.data, .data, .data, .data, .data], laidTests := true, laidLooks := .later }
def VelocityProvedUptoCardSaid : Prop := Claim7.holds Tryz.pinned (.plain (OpenSpec.upto velocityProvedSpec)) velocityProvedUptoCard

/-- THE SECOND FORM's CARD OF 'moveoutlaw06.VelocityMoments'. -/
def velocityMomentsUptoCard : Claim7 := { stood := { row := velocityMomentsUptoRow, standIns := [], harness := (true, "a1a323c512223edc39f4736b19c83dbf0e7abd5a77a6adfc6f65b5272966d8f1"), looks := false }, kinds := [], alts := [], laidByText := true, laidKinds := [.data, .data, .data, .data, .data], laidTests := true, laidLooks := .later }
def VelocityMomentsUptoCardSaid : Prop := Claim7.holds Tryz.pinned (.plain (OpenSpec.upto velocityMomentsSpec)) velocityMomentsUptoCard

/-- THE SECOND FORM's CARD OF 'moveoutlaw06.VelocityExplained'. -/
def velocityExplainedUptoCard : Claim7 := { stood := { row := velocityExplainedUptoRow, standIns := [], harness := (true, "a1a323c512223edc39f4736b19c83dbf0e7abd5a77a6adfc6f65b5272966d8f1"), looks := false }, kinds := [], alts := [], laidByText := true, laidKinds := [.data, .data, .data, .data, .data], laidTests := true, laidLooks := .later }
def VelocityExplainedUptoCardSaid : Prop := Claim7.holds Tryz.pinned (.plain (OpenSpec.upto velocityExplainedSpec)) velocityExplainedUptoCard

/-- THE SECOND FORM's CARD OF 'moveoutlaw06.VelocityGathers'. -/
def velocityGathersUptoCard : Claim7 := { stood := { row := velocityGathersUptoRow, standIns := [], harness := (true, "a1a323c512223edc39f4736b19c83dbf0e7abd5a77a6adfc6f65b5272966d8f1"), looks := false }, kinds := [], alts := [], laidByText := true, laidKinds := [.data, .data, .data, .data, .data], laidTests := true, laidLooks := .later }
def VelocityGathersUptoCardSaid : Prop := Claim7.holds Tryz.pinned (.plain (OpenSpec.upto velocityGathersSpec)) velocityGathersUptoCard

/-- THE SECOND FORM's CARD OF 'moveoutlaw06.VelocityPanels'. -/
def velocityPanelsUptoCard : Claim7 := { stood := { row := velocityPanelsUptoRow, standIns := [], harness := (true, "a1a323c512223edc39f4736b19c83dbf0e7abd5a77a6adfc6f65b5272966d8f1"), looks := false }, kinds := [], alts := [], laidByText := true, laidKinds := [.data, .data, .data, .data, .data], laidTests := true, laidLooks := .later }
def VelocityPanelsUptoCardSaid : Prop := Claim7.holds Tryz.pinned (.plain (OpenSpec.upto velocityPanelsSpec)) velocityPanelsUptoCard

/-- THE SECOND FORM's CARD OF 'moveoutlaw06.VelocityAlike'. -/
def velocityAlikeUptoCard : Claim7 := { stood := { row := velocityAlikeUptoRow, standIns := [], harness := (true, "a1a323c512223edc39f4736b19c83dbf0e7abd5a77a6adfc6f65b5272966d8f1"), looks := false }, kinds := [], alts := [], laidByText := true, laidKinds := [.data, .data, .data, .data, .data], laidTests := true, laidLooks := .later }
def VelocityAlikeUptoCardSaid : Prop := Claim7.holds Tryz.pinned (.plain (OpenSpec.upto velocityAlikeSpec)) velocityAlikeUptoCard

/-- THE SECOND FORM's CARD OF 'moveoutlaw06.VelocityTexts'. -/
def velocityTextsUptoCard : Claim7 := { stood := { row := velocityTextsUptoRow, standIns := [], harness := (true, "a1a323c512223edc39f4736b19c83dbf0e7abd5a77a6adfc6f65b5272966d8f1"), looks := false }, kinds := [], alts := [], laidByText := true, laidKinds := [.data, .data, .data, .data, .data, .data, .pinned], laidTests := true, laidLooks := .later }
def VelocityTextsUptoCardSaid : Prop := Claim7.holds Tryz.pinned (.plain (OpenSpec.upto velocityTextsSpec)) velocityTextsUptoCard

/-- THE SECOND FORM's CARD OF 'moveoutlaw06.VelocityBack'. -/
def velocityBackUptoCard : Claim7 := { stood := { row := velocityBackUptoRow, standIns := [], harness := (true, "a1a323c512223edc39f4736b19c83dbf0e7abd5a77a6adfc6f65b5272966d8f1"), looks := false }, kinds := [], alts := [], laidByText := true, laidKinds := [.data, .data, .data, .data, .data, .data, .pinned], laidTests := true, laidLooks := .later }
def VelocityBackUptoCardSaid : Prop := Claim7.holds Tryz.pinned (.plain (OpenSpec.upto velocityBackSpec)) velocityBackUptoCard
end Rows
end Go.Proofs.YtkongcnmkiihjaaGreatDoor
