/-
  DERIVED. GIVEN WITH THE SEED: THE CARDS: each row of YtdmepnhmcppkkaaGreatDoorRows.lean that lists a variable, with what it lists TIED to the program's text (the seventh form; the later family's looks); each row that meets fmt, with fmt's text TOLD by the authors' own Lean function (tested against real Go, not proved from fmt's source: count such statements apart). THE CARD IS WHAT COUNTS. Prove the row's statement (the work); the ties are given (YtdmepnhmcppkkaaGreatDoorTie.lean); close each card by the builder's one call (the guide's Derived/Test/ToyasCard.lean, 'card_holds'). Laid BY PROGRAM, IN A SANDBOX (cutbox-door.mjs). By AI agents, Wed Nov 11 2026. No macro, syntax, notation, axiom, sorry.
-/
import Derived.Test.YtdmepnhmcppkkaaGreatDoorRows
import GoSem.ClaimSeven
namespace Go.Proofs.YtdmepnhmcppkkaaGreatDoor
namespace Rows

/-- THE TIED CARD OF 'moveoutlaw04.CoverLines'. -/
def coverLinesCard : Claim7 := { stood := { row := coverLinesRow, standIns := [], harness := (true, "8441a68efd0e9cd7e5ce7d36e4ce19994c4bd112eff67025856326a7abfcc4f4"), looks := true }, kinds := [], alts := [], laidByText := true, laidKinds := [.data, .data, .data, .sentinel, .sentinel, .data], laidTests := true, laidLooks := .later }
def CoverLinesCardSaid : Prop := Claim7.holds Tryz.pinned (.plain (OpenSpec.ofChange coverLinesSpec)) coverLinesCard

/-- THE TIED CARD OF 'moveoutlaw04.CoverFolds'. -/
def coverFoldsCard : Claim7 := { stood := { row := coverFoldsRow, standIns := [], harness := (true, "8441a68efd0e9cd7e5ce7d36e4ce19994c4bd112eff67025856326a7abfcc4f4"), looks := true }, kinds := [], alts := [], laidByText := true, laidKinds := [.data, .data, .data, .sentinel, .sentinel, .data], laidTests := true, laidLooks := .later }
def CoverFoldsCardSaid : Prop := Claim7.holds Tryz.pinned (.plain (OpenSpec.ofChange coverFoldsSpec)) coverFoldsCard

/-- THE TIED CARD OF 'moveoutlaw04.CoverPrices'. -/
def coverPricesCard : Claim7 := { stood := { row := coverPricesRow, standIns := [], harness := (true, "8441a68efd0e9cd7e5ce7d36e4ce19994c4bd112eff67025856326a7abfcc4f4"), looks := true }, kinds := [], alts := [], laidByText := true, laidKinds := [.data, .data, .data, .sentinel, .sentinel, .data], laidTests := true, laidLooks := .later }
def CoverPricesCardSaid : Prop := Claim7.holds Tryz.pinned (.plain (OpenSpec.ofChange coverPricesSpec)) coverPricesCard

/-- THE TIED CARD OF 'moveoutlaw04.CoverBins'. -/
def coverBinsCard : Claim7 := { stood := { row := coverBinsRow, standIns := [], harness := (true, "8441a68efd0e9cd7e5ce7d36e4ce19994c4bd112eff67025856326a7abfcc4f4"), looks := true }, kinds := [], alts := [], laidByText := true, laidKinds := [.data, .data, .data, .sentinel, .sentinel, .data], laidTests := true, laidLooks := .later }
def CoverBinsCardSaid : Prop := Claim7.holds Tryz.pinned (.plain (OpenSpec.ofChange coverBinsSpec)) coverBinsCard

/-- THE TIED CARD OF 'moveoutlaw04.CoverCounted'. -/
def coverCountedCard : Claim7 := { stood := { row := coverCountedRow, standIns := [], harness := (true, "8441a68efd0e9cd7e5ce7d36e4ce19994c4bd112eff67025856326a7abfcc4f4"), looks := true }, kinds := [], alts := [], laidByText := true, laidKinds := [.data, .data, .data, .sentinel, .sentinel, .data], laidTests := true, laidLooks := .later }
def CoverCountedCardSaid : Prop := Claim7.holds Tryz.pinned (.plain (OpenSpec.ofChange coverCountedSpec)) coverCountedCard

/-- THE TIED CARD OF 'moveoutlaw04.CoverInfills'. -/
def coverInfillsCard : Claim7 := { stood := { row := coverInfillsRow, standIns := [], harness := (true, "8441a68efd0e9cd7e5ce7d36e4ce19994c4bd112eff67025856326a7abfcc4f4"), looks := true }, kinds := [], alts := [], laidByText := true, laidKinds := [.data, .data, .data, .sentinel, .sentinel, .data], laidTests := true, laidLooks := .later }
def CoverInfillsCardSaid : Prop := Claim7.holds Tryz.pinned (.plain (OpenSpec.ofChange coverInfillsSpec)) coverInfillsCard

/-- THE TIED CARD OF 'moveoutlaw04.CoverBounds'. -/
def coverBoundsCard : Claim7 := { stood := { row := coverBoundsRow, standIns := [], harness := (true, "8441a68efd0e9cd7e5ce7d36e4ce19994c4bd112eff67025856326a7abfcc4f4"), looks := true }, kinds := [], alts := [], laidByText := true, laidKinds := [.data, .data, .data, .sentinel, .sentinel, .data], laidTests := true, laidLooks := .later }
def CoverBoundsCardSaid : Prop := Claim7.holds Tryz.pinned (.plain (OpenSpec.ofChange coverBoundsSpec)) coverBoundsCard

/-- THE TIED CARD OF 'moveoutlaw04.CoverChanges'. -/
def coverChangesCard : Claim7 := { stood := { row := coverChangesRow, standIns := [], harness := (true, "8441a68efd0e9cd7e5ce7d36e4ce19994c4bd112eff67025856326a7abfcc4f4"), looks := true }, kinds := [], alts := [], laidByText := true, laidKinds := [.data, .data, .data, .sentinel, .sentinel, .data], laidTests := true, laidLooks := .later }
def CoverChangesCardSaid : Prop := Claim7.holds Tryz.pinned (.plain (OpenSpec.ofChange coverChangesSpec)) coverChangesCard

/-- THE TIED CARD OF 'moveoutlaw04.CoverMoved'. -/
def coverMovedCard : Claim7 := { stood := { row := coverMovedRow, standIns := [], harness := (true, "8441a68efd0e9cd7e5ce7d36e4ce19994c4bd112eff67025856326a7abfcc4f4"), looks := true }, kinds := [], alts := [], laidByText := true, laidKinds := [.data, .data, .data, .sentinel, .sentinel, .data], laidTests := true, laidLooks := .later }
def CoverMovedCardSaid : Prop := Claim7.holds Tryz.pinned (.plain (OpenSpec.ofChange coverMovedSpec)) coverMovedCard

/-- THE TIED CARD OF 'moveoutlaw04.CoverOrders'. -/
def coverOrdersCard : Claim7 := { stood := { row := coverOrdersRow, standIns := [], harness := (true, "8441a68efd0e9cd7e5ce7d36e4ce19994c4bd112eff67025856326a7abfcc4f4"), looks := true }, kinds := [], alts := [], laidByText := true, laidKinds := [.data, .data, .data, .sentinel, .sentinel, .data], laidTests := true, laidLooks := .later }
def CoverOrdersCardSaid : Prop := Claim7.holds Tryz.pinned (.plain (OpenSpec.ofChange coverOrdersSpec)) coverOrdersCard

/-- THE TIED CARD OF 'moveoutlaw04.CoverTours'. -/
def coverToursCard : Claim7 := { stood := { row := coverToursRow, standIns := [], harness := (true, "8441a68efd0e9cd7e5ce7d36e4ce19994c4bd112eff67025856326a7abfcc4f4"), looks := true }, kinds := [], alts := [], laidByText := true, laidKinds := [.data, .data, .data, .sentinel, .sentinel, .data], laidTests := true, laidLooks := .later }
def CoverToursCardSaid : Prop := Claim7.holds Tryz.pinned (.plain (OpenSpec.ofChange coverToursSpec)) coverToursCard

/-- THE TIED CARD OF 'moveoutlaw04.CoverTexts'. -/
def coverTextsCard : Claim7 := { stood := { row := coverTextsRow, standIns := [], harness := (true, "8441a68efd0e9cd7e5ce7d36e4ce19994c4bd112eff67025856326a7abfcc4f4"), looks := true }, kinds := [], alts := [], laidByText := true, laidKinds := [.data, .data, .data, .data, .sentinel, .sentinel, .data, .pinned], laidTests := true, laidLooks := .later }
def CoverTextsCardSaid : Prop := Claim7.holds Tryz.pinned (.plain (OpenSpec.ofChange coverTextsSpec)) coverTextsCard

/-- THE TIED CARD OF 'moveoutlaw04.CoverBack'. -/
def coverBackCard : Claim7 := { stood := { row := coverBackRow, standIns := [], harness := (true, "8441a68efd0e9cd7e5ce7d36e4ce19994c4bd112eff67025856326a7abfcc4f4"), looks := true }, kinds := [], alts := [], laidByText := true, laidKinds := [.data, .data, .data, .data, .sentinel, .sentinel, .data, .pinned], laidTests := true, laidLooks := .later }
def CoverBackCardSaid : Prop := Claim7.holds Tryz.pinned (.plain (OpenSpec.ofChange coverBackSpec)) coverBackCard

/-- THE SECOND FORM's CARD OF 'moveoutlaw04.CoverLines'. -/
def coverLinesUptoCard : Claim7 := { stood := { row := coverLinesUptoRow, standIns := [], harness := (true, "8441a68efd0e9cd7e5ce7d36e4ce19994c4bd112eff67025856326a7abfcc4f4"), looks := true }, kinds := [], alts := [], laidByText := true, laidKinds := [.data, .data, .data, .sentinel, .sentinel, .data], laidTests := true, laidLooks := .later }
def CoverLinesUptoCardSaid : Prop := Claim7.holds Tryz.pinned (.plain (OpenSpec.upto coverLinesSpec)) coverLinesUptoCard

/-- THE SECOND FORM's CARD OF 'moveoutlaw04.CoverFolds'. -/
def coverFoldsUptoCard : Claim7 := { stood := { row := coverFoldsUptoRow, standIns := [], harness := (true, "8441a68efd0e9cd7e5ce7d36e4ce19994c4bd112eff67025856326a7abfcc4f4"), looks := true }, kinds := [], alts := [], laidByText := true, laidKinds := [.data, .data, .data, .sentinel, .sentinel, .data], laidTests := true, laidLooks := .later }
def CoverFoldsUptoCardSaid : Prop := Claim7.holds Tryz.pinned (.plain (OpenSpec.upto coverFoldsSpec)) coverFoldsUptoCard

/-- THE SECOND FORM's CARD OF 'moveoutlaw04.CoverPrices'. -/
def coverPricesUptoCard : Claim7 := { stood := { row := coverPricesUptoRow, standIns := [], harness := (true, "8441a68efd0e9cd7e5ce7d36e4ce19994c4bd112eff67025856326a7abfcc4f4"), looks := true }, kinds := [], alts := [], laidByText := true, laidKinds := [.data, .data, .data, .sentinel, .sentinel, .data], laidTests := true, laidLooks := .later }
def CoverPricesUptoCardSaid : Prop := Claim7.holds Tryz.pinned (.plain (OpenSpec.upto coverPricesSpec)) coverPricesUptoCard

/-- THE SECOND FORM's CARD OF 'moveoutlaw04.CoverBins'. -/
def coverBinsUptoCard : Claim7 := { stood := { row := coverBinsUptoRow, standIns := [], harness := (true, "8441a68efd0e9cd7e5ce7d36e4ce19994c4bd112eff67025856326a7abfcc4f4"), looks := true }, kinds := [], alts := [], laidByText := true, laidKinds := [.data, .data, .data, .sentinel, .sentinel, .data], laidTests := true, laidLooks := .later }
def CoverBinsUptoCardSaid : Prop := Claim7.holds Tryz.pinned (.plain (OpenSpec.upto coverBinsSpec)) coverBinsUptoCard

/-- THE SECOND FORM's CARD OF 'moveoutlaw04.CoverCounted'. -/
def coverCountedUptoCard : Claim7 := { stood := { row := coverCountedUptoRow, standIns := [], harness := (true, "8441a68efd0e9cd7e5ce7d36e4ce19994c4bd112eff67025856326a7abfcc4f4"), looks := true }, kinds := [], alts := [], laidByText := true, laidKinds := [.data, .data, .data, .sentinel, .sentinel, .data], laidTests := true, laidLooks := .later }
def CoverCountedUptoCardSaid : Prop := Claim7.holds Tryz.pinned (.plain (OpenSpec.upto coverCountedSpec)) coverCountedUptoCard

/-- THE SECOND FORM's CARD OF 'moveoutlaw04.CoverInfills'. -/
def coverInfillsUptoCard : Claim7 := { stood := { row := coverInfillsUptoRow, standIns := [], harness := (true, "8441a68efd0e9cd7e5ce7d36e4ce19994c4bd112eff67025856326a7abfcc4f4"), looks := true }, kinds := [], alts := [], laidByText := true, laidKinds := [.data, .data, .data, .sentinel, .sentinel, .data], laidTests := true, laidLooks := .later }
def CoverInfillsUptoCardSaid : Prop := Claim7.holds Tryz.pinned (.plain (OpenSpec.upto coverInfillsSpec)) coverInfillsUptoCard

/-- THE SECOND FORM's CARD OF 'moveoutlaw04.CoverBounds'. -/
def coverBoundsUptoCard : Claim7 := { stood := { row := coverBoundsUptoRow, standIns := [], harness := (true, "8441a68efd0e9cd7e5ce7d36e4ce19994c4bd112eff67025856326a7abfcc4f4"), looks := true }, kinds := [], alts := [], laidByText := true, laidKinds := [.data, .data, .data, .sentinel, .sentinel, .data], laidTests := true, laidLooks := .later }
def CoverBoundsUptoCardSaid : Prop := Claim7.holds Tryz.pinned (.plain (OpenSpec.upto coverBoundsSpec)) coverBoundsUptoCard

/-- THE SECOND FORM's CARD OF 'moveoutlaw04.CoverChanges'. -/
def coverChangesUptoCard : Claim7 := { stood := { row := coverChangesUptoRow, standIns := [], harness := (true, "8441a68efd0e9cd7e5ce7d36e4ce19994c4bd112eff67025856326a7abfcc4f4"), looks := true }, kinds := [], alts := [], laidByText := true, laidKinds := [.data, .data, .data, .sentinel, .sentinel, .data], laidTests := true, laidLooks := .later }
def CoverChangesUptoCardSaid : Prop := Claim7.holds Tryz.pinned (.plain (OpenSpec.upto coverChangesSpec)) coverChangesUptoCard

/-- THE SECOND FORM's CARD OF 'moveoutlaw04.CoverMoved'. -/
def coverMovedUptoCard : Claim7 := { stood := { row := coverMovedUptoRow, standIns := [], harness := (true, "8441a68efd0e9cd7e5ce7d36e4ce19994c4bd112eff67025856326a7abfcc4f4"), looks := true }, kinds := [], alts := [], laidByText := true, laidKinds := [.data, .data, .data, .sentinel, .sentinel, .data], laidTests := true, laidLooks := .later }
def CoverMovedUptoCardSaid : Prop := Claim7.holds Tryz.pinned (.plain (OpenSpec.upto coverMovedSpec)) coverMovedUptoCard

/-- THE SECOND FORM's CARD OF 'moveoutlaw04.CoverOrders'. -/
def coverOrdersUptoCard : Claim7 := { stood := { row := coverOrdersUptoRow, standIns := [], harness := (true, "8441a68efd0e9cd7e5ce7d36e4ce19994c4bd112eff67025856326a7abfcc4f4"), looks := true }, kinds := [], alts := [], laidByText := true, laidKinds := [.data, .data, .data, .sentinel, .sentinel, .data], laidTests := true, laidLooks := .later }
def CoverOrdersUptoCardSaid : Prop := Claim7.holds Tryz.pinned (.plain (OpenSpec.upto coverOrdersSpec)) coverOrdersUptoCard

/-- THE SECOND FORM's CARD OF 'moveoutlaw04.CoverTours'. -/
def coverToursUptoCard : Claim7 := { stood := { row := coverToursUptoRow, standIns := [], harness := (true, "8441a68efd0e9cd7e5ce7d36e4ce19994c4bd112eff67025856326a7abfcc4f4"), looks := true }, kinds := [], alts := [], laidByText := true, laidKinds := [.data, .data, .data, .sentinel, .sentinel, .data], laidTests := true, laidLooks := .later }
def CoverToursUptoCardSaid : Prop := Claim7.holds Tryz.pinned (.plain (OpenSpec.upto coverToursSpec)) coverToursUptoCard

/-- THE SECOND FORM's CARD OF 'moveoutlaw04.CoverTexts'. -/
def coverTextsUptoCard : Claim7 := { stood := { row := coverTextsUptoRow, standIns := [], harness := (true, "8441a68efd0e9cd7e5ce7d36e4ce19994c4bd112eff67025856326a7abfcc4f4"), looks := true }, kinds := [], alts := [], laidByText := true, laidKinds := [.data, .data, .data, .data, .sentinel, .sentinel, .data, .pinned], laidTests := true, laidLooks := .later }
def CoverTextsUptoCardSaid : Prop := Claim7.holds Tryz.pinned (.plain (OpenSpec.upto coverTextsSpec)) coverTextsUptoCard

/-- THE SECOND FORM's CARD OF 'moveoutlaw04.CoverBack'. -/
def coverBackUptoCard : Claim7 := { stood := { row := coverBackUptoRow, standIns := [], harness := (true, "8441a68efd0e9cd7e5ce7d36e4ce19994c4bd112eff67025856326a7abfcc4f4"), looks := true }, kinds := [], alts := [], laidByText := true, laidKinds := [.data, .data, .data, .data, .sentinel, .sentinel, .data, .pinned], laidTests := true, laidLooks := .later }
def CoverBackUptoCardSaid : Prop := Claim7.holds Tryz.pinned (.plain (OpenSpec.upto coverBackSpec)) coverBackUptoCard
end Rows
end Go.Proofs.YtdmepnhmcppkkaaGreatDoor
