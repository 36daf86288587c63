/-
  DERIVED. GIVEN WITH THE SEED: THE CARDS: each row of YtndlfijfjglkdaaGreatDoorRows.lean that lists a variable, with what it lists TIED to the program's text (the seventh form; the later family's looks); each row that meets fmt, with fmt's text TOLD by the authors' own Lean function (tested against real Go, not proved from fmt's source: count such statements apart). THE CARD IS WHAT COUNTS. Prove the row's statement (the work); the ties are given (YtndlfijfjglkdaaGreatDoorTie.lean); close each card by the builder's one call (the guide's Derived/Test/ToyasCard.lean, 'card_holds'). Laid BY PROGRAM, IN A SANDBOX (cutbox-door.mjs). By AI agents, Wed Nov 11 2026. No macro, syntax, notation, axiom, sorry.
-/
import Derived.Test.YtndlfijfjglkdaaGreatDoorRows
import GoSem.ClaimSeven
namespace Go.Proofs.YtndlfijfjglkdaaGreatDoor
namespace Rows

/-- THE TIED CARD OF 'moveoutlaw03.GunStrings'. -/
def gunStringsCard : Claim7 := { stood := { row := gunStringsRow, standIns := [], harness := (true, "e00eecd8ca05e183972abfbf043f5ed2bc813bd519e3ebd189d9b51d2f935a9d"), looks := true }, kinds := [], alts := [], laidByText := true, laidKinds := [.data, .data, .data, .widerDeep], laidTests := true, laidLooks := .later }
def GunStringsCardSaid : Prop := Claim7.holds Tryz.pinned (.plain (OpenSpec.ofChange gunStringsSpec)) gunStringsCard

/-- THE TIED CARD OF 'moveoutlaw03.GunBubbles'. -/
def gunBubblesCard : Claim7 := { stood := { row := gunBubblesRow, standIns := [], harness := (true, "e00eecd8ca05e183972abfbf043f5ed2bc813bd519e3ebd189d9b51d2f935a9d"), looks := true }, kinds := [], alts := [], laidByText := true, laidKinds := [.data, .data, .data, .widerDeep], laidTests := true, laidLooks := .later }
def GunBubblesCardSaid : Prop := Claim7.holds Tryz.pinned (.plain (OpenSpec.ofChange gunBubblesSpec)) gunBubblesCard

/-- THE TIED CARD OF 'moveoutlaw03.GunSignatures'. -/
def gunSignaturesCard : Claim7 := { stood := { row := gunSignaturesRow, standIns := [], harness := (true, "e00eecd8ca05e183972abfbf043f5ed2bc813bd519e3ebd189d9b51d2f935a9d"), looks := true }, kinds := [], alts := [], laidByText := true, laidKinds := [.data, .data, .data, .widerDeep], laidTests := true, laidLooks := .later }
def GunSignaturesCardSaid : Prop := Claim7.holds Tryz.pinned (.plain (OpenSpec.ofChange gunSignaturesSpec)) gunSignaturesCard

/-- THE TIED CARD OF 'moveoutlaw03.GunLines'. -/
def gunLinesCard : Claim7 := { stood := { row := gunLinesRow, standIns := [], harness := (true, "e00eecd8ca05e183972abfbf043f5ed2bc813bd519e3ebd189d9b51d2f935a9d"), looks := true }, kinds := [], alts := [], laidByText := true, laidKinds := [.data, .data, .data, .widerDeep], laidTests := true, laidLooks := .later }
def GunLinesCardSaid : Prop := Claim7.holds Tryz.pinned (.plain (OpenSpec.ofChange gunLinesSpec)) gunLinesCard

/-- THE TIED CARD OF 'moveoutlaw03.GunMoves'. -/
def gunMovesCard : Claim7 := { stood := { row := gunMovesRow, standIns := [], harness := (true, "e00eecd8ca05e183972abfbf043f5ed2bc813bd519e3ebd189d9b51d2f935a9d"), looks := true }, kinds := [], alts := [], laidByText := true, laidKinds := [.data, .data, .data, .widerDeep], laidTests := true, laidLooks := .later }
def GunMovesCardSaid : Prop := Claim7.holds Tryz.pinned (.plain (OpenSpec.ofChange gunMovesSpec)) gunMovesCard

/-- THE TIED CARD OF 'moveoutlaw03.GunTimes'. -/
def gunTimesCard : Claim7 := { stood := { row := gunTimesRow, standIns := [], harness := (true, "e00eecd8ca05e183972abfbf043f5ed2bc813bd519e3ebd189d9b51d2f935a9d"), looks := true }, kinds := [], alts := [], laidByText := true, laidKinds := [.data, .data, .data, .widerDeep], laidTests := true, laidLooks := .later }
def GunTimesCardSaid : Prop := Claim7.holds Tryz.pinned (.plain (OpenSpec.ofChange gunTimesSpec)) gunTimesCard

/-- THE TIED CARD OF 'moveoutlaw03.GunReaches'. -/
def gunReachesCard : Claim7 := { stood := { row := gunReachesRow, standIns := [], harness := (true, "e00eecd8ca05e183972abfbf043f5ed2bc813bd519e3ebd189d9b51d2f935a9d"), looks := true }, kinds := [], alts := [], laidByText := true, laidKinds := [.data, .data, .data, .widerDeep], laidTests := true, laidLooks := .later }
def GunReachesCardSaid : Prop := Claim7.holds Tryz.pinned (.plain (OpenSpec.ofChange gunReachesSpec)) gunReachesCard

/-- THE TIED CARD OF 'moveoutlaw03.GunStarts'. -/
def gunStartsCard : Claim7 := { stood := { row := gunStartsRow, standIns := [], harness := (true, "e00eecd8ca05e183972abfbf043f5ed2bc813bd519e3ebd189d9b51d2f935a9d"), looks := true }, kinds := [], alts := [], laidByText := true, laidKinds := [.data, .data, .data, .widerDeep], laidTests := true, laidLooks := .later }
def GunStartsCardSaid : Prop := Claim7.holds Tryz.pinned (.plain (OpenSpec.ofChange gunStartsSpec)) gunStartsCard

/-- THE TIED CARD OF 'moveoutlaw03.GunSoft'. -/
def gunSoftCard : Claim7 := { stood := { row := gunSoftRow, standIns := [], harness := (true, "e00eecd8ca05e183972abfbf043f5ed2bc813bd519e3ebd189d9b51d2f935a9d"), looks := true }, kinds := [], alts := [], laidByText := true, laidKinds := [.data, .data, .data, .widerDeep], laidTests := true, laidLooks := .later }
def GunSoftCardSaid : Prop := Claim7.holds Tryz.pinned (.plain (OpenSpec.ofChange gunSoftSpec)) gunSoftCard

/-- THE TIED CARD OF 'moveoutlaw03.GunExplains'. -/
def gunExplainsCard : Claim7 := { stood := { row := gunExplainsRow, standIns := [], harness := (true, "e00eecd8ca05e183972abfbf043f5ed2bc813bd519e3ebd189d9b51d2f935a9d"), looks := true }, kinds := [], alts := [], laidByText := true, laidKinds := [.data, .data, .data, .widerDeep], laidTests := true, laidLooks := .later }
def GunExplainsCardSaid : Prop := Claim7.holds Tryz.pinned (.plain (OpenSpec.ofChange gunExplainsSpec)) gunExplainsCard

/-- THE TIED CARD OF 'moveoutlaw03.GunEncloses'. -/
def gunEnclosesCard : Claim7 := { stood := { row := gunEnclosesRow, standIns := [], harness := (true, "e00eecd8ca05e183972abfbf043f5ed2bc813bd519e3ebd189d9b51d2f935a9d"), looks := true }, kinds := [], alts := [], laidByText := true, laidKinds := [.data, .data, .data, .widerDeep], laidTests := true, laidLooks := .later }
def GunEnclosesCardSaid : Prop := Claim7.holds Tryz.pinned (.plain (OpenSpec.ofChange gunEnclosesSpec)) gunEnclosesCard

/-- THE TIED CARD OF 'moveoutlaw03.GunAccepts'. -/
def gunAcceptsCard : Claim7 := { stood := { row := gunAcceptsRow, standIns := [], harness := (true, "e00eecd8ca05e183972abfbf043f5ed2bc813bd519e3ebd189d9b51d2f935a9d"), looks := true }, kinds := [], alts := [], laidByText := true, laidKinds := [.data, .data, .data, .widerDeep], laidTests := true, laidLooks := .later }
def GunAcceptsCardSaid : Prop := Claim7.holds Tryz.pinned (.plain (OpenSpec.ofChange gunAcceptsSpec)) gunAcceptsCard

/-- THE TIED CARD OF 'moveoutlaw03.GunDrops'. -/
def gunDropsCard : Claim7 := { stood := { row := gunDropsRow, standIns := [], harness := (true, "e00eecd8ca05e183972abfbf043f5ed2bc813bd519e3ebd189d9b51d2f935a9d"), looks := true }, kinds := [], alts := [], laidByText := true, laidKinds := [.data, .data, .data, .widerDeep], laidTests := true, laidLooks := .later }
def GunDropsCardSaid : Prop := Claim7.holds Tryz.pinned (.plain (OpenSpec.ofChange gunDropsSpec)) gunDropsCard

/-- THE TIED CARD OF 'moveoutlaw03.GunTexts'. -/
def gunTextsCard : Claim7 := { stood := { row := gunTextsRow, standIns := [], harness := (true, "e00eecd8ca05e183972abfbf043f5ed2bc813bd519e3ebd189d9b51d2f935a9d"), looks := true }, kinds := [], alts := [], laidByText := true, laidKinds := [.data, .data, .data, .data, .sentinel, .sentinel, .widerDeep, .pinned], laidTests := true, laidLooks := .later }
def GunTextsCardSaid : Prop := Claim7.holds Tryz.pinned (.plain (OpenSpec.ofChange gunTextsSpec)) gunTextsCard

/-- THE TIED CARD OF 'moveoutlaw03.GunBack'. -/
def gunBackCard : Claim7 := { stood := { row := gunBackRow, standIns := [], harness := (true, "e00eecd8ca05e183972abfbf043f5ed2bc813bd519e3ebd189d9b51d2f935a9d"), looks := true }, kinds := [], alts := [], laidByText := true, laidKinds := [.data, .data, .data, .data, .sentinel, .sentinel, .widerDeep, .pinned], laidTests := true, laidLooks := .later }
def GunBackCardSaid : Prop := Claim7.holds Tryz.pinned (.plain (OpenSpec.ofChange gunBackSpec)) gunBackCard

/-- THE SECOND FORM's CARD OF 'moveoutlaw03.GunStrings'. -/
def gunStringsUptoCard : Claim7 := { stood := { row := gunStringsUptoRow, standIns := [], harness := (true, "e00eecd8ca05e183972abfbf043f5ed2bc813bd519e3ebd189d9b51d2f935a9d"), looks := true }, kinds := [], alts := [], laidByText := true, laidKinds := [.data, .data, .data, .widerDeep], laidTests := true, laidLooks := .later }
def GunStringsUptoCardSaid : Prop := Claim7.holds Tryz.pinned (.plain (OpenSpec.upto gunStringsSpec)) gunStringsUptoCard

/-- THE SECOND FORM's CARD OF 'moveoutlaw03.GunBubbles'. -/
def gunBubblesUptoCard : Claim7 := { stood := { row := gunBubblesUptoRow, standIns := [], harness := (true, "e00eecd8ca05e183972abfbf043f5ed2bc813bd519e3ebd189d9b51d2f935a9d"), looks := true }, kinds := [], alts := [], laidByText := true, laidKinds := [.data, .data, .data, .widerDeep], laidTests := true, laidLooks := .later }
def GunBubblesUptoCardSaid : Prop := Claim7.holds Tryz.pinned (.plain (OpenSpec.upto gunBubblesSpec)) gunBubblesUptoCard

/-- THE SECOND FORM's CARD OF 'moveoutlaw03.GunSignatures'. -/
def gunSignaturesUptoCard : Claim7 := { stood := { row := gunSignaturesUptoRow, standIns := [], harness := (true, "e00eecd8ca05e183972abfbf043f5ed2bc813bd519e3ebd189d9b51d2f935a9d"), looks := true }, kinds := [], alts := [], laidByText := true, laidKinds := [.data, .data, .data, .widerDeep], laidTests := true, laidLooks := .later }
def GunSignaturesUptoCardSaid : Prop := Claim7.holds Tryz.pinned (.plain (OpenSpec.upto gunSignaturesSpec)) gunSignaturesUptoCard

/-- THE SECOND FORM's CARD OF 'moveoutlaw03.GunLines'. -/
def gunLinesUptoCard : Claim7 := { stood := { row := gunLinesUptoRow, standIns := [], harness := (true, "e00eecd8ca05e183972abfbf043f5ed2bc813bd519e3ebd189d9b51d2f935a9d"), looks := true }, kinds := [], alts := [], laidByText := true, laidKinds := [.data, .data, .data, .widerDeep], laidTests := true, laidLooks := .later }
def GunLinesUptoCardSaid : Prop := Claim7.holds Tryz.pinned (.plain (OpenSpec.upto gunLinesSpec)) gunLinesUptoCard

/-- THE SECOND FORM's CARD OF 'moveoutlaw03.GunMoves'. -/
def gunMovesUptoCard : Claim7 := { stood := { row := gunMovesUptoRow, standIns := [], harness := (true, "e00eecd8ca05e183972abfbf043f5ed2bc813bd519e3ebd189d9b51d2f935a9d"), looks := true }, kinds := [], alts := [], laidByText := true, laidKinds := [.data, .data, .data, .widerDeep], laidTests := true, laidLooks := .later }
def GunMovesUptoCardSaid : Prop := Claim7.holds Tryz.pinned (.plain (OpenSpec.upto gunMovesSpec)) gunMovesUptoCard

/-- THE SECOND FORM's CARD OF 'moveoutlaw03.GunTimes'. -/
def gunTimesUptoCard : Claim7 := { stood := { row := gunTimesUptoRow, standIns := [], harness := (true, "e00eecd8ca05e183972abfbf043f5ed2bc813bd519e3ebd189d9b51d2f935a9d"), looks := true }, kinds := [], alts := [], laidByText := true, laidKinds := [.data, .data, .data, .widerDeep], laidTests := true, laidLooks := .later }
def GunTimesUptoCardSaid : Prop := Claim7.holds Tryz.pinned (.plain (OpenSpec.upto gunTimesSpec)) gunTimesUptoCard

/-- THE SECOND FORM's CARD OF 'moveoutlaw03.GunReaches'. -/
def gunReachesUptoCard : Claim7 := { stood := { row := gunReachesUptoRow, standIns := [], harness := (true, "e00eecd8ca05e183972abfbf043f5ed2bc813bd519e3ebd189d9b51d2f935a9d"), looks := true }, kinds := [], alts := [], laidByText := true, laidKinds := [.data, .data, .data, .widerDeep], laidTests := true, laidLooks := .later }
def GunReachesUptoCardSaid : Prop := Claim7.holds Tryz.pinned (.plain (OpenSpec.upto gunReachesSpec)) gunReachesUptoCard

/-- THE SECOND FORM's CARD OF 'moveoutlaw03.GunStarts'. -/
def gunStartsUptoCard : Claim7 := { stood := { row := gunStartsUptoRow, standIns := [], harness := (true, "e00eecd8ca05e183972abfbf043f5ed2bc813bd519e3ebd189d9b51d2f935a9d"), looks := true }, kinds := [], alts := [], laidByText := true, laidKinds := [.data, .data, .data, .widerDeep], laidTests := true, laidLooks := .later }
def GunStartsUptoCardSaid : Prop := Claim7.holds Tryz.pinned (.plain (OpenSpec.upto gunStartsSpec)) gunStartsUptoCard

/-- THE SECOND FORM's CARD OF 'moveoutlaw03.GunSoft'. -/
def gunSoftUptoCard : Claim7 := { stood := { row := gunSoftUptoRow, standIns := [], harness := (true, "e00eecd8ca05e183972abfbf043f5ed2bc813bd519e3ebd189d9b51d2f935a9d"), looks := true }, kinds := [], alts := [], laidByText := true, laidKinds := [.data, .data, .data, .widerDeep], laidTests := true, laidLooks := .later }
def GunSoftUptoCardSaid : Prop := Claim7.holds Tryz.pinned (.plain (OpenSpec.upto gunSoftSpec)) gunSoftUptoCard

/-- THE SECOND FORM's CARD OF 'moveoutlaw03.GunExplains'. -/
def gunExplainsUptoCard : Claim7 := { stood := { row := gunExplainsUptoRow, standIns := [], harness := (true, "e00eecd8ca05e183972abfbf043f5ed2bc813bd519e3ebd189d9b51d2f935a9d"), looks := true }, kinds := [], alts := [], laidByText := true, laidKinds := [.data, .data, .data, .widerDeep], laidTests := true, laidLooks := .later }
def GunExplainsUptoCardSaid : Prop := Claim7.holds Tryz.pinned (.plain (OpenSpec.upto gunExplainsSpec)) gunExplainsUptoCard

/-- THE SECOND FORM's CARD OF 'moveoutlaw03.GunEncloses'. -/
def gunEnclosesUptoCard : Claim7 := { stood := { row := gunEnclosesUptoRow, standIns := [], harness := (true, "e00eecd8ca05e183972abfbf043f5ed2bc813bd519e3ebd189d9b51d2f935a9d"), looks := true }, kinds := [], alts := [], laidByText := true, laidKinds := [.data, .data, .data, .widerDeep], laidTests := true, laidLooks := .later }
def GunEnclosesUptoCardSaid : Prop := Claim7.holds Tryz.pinned (.plain (OpenSpec.upto gunEnclosesSpec)) gunEnclosesUptoCard

/-- THE SECOND FORM's CARD OF 'moveoutlaw03.GunAccepts'. -/
def gunAcceptsUptoCard : Claim7 := { stood := { row := gunAcceptsUptoRow, standIns := [], harness := (true, "e00eecd8ca05e183972abfbf043f5ed2bc813bd519e3ebd189d9b51d2f935a9d"), looks := true }, kinds := [], alts := [], laidByText := true, laidKinds := [.data, .data, .data, .widerDeep], laidTests := true, laidLooks := .later }
def GunAcceptsUptoCardSaid : Prop := Claim7.holds Tryz.pinned (.plain (OpenSpec.upto gunAcceptsSpec)) gunAcceptsUptoCard

/-- THE SECOND FORM's CARD OF 'moveoutlaw03.GunDrops'. -/
def gunDropsUptoCard : Claim7 := { stood := { row := gunDropsUptoRow, standIns := [], harness := (true, "e00eecd8ca05e183972abfbf043f5ed2bc813bd519e3ebd189d9b51d2f935a9d"), looks := true }, kinds := [], alts := [], laidByText := true, laidKinds := [.data, .data, .data, .widerDeep], laidTests := true, laidLooks := .later }
def GunDropsUptoCardSaid : Prop := Claim7.holds Tryz.pinned (.plain (OpenSpec.upto gunDropsSpec)) gunDropsUptoCard

/-- THE SECOND FORM's CARD OF 'moveoutlaw03.GunTexts'. -/
def gunTextsUptoCard : Claim7 := { stood := { row := gunTextsUptoRow, standIns := [], harness := (true, "e00eecd8ca05e183972abfbf043f5ed2bc813bd519e3ebd189d9b51d2f935a9d"), looks := true }, kinds := [], alts := [], laidByText := true, laidKinds := [.data, .data, .data, .data, .sentinel, .sentinel, .widerDeep, .pinned], laidTests := true, laidLooks := .later }
def GunTextsUptoCardSaid : Prop := Claim7.holds Tryz.pinned (.plain (OpenSpec.upto gunTextsSpec)) gunTextsUptoCard

/-- THE SECOND FORM's CARD OF 'moveoutlaw03.GunBack'. -/
def gunBackUptoCard : Claim7 := { stood := { row := gunBackUptoRow, standIns := [], harness := (true, "e00eecd8ca05e183972abfbf043f5ed2bc813bd519e3ebd189d9b51d2f935a9d"), looks := true }, kinds := [], alts := [], laidByText := true, laidKinds := [.data, .data, .data, .data, .sentinel, .sentinel, .widerDeep, .pinned], laidTests := true, laidLooks := .later }
def GunBackUptoCardSaid : Prop := Claim7.holds Tryz.pinned (.plain (OpenSpec.upto gunBackSpec)) gunBackUptoCard
end Rows
end Go.Proofs.YtndlfijfjglkdaaGreatDoor
