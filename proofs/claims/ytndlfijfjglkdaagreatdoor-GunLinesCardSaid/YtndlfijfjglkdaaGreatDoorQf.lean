/-
Closed facts of the row of GunLines.
-/
import Derived.Test.YtndlfijfjglkdaaGreatDoorPa
/-
The closed facts of the row of gunLines, one by one.
-/
namespace Go.Proofs.YtndlfijfjglkdaaGreatDoor
open Go
namespace gunLines
theorem jf0 : OpenClaim.wf (OpenSpec.ofChange Rows.gunLinesSpec) Rows.gunLinesRow = true := by kernel_rfl
theorem jf1 : laidOutB Tryz.prog = true := jfp1
theorem jf2 : mapsRowed Tryz.prog = true := jfp2
theorem jf3 : Tryz.f6.params.all (Tryz.prog.readableRec ·) = true := by kernel_rfl
theorem jf4 : namedTie Tryz.prog Rows.gunLinesRow.named Rows.gunLinesSpec.vars = true := by kernel_rfl
theorem jf5 : (Rows.gunLinesRow.stops == []) = true := by kernel_rfl
theorem jf6 : (Tryz.prog.stops == []) = true := jfp6
theorem jf7 : (Rows.gunLinesRow.knobs == []) = true := by kernel_rfl
theorem jf8 : (Tryz.prog.stopKnobs == []) = true := jfp8
theorem jf9 : (Rows.gunLinesRow.inPlace == Tryz.prog.inPlace 6) = true := by kernel_rfl
theorem jf10 : (Rows.gunLinesRow.unfollowed == Tryz.prog.unfollowed 6) = true := by kernel_rfl
theorem jf11 : (Rows.gunLinesRow.recurses == Tryz.prog.recurses 6) = true := by kernel_rfl
theorem jf12 : (Rows.gunLinesRow.named == Tryz.prog.varsNamed 6) = true := by kernel_rfl
theorem jf13 : (Rows.gunLinesRow.maps == (Tryz.f6.params.toList ++ Rows.gunLinesSpec.plain.varTypes Tryz.prog).any (Tryz.prog.mapsRec ·)) = true := by kernel_rfl
theorem jf14 : (Rows.gunLinesRow.ifaces == (Tryz.f6.params.toList ++ Rows.gunLinesSpec.plain.varTypes Tryz.prog).any (Tryz.prog.ifacesRec ·)) = true := by kernel_rfl
theorem jf15 : (Rows.gunLinesRow.mapsOut == Tryz.prog.mapsAmong Tryz.f6.resultTypes.toList) = true := by kernel_rfl
theorem jf16 : (Rows.gunLinesRow.loops == (Tryz.f6.params.toList ++ Rows.gunLinesSpec.plain.varTypes Tryz.prog).any (Tryz.prog.loopsFrom ·)) = true := by kernel_rfl
theorem jf17 : (Rows.gunLinesRow.wideKeys == (Tryz.f6.params.toList ++ Rows.gunLinesSpec.plain.varTypes Tryz.prog ++ Tryz.f6.resultTypes.toList).any (Tryz.prog.wideKeysFrom ·)) = true := by kernel_rfl
theorem jf18 : Rows.gunLinesSpec.vars.all (Tryz.prog.varReadable ·) = true := by kernel_rfl
theorem jf19 : Tryz.f6.resultTypes.all (fun t => Tryz.prog.readableRec t && decide (t < Tryz.prog.types.size)) = true := by kernel_rfl
theorem jf20 : (Rows.gunLinesRow.ifacesOut == Tryz.f6.resultTypes.toList.any (Tryz.prog.ifacesRec ·)) = true := by kernel_rfl
theorem jf21 : (Rows.gunLinesRow.loopsOut == Tryz.f6.resultTypes.toList.any (Tryz.prog.loopsFrom ·)) = true := by kernel_rfl
theorem jf22 : (Rows.gunLinesRow.plainKeys == Tryz.prog.plainKeys) = true := jfp22
theorem jf23 : Rows.gunLinesRow.shortTexts.isNone = true := by kernel_rfl
theorem jf24 : Tryz.prog.stopsHeard = true := jfp24
theorem jf25 : Tryz.prog.mayEnter = true := jfp25
theorem jf26 : (Rows.gunLinesRow.lifted == Tryz.prog.liftsFinal) = true := jfp26
theorem jf27 : (Tryz.prog.make == some Rows.gunLinesRow.make) = true := jfp27
theorem jf28 : (Rows.gunLinesRow.kinds == (if Rows.gunLinesRow.domain.isEmpty then [] else Tryz.f6.params.toList.map fun t => match Tryz.prog.underlying t with | some (.int k) => some k | _ => none)) = true := by kernel_rfl
theorem jf29 : (Rows.gunLinesRow.pinned == Rows.gunLinesRow.pinnedBy) = true := by kernel_rfl
theorem jf30 : (Rows.gunLinesRow.veiled == (Tryz.f6.params.toList ++ Rows.gunLinesSpec.plain.varTypes Tryz.prog ++ Tryz.f6.resultTypes.toList).any (Tryz.prog.veiledRec ·)) = true := by kernel_rfl
theorem jf31 : OpenClaim.veiledFits Rows.gunLinesRow Tryz.prog Tryz.f6.params.toList (Tryz.f6.params.toList ++ Rows.gunLinesSpec.plain.varTypes Tryz.prog ++ Tryz.f6.resultTypes.toList) = true := by kernel_rfl
set_option maxRecDepth 100000 in
theorem facts : joinedFacts Tryz.prog 6 Tryz.f6 Rows.gunLinesSpec Rows.gunLinesRow = true := by
  unfold joinedFacts
  exact (and2 (and2 (and2 (and2 (and2 (and2 (and2 (and2 (and2 (and2 (and2 (and2 (and2 (and2 (and2 (and2 (and2 (and2 (and2 (and2 (and2 (and2 (and2 (and2 (and2 (and2 (and2 (and2 (and2 (and2 (and2 jf0 jf1) jf2) jf3) jf4) jf5) jf6) jf7) jf8) jf9) jf10) jf11) jf12) jf13) jf14) jf15) jf16) jf17) jf18) jf19) jf20) jf21) jf22) jf23) jf24) jf25) jf26) jf27) jf28) jf29) jf30) jf31)
end gunLines
end Go.Proofs.YtndlfijfjglkdaaGreatDoor
