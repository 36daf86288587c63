/-
Closed facts of the row of VelocityTexts.
-/
import Derived.Test.YtkongcnmkiihjaaGreatDoorPa
namespace Go.Proofs.YtkongcnmkiihjaaGreatDoor
open Go
namespace velocityTexts
theorem jf0 : OpenClaim.wf (OpenSpec.ofChange Rows.velocityTextsSpec) Rows.velocityTextsRow = true := by kernel_rfl
theorem jf1 : laidOutB Tryz.prog = true := jfp1
theorem jf2 : mapsRowed Tryz.prog = true := jfp2
theorem jf3 : Tryz.f13.params.all (Tryz.prog.readableRec ·) = true := by kernel_rfl
theorem jf4 : namedTie Tryz.prog Rows.velocityTextsRow.named Rows.velocityTextsSpec.vars = true := by kernel_rfl
theorem jf5 : (Rows.velocityTextsRow.stops == []) = true := by kernel_rfl
theorem jf6 : (Tryz.prog.stops == []) = true := jfp6
theorem jf7 : (Rows.velocityTextsRow.knobs == []) = true := by kernel_rfl
theorem jf8 : (Tryz.prog.stopKnobs == []) = true := jfp8
theorem jf9 : (Rows.velocityTextsRow.inPlace == Tryz.prog.inPlace 13) = true := by kernel_rfl
theorem jf10 : (Rows.velocityTextsRow.unfollowed == Tryz.prog.unfollowed 13) = true := by kernel_rfl
theorem jf11 : (Rows.velocityTextsRow.recurses == Tryz.prog.recurses 13) = true := by kernel_rfl
theorem jf12 : (Rows.velocityTextsRow.named == Tryz.prog.varsNamed 13) = true := by kernel_rfl
theorem jf13 : (Rows.velocityTextsRow.maps == (Tryz.f13.params.toList ++ Rows.velocityTextsSpec.plain.varTypes Tryz.prog).any (Tryz.prog.mapsRec ·)) = true := by kernel_rfl
theorem jf14 : (Rows.velocityTextsRow.ifaces == (Tryz.f13.params.toList ++ Rows.velocityTextsSpec.plain.varTypes Tryz.prog).any (Tryz.prog.ifacesRec ·)) = true := by kernel_rfl
theorem jf15 : (Rows.velocityTextsRow.mapsOut == Tryz.prog.mapsAmong Tryz.f13.resultTypes.toList) = true := by kernel_rfl
theorem jf16 : (Rows.velocityTextsRow.loops == (Tryz.f13.params.toList ++ Rows.velocityTextsSpec.plain.varTypes Tryz.prog).any (Tryz.prog.loopsFrom ·)) = true := by kernel_rfl
theorem jf17 : (Rows.velocityTextsRow.wideKeys == (Tryz.f13.params.toList ++ Rows.velocityTextsSpec.plain.varTypes Tryz.prog ++ Tryz.f13.resultTypes.toList).any (Tryz.prog.wideKeysFrom ·)) = true := by kernel_rfl
theorem jf18 : Rows.velocityTextsSpec.vars.all (Tryz.prog.varReadable ·) = true := by kernel_rfl
theorem jf19 : Tryz.f13.resultTypes.all (fun t => Tryz.prog.readableRec t && decide (t < Tryz.prog.types.size)) = true := by kernel_rfl
theorem jf20 : (Rows.velocityTextsRow.ifacesOut == Tryz.f13.resultTypes.toList.any (Tryz.prog.ifacesRec ·)) = true := by kernel_rfl
theorem jf21 : (Rows.velocityTextsRow.loopsOut == Tryz.f13.resultTypes.toList.any (Tryz.prog.loopsFrom ·)) = true := by kernel_rfl
theorem jf22 : (Rows.velocityTextsRow.plainKeys == Tryz.prog.plainKeys) = true := jfp22
theorem jf23 : Rows.velocityTextsRow.shortTexts.isNone = true := by kernel_rfl
theorem jf24 : Tryz.prog.stopsHeard = true := jfp24
theorem jf25 : Tryz.prog.mayEnter = true := jfp25
theorem jf26 : (Rows.velocityTextsRow.lifted == Tryz.prog.liftsFinal) = true := jfp26
theorem jf27 : (Tryz.prog.make == some Rows.velocityTextsRow.make) = true := jfp27
theorem jf28 : (Rows.velocityTextsRow.kinds == (if Rows.velocityTextsRow.domain.isEmpty then [] else Tryz.f13.params.toList.map fun t => match Tryz.prog.underlying t with | some (.int k) => some k | _ => none)) = true := by kernel_rfl
theorem jf29 : (Rows.velocityTextsRow.pinned == Rows.velocityTextsRow.pinnedBy) = true := by kernel_rfl
theorem jf30 : (Rows.velocityTextsRow.veiled == (Tryz.f13.params.toList ++ Rows.velocityTextsSpec.plain.varTypes Tryz.prog ++ Tryz.f13.resultTypes.toList).any (Tryz.prog.veiledRec ·)) = true := by kernel_rfl
theorem jf31 : OpenClaim.veiledFits Rows.velocityTextsRow Tryz.prog Tryz.f13.params.toList (Tryz.f13.params.toList ++ Rows.velocityTextsSpec.plain.varTypes Tryz.prog ++ Tryz.f13.resultTypes.toList) = true := by kernel_rfl
set_option maxRecDepth 100000 in
theorem facts : joinedFacts Tryz.prog 13 Tryz.f13 Rows.velocityTextsSpec Rows.velocityTextsRow = true := by
  unfold joinedFacts
  exact (and2 (and2 (and2 (and2 (and2 (and2 (and2 (and2 (and2 (and2 (and2 (and2 (and2 (and2 (and2 (and2 (and2 (and2 (and2 (and2 (and2 (and2 (and2 (and2 (and2 (and2 (and2 (and2 (and2 (and2 (and2 jf0 jf1) jf2) jf3) jf4) jf5) jf6) jf7) jf8) jf9) jf10) jf11) jf12) jf13) jf14) jf15) jf16) jf17) jf18) jf19) jf20) jf21) jf22) jf23) jf24) jf25) jf26) jf27) jf28) jf29) jf30) jf31)
end velocityTexts
end Go.Proofs.YtkongcnmkiihjaaGreatDoor
