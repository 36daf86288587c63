/-
Closed facts of the row of VelocityMoments.
-/
import Derived.Test.YtkongcnmkiihjaaGreatDoorPa
/-
The closed facts of the row of velocityMoments, one by one.
-/
namespace Go.Proofs.YtkongcnmkiihjaaGreatDoor
open Go
namespace velocityMoments
theorem jf0 : OpenClaim.wf (OpenSpec.ofChange Rows.velocityMomentsSpec) Rows.velocityMomentsRow = true := by kernel_rfl
theorem jf1 : laidOutB Tryz.prog = true := jfp1
theorem jf2 : mapsRowed Tryz.prog = true := jfp2
theorem jf3 : Tryz.f8.params.all (Tryz.prog.readableRec ·) = true := by kernel_rfl
theorem jf4 : namedTie Tryz.prog Rows.velocityMomentsRow.named Rows.velocityMomentsSpec.vars = true := by kernel_rfl
theorem jf5 : (Rows.velocityMomentsRow.stops == []) = true := by kernel_rfl
theorem jf6 : (Tryz.prog.stops == []) = true := jfp6
theorem jf7 : (Rows.velocityMomentsRow.knobs == []) = true := by kernel_rfl
theorem jf8 : (Tryz.prog.stopKnobs == []) = true := jfp8
theorem jf9 : (Rows.velocityMomentsRow.inPlace == Tryz.prog.inPlace 8) = true := by kernel_rfl
theorem jf10 : (Rows.velocityMomentsRow.unfollowed == Tryz.prog.unfollowed 8) = true := by kernel_rfl
theorem jf11 : (Rows.velocityMomentsRow.recurses == Tryz.prog.recurses 8) = true := by kernel_rfl
theorem jf12 : (Rows.velocityMomentsRow.named == Tryz.prog.varsNamed 8) = true := by kernel_rfl
theorem jf13 : (Rows.velocityMomentsRow.maps == (Tryz.f8.params.toList ++ Rows.velocityMomentsSpec.plain.varTypes Tryz.prog).any (Tryz.prog.mapsRec ·)) = true := by kernel_rfl
theorem jf14 : (Rows.velocityMomentsRow.ifaces == (Tryz.f8.params.toList ++ Rows.velocityMomentsSpec.plain.varTypes Tryz.prog).any (Tryz.prog.ifacesRec ·)) = true := by kernel_rfl
theorem jf15 : (Rows.velocityMomentsRow.mapsOut == Tryz.prog.mapsAmong Tryz.f8.resultTypes.toList) = true := by kernel_rfl
theorem jf16 : (Rows.velocityMomentsRow.loops == (Tryz.f8.params.toList ++ Rows.velocityMomentsSpec.plain.varTypes Tryz.prog).any (Tryz.prog.loopsFrom ·)) = true := by kernel_rfl
theorem jf17 : (Rows.velocityMomentsRow.wideKeys == (Tryz.f8.params.toList ++ Rows.velocityMomentsSpec.plain.varTypes Tryz.prog ++ Tryz.f8.resultTypes.toList).any (Tryz.prog.wideKeysFrom ·)) = true := by kernel_rfl
theorem jf18 : Rows.velocityMomentsSpec.vars.all (Tryz.prog.varReadable ·) = true := by kernel_rfl
theorem jf19 : Tryz.f8.resultTypes.all (fun t => Tryz.prog.readableRec t && decide (t < Tryz.prog.types.size)) = true := by kernel_rfl
theorem jf20 : (Rows.velocityMomentsRow.ifacesOut == Tryz.f8.resultTypes.toList.any (Tryz.prog.ifacesRec ·)) = true := by kernel_rfl
theorem jf21 : (Rows.velocityMomentsRow.loopsOut == Tryz.f8.resultTypes.toList.any (Tryz.prog.loopsFrom ·)) = true := by kernel_rfl
theorem jf22 : (Rows.velocityMomentsRow.plainKeys == Tryz.prog.plainKeys) = true := jfp22
theorem jf23 : Rows.velocityMomentsRow.shortTexts.isNone = true := by kernel_rfl
theorem jf24 : Tryz.prog.stopsHeard = true := jfp24
theorem jf25 : Tryz.prog.mayEnter = true := jfp25
theorem jf26 : (Rows.velocityMomentsRow.lifted == Tryz.prog.liftsFinal) = true := jfp26
theorem jf27 : (Tryz.prog.make == some Rows.velocityMomentsRow.make) = true := jfp27
theorem jf28 : (Rows.velocityMomentsRow.kinds == (if Rows.velocityMomentsRow.domain.isEmpty then [] else Tryz.f8.params.toList.map fun t => match Tryz.prog.underlying t with | some (.int k) => some k | _ => none)) = true := by kernel_rfl
theorem jf29 : (Rows.velocityMomentsRow.pinned == Rows.velocityMomentsRow.pinnedBy) = true := by kernel_rfl
theorem jf30 : (Rows.velocityMomentsRow.veiled == (Tryz.f8.params.toList ++ Rows.velocityMomentsSpec.plain.varTypes Tryz.prog ++ Tryz.f8.resultTypes.toList).any (Tryz.prog.veiledRec ·)) = true := by kernel_rfl
theorem jf31 : OpenClaim.veiledFits Rows.velocityMomentsRow Tryz.prog Tryz.f8.params.toList (Tryz.f8.params.toList ++ Rows.velocityMomentsSpec.plain.varTypes Tryz.prog ++ Tryz.f8.resultTypes.toList) = true := by kernel_rfl
set_option maxRecDepth 100000 in
theorem facts : joinedFacts Tryz.prog 8 Tryz.f8 Rows.velocityMomentsSpec Rows.velocityMomentsRow = true := by
  unfold joinedFacts
  exact (and2 (and2 (and2 (and2 (and2 (and2 (and2 (and2 (and2 (and2 (and2 (and2 (and2 (and2 (and2 (and2 (and2 (and2 (and2 (and2 (and2 (and2 (and2 (and2 (and2 (and2 (and2 (and2 (and2 (and2 (and2 jf0 jf1) jf2) jf3) jf4) jf5) jf6) jf7) jf8) jf9) jf10) jf11) jf12) jf13) jf14) jf15) jf16) jf17) jf18) jf19) jf20) jf21) jf22) jf23) jf24) jf25) jf26) jf27) jf28) jf29) jf30) jf31)
end velocityMoments
end Go.Proofs.YtkongcnmkiihjaaGreatDoor
