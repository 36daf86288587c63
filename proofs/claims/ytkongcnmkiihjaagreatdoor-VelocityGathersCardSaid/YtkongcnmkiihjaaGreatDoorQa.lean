/-
Closed facts of the row of the law.
-/
import Derived.Test.YtkongcnmkiihjaaGreatDoorPa
namespace Go.Proofs.YtkongcnmkiihjaaGreatDoor
open Go
namespace velocityGathers
theorem jf0 : OpenClaim.wf (OpenSpec.ofChange Rows.velocityGathersSpec) Rows.velocityGathersRow = true := by kernel_rfl
theorem jf1 : laidOutB Tryz.prog = true := jfp1
theorem jf2 : mapsRowed Tryz.prog = true := jfp2
theorem jf3 : Tryz.f10.params.all (Tryz.prog.readableRec ·) = true := by kernel_rfl
theorem jf4 : namedTie Tryz.prog Rows.velocityGathersRow.named Rows.velocityGathersSpec.vars = true := by kernel_rfl
theorem jf5 : (Rows.velocityGathersRow.stops == []) = true := by kernel_rfl
theorem jf6 : (Tryz.prog.stops == []) = true := jfp6
theorem jf7 : (Rows.velocityGathersRow.knobs == []) = true := by kernel_rfl
theorem jf8 : (Tryz.prog.stopKnobs == []) = true := jfp8
theorem jf9 : (Rows.velocityGathersRow.inPlace == Tryz.prog.inPlace 10) = true := by kernel_rfl
theorem jf10 : (Rows.velocityGathersRow.unfollowed == Tryz.prog.unfollowed 10) = true := by kernel_rfl
theorem jf11 : (Rows.velocityGathersRow.recurses == Tryz.prog.recurses 10) = true := by kernel_rfl
theorem jf12 : (Rows.velocityGathersRow.named == Tryz.prog.varsNamed 10) = true := by kernel_rfl
theorem jf13 : (Rows.velocityGathersRow.maps == (Tryz.f10.params.toList ++ Rows.velocityGathersSpec.plain.varTypes Tryz.prog).any (Tryz.prog.mapsRec ·)) = true := by kernel_rfl
theorem jf14 : (Rows.velocityGathersRow.ifaces == (Tryz.f10.params.toList ++ Rows.velocityGathersSpec.plain.varTypes Tryz.prog).any (Tryz.prog.ifacesRec ·)) = true := by kernel_rfl
theorem jf15 : (Rows.velocityGathersRow.mapsOut == Tryz.prog.mapsAmong Tryz.f10.resultTypes.toList) = true := by kernel_rfl
theorem jf16 : (Rows.velocityGathersRow.loops == (Tryz.f10.params.toList ++ Rows.velocityGathersSpec.plain.varTypes Tryz.prog).any (Tryz.prog.loopsFrom ·)) = true := by kernel_rfl
theorem jf17 : (Rows.velocityGathersRow.wideKeys == (Tryz.f10.params.toList ++ Rows.velocityGathersSpec.plain.varTypes Tryz.prog ++ Tryz.f10.resultTypes.toList).any (Tryz.prog.wideKeysFrom ·)) = true := by kernel_rfl
theorem jf18 : Rows.velocityGathersSpec.vars.all (Tryz.prog.varReadable ·) = true := by kernel_rfl
theorem jf19 : Tryz.f10.resultTypes.all (fun t => Tryz.prog.readableRec t && decide (t < Tryz.prog.types.size)) = true := by kernel_rfl
theorem jf20 : (Rows.velocityGathersRow.ifacesOut == Tryz.f10.resultTypes.toList.any (Tryz.prog.ifacesRec ·)) = true := by kernel_rfl
theorem jf21 : (Rows.velocityGathersRow.loopsOut == Tryz.f10.resultTypes.toList.any (Tryz.prog.loopsFrom ·)) = true := by kernel_rfl
theorem jf22 : (Rows.velocityGathersRow.plainKeys == Tryz.prog.plainKeys) = true := jfp22
theorem jf23 : Rows.velocityGathersRow.shortTexts.isNone = true := by kernel_rfl
theorem jf24 : Tryz.prog.stopsHeard = true := jfp24
theorem jf25 : Tryz.prog.mayEnter = true := jfp25
theorem jf26 : (Rows.velocityGathersRow.lifted == Tryz.prog.liftsFinal) = true := jfp26
theorem jf27 : (Tryz.prog.make == some Rows.velocityGathersRow.make) = true := jfp27
theorem jf28 : (Rows.velocityGathersRow.kinds == (if Rows.velocityGathersRow.domain.isEmpty then [] else Tryz.f10.params.toList.map fun t => match Tryz.prog.underlying t with | some (.int k) => some k | _ => none)) = true := by kernel_rfl
theorem jf29 : (Rows.velocityGathersRow.pinned == Rows.velocityGathersRow.pinnedBy) = true := by kernel_rfl
theorem jf30 : (Rows.velocityGathersRow.veiled == (Tryz.f10.params.toList ++ Rows.velocityGathersSpec.plain.varTypes Tryz.prog ++ Tryz.f10.resultTypes.toList).any (Tryz.prog.veiledRec ·)) = true := by kernel_rfl
theorem jf31 : OpenClaim.veiledFits Rows.velocityGathersRow Tryz.prog Tryz.f10.params.toList (Tryz.f10.params.toList ++ Rows.velocityGathersSpec.plain.varTypes Tryz.prog ++ Tryz.f10.resultTypes.toList) = true := by kernel_rfl
set_option maxRecDepth 100000 in
theorem facts : joinedFacts Tryz.prog 10 Tryz.f10 Rows.velocityGathersSpec Rows.velocityGathersRow = true := by
 unfold joinedFacts
 exact (and2 (and2 (and2 (and2 (and2 (and2 (and2 (and2 (and2 (and2 (and2 (and2 (and2 (and2 (and2 (and2 (and2 (and2 (and2 (and2 (and2 (and2 (and2 (and2 (and2 (and2 (and2 (and2 (and2 (and2 (and2 jf0 jf1) jf2) jf3) jf4) jf5) jf6) jf7) jf8) jf9) jf10) jf11) jf12) jf13) jf14) jf15) jf16) jf17) jf18) jf19) jf20) jf21) jf22) jf23) jf24) jf25) jf26) jf27) jf28) jf29) jf30) jf31)
end velocityGathers
end Go.Proofs.YtkongcnmkiihjaaGreatDoor
