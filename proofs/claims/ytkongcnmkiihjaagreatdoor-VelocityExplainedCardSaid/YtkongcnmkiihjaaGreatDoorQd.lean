/-
Closed facts of the row of VelocityExplained.
-/
import Derived.Test.YtkongcnmkiihjaaGreatDoorPa
/-
The closed facts of the row of velocityExplained, one by one.
-/
namespace Go.Proofs.YtkongcnmkiihjaaGreatDoor
open Go
namespace velocityExplained
theorem jf0 : OpenClaim.wf (OpenSpec.ofChange Rows.velocityExplainedSpec) Rows.velocityExplainedRow = true := by kernel_rfl
theorem jf1 : laidOutB Tryz.prog = true := jfp1
theorem jf2 : mapsRowed Tryz.prog = true := jfp2
theorem jf3 : Tryz.f9.params.all (Tryz.prog.readableRec ·) = true := by kernel_rfl
theorem jf4 : namedTie Tryz.prog Rows.velocityExplainedRow.named Rows.velocityExplainedSpec.vars = true := by kernel_rfl
theorem jf5 : (Rows.velocityExplainedRow.stops == []) = true := by kernel_rfl
theorem jf6 : (Tryz.prog.stops == []) = true := jfp6
theorem jf7 : (Rows.velocityExplainedRow.knobs == []) = true := by kernel_rfl
theorem jf8 : (Tryz.prog.stopKnobs == []) = true := jfp8
theorem jf9 : (Rows.velocityExplainedRow.inPlace == Tryz.prog.inPlace 9) = true := by kernel_rfl
theorem jf10 : (Rows.velocityExplainedRow.unfollowed == Tryz.prog.unfollowed 9) = true := by kernel_rfl
theorem jf11 : (Rows.velocityExplainedRow.recurses == Tryz.prog.recurses 9) = true := by kernel_rfl
theorem jf12 : (Rows.velocityExplainedRow.named == Tryz.prog.varsNamed 9) = true := by kernel_rfl
theorem jf13 : (Rows.velocityExplainedRow.maps == (Tryz.f9.params.toList ++ Rows.velocityExplainedSpec.plain.varTypes Tryz.prog).any (Tryz.prog.mapsRec ·)) = true := by kernel_rfl
theorem jf14 : (Rows.velocityExplainedRow.ifaces == (Tryz.f9.params.toList ++ Rows.velocityExplainedSpec.plain.varTypes Tryz.prog).any (Tryz.prog.ifacesRec ·)) = true := by kernel_rfl
theorem jf15 : (Rows.velocityExplainedRow.mapsOut == Tryz.prog.mapsAmong Tryz.f9.resultTypes.toList) = true := by kernel_rfl
theorem jf16 : (Rows.velocityExplainedRow.loops == (Tryz.f9.params.toList ++ Rows.velocityExplainedSpec.plain.varTypes Tryz.prog).any (Tryz.prog.loopsFrom ·)) = true := by kernel_rfl
theorem jf17 : (Rows.velocityExplainedRow.wideKeys == (Tryz.f9.params.toList ++ Rows.velocityExplainedSpec.plain.varTypes Tryz.prog ++ Tryz.f9.resultTypes.toList).any (Tryz.prog.wideKeysFrom ·)) = true := by kernel_rfl
theorem jf18 : Rows.velocityExplainedSpec.vars.all (Tryz.prog.varReadable ·) = true := by kernel_rfl
theorem jf19 : Tryz.f9.resultTypes.all (fun t => Tryz.prog.readableRec t && decide (t < Tryz.prog.types.size)) = true := by kernel_rfl
theorem jf20 : (Rows.velocityExplainedRow.ifacesOut == Tryz.f9.resultTypes.toList.any (Tryz.prog.ifacesRec ·)) = true := by kernel_rfl
theorem jf21 : (Rows.velocityExplainedRow.loopsOut == Tryz.f9.resultTypes.toList.any (Tryz.prog.loopsFrom ·)) = true := by kernel_rfl
theorem jf22 : (Rows.velocityExplainedRow.plainKeys == Tryz.prog.plainKeys) = true := jfp22
theorem jf23 : Rows.velocityExplainedRow.shortTexts.isNone = true := by kernel_rfl
theorem jf24 : Tryz.prog.stopsHeard = true := jfp24
theorem jf25 : Tryz.prog.mayEnter = true := jfp25
theorem jf26 : (Rows.velocityExplainedRow.lifted == Tryz.prog.liftsFinal) = true := jfp26
theorem jf27 : (Tryz.prog.make == some Rows.velocityExplainedRow.make) = true := jfp27
theorem jf28 : (Rows.velocityExplainedRow.kinds == (if Rows.velocityExplainedRow.domain.isEmpty then [] else Tryz.f9.params.toList.map fun t => match Tryz.prog.underlying t with | some (.int k) => some k | _ => none)) = true := by kernel_rfl
theorem jf29 : (Rows.velocityExplainedRow.pinned == Rows.velocityExplainedRow.pinnedBy) = true := by kernel_rfl
theorem jf30 : (Rows.velocityExplainedRow.veiled == (Tryz.f9.params.toList ++ Rows.velocityExplainedSpec.plain.varTypes Tryz.prog ++ Tryz.f9.resultTypes.toList).any (Tryz.prog.veiledRec ·)) = true := by kernel_rfl
theorem jf31 : OpenClaim.veiledFits Rows.velocityExplainedRow Tryz.prog Tryz.f9.params.toList (Tryz.f9.params.toList ++ Rows.velocityExplainedSpec.plain.varTypes Tryz.prog ++ Tryz.f9.resultTypes.toList) = true := by kernel_rfl
set_option maxRecDepth 100000 in
theorem facts : joinedFacts Tryz.prog 9 Tryz.f9 Rows.velocityExplainedSpec Rows.velocityExplainedRow = true := by
  unfold joinedFacts
  exact (and2 (and2 (and2 (and2 (and2 (and2 (and2 (and2 (and2 (and2 (and2 (and2 (and2 (and2 (and2 (and2 (and2 (and2 (and2 (and2 (and2 (and2 (and2 (and2 (and2 (and2 (and2 (and2 (and2 (and2 (and2 jf0 jf1) jf2) jf3) jf4) jf5) jf6) jf7) jf8) jf9) jf10) jf11) jf12) jf13) jf14) jf15) jf16) jf17) jf18) jf19) jf20) jf21) jf22) jf23) jf24) jf25) jf26) jf27) jf28) jf29) jf30) jf31)
end velocityExplained
end Go.Proofs.YtkongcnmkiihjaaGreatDoor
