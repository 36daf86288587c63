/-
Closed facts of the row of VelocityHyperbolas.
-/
import Derived.Test.YtkongcnmkiihjaaGreatDoorPa
/-
The closed facts of the row of velocityHyperbolas, one by one.
-/
namespace Go.Proofs.YtkongcnmkiihjaaGreatDoor
open Go
namespace velocityHyperbolas
theorem jf0 : OpenClaim.wf (OpenSpec.ofChange Rows.velocityHyperbolasSpec) Rows.velocityHyperbolasRow = true := by kernel_rfl
theorem jf1 : laidOutB Tryz.prog = true := jfp1
theorem jf2 : mapsRowed Tryz.prog = true := jfp2
theorem jf3 : Tryz.f5.params.all (Tryz.prog.readableRec ·) = true := by kernel_rfl
theorem jf4 : namedTie Tryz.prog Rows.velocityHyperbolasRow.named Rows.velocityHyperbolasSpec.vars = true := by kernel_rfl
theorem jf5 : (Rows.velocityHyperbolasRow.stops == []) = true := by kernel_rfl
theorem jf6 : (Tryz.prog.stops == []) = true := jfp6
theorem jf7 : (Rows.velocityHyperbolasRow.knobs == []) = true := by kernel_rfl
theorem jf8 : (Tryz.prog.stopKnobs == []) = true := jfp8
theorem jf9 : (Rows.velocityHyperbolasRow.inPlace == Tryz.prog.inPlace 5) = true := by kernel_rfl
theorem jf10 : (Rows.velocityHyperbolasRow.unfollowed == Tryz.prog.unfollowed 5) = true := by kernel_rfl
theorem jf11 : (Rows.velocityHyperbolasRow.recurses == Tryz.prog.recurses 5) = true := by kernel_rfl
theorem jf12 : (Rows.velocityHyperbolasRow.named == Tryz.prog.varsNamed 5) = true := by kernel_rfl
theorem jf13 : (Rows.velocityHyperbolasRow.maps == (Tryz.f5.params.toList ++ Rows.velocityHyperbolasSpec.plain.varTypes Tryz.prog).any (Tryz.prog.mapsRec ·)) = true := by kernel_rfl
theorem jf14 : (Rows.velocityHyperbolasRow.ifaces == (Tryz.f5.params.toList ++ Rows.velocityHyperbolasSpec.plain.varTypes Tryz.prog).any (Tryz.prog.ifacesRec ·)) = true := by kernel_rfl
theorem jf15 : (Rows.velocityHyperbolasRow.mapsOut == Tryz.prog.mapsAmong Tryz.f5.resultTypes.toList) = true := by kernel_rfl
theorem jf16 : (Rows.velocityHyperbolasRow.loops == (Tryz.f5.params.toList ++ Rows.velocityHyperbolasSpec.plain.varTypes Tryz.prog).any (Tryz.prog.loopsFrom ·)) = true := by kernel_rfl
theorem jf17 : (Rows.velocityHyperbolasRow.wideKeys == (Tryz.f5.params.toList ++ Rows.velocityHyperbolasSpec.plain.varTypes Tryz.prog ++ Tryz.f5.resultTypes.toList).any (Tryz.prog.wideKeysFrom ·)) = true := by kernel_rfl
theorem jf18 : Rows.velocityHyperbolasSpec.vars.all (Tryz.prog.varReadable ·) = true := by kernel_rfl
theorem jf19 : Tryz.f5.resultTypes.all (fun t => Tryz.prog.readableRec t && decide (t < Tryz.prog.types.size)) = true := by kernel_rfl
theorem jf20 : (Rows.velocityHyperbolasRow.ifacesOut == Tryz.f5.resultTypes.toList.any (Tryz.prog.ifacesRec ·)) = true := by kernel_rfl
theorem jf21 : (Rows.velocityHyperbolasRow.loopsOut == Tryz.f5.resultTypes.toList.any (Tryz.prog.loopsFrom ·)) = true := by kernel_rfl
theorem jf22 : (Rows.velocityHyperbolasRow.plainKeys == Tryz.prog.plainKeys) = true := jfp22
theorem jf23 : Rows.velocityHyperbolasRow.shortTexts.isNone = true := by kernel_rfl
theorem jf24 : Tryz.prog.stopsHeard = true := jfp24
theorem jf25 : Tryz.prog.mayEnter = true := jfp25
theorem jf26 : (Rows.velocityHyperbolasRow.lifted == Tryz.prog.liftsFinal) = true := jfp26
theorem jf27 : (Tryz.prog.make == some Rows.velocityHyperbolasRow.make) = true := jfp27
theorem jf28 : (Rows.velocityHyperbolasRow.kinds == (if Rows.velocityHyperbolasRow.domain.isEmpty then [] else Tryz.f5.params.toList.map fun t => match Tryz.prog.underlying t with | some (.int k) => some k | _ => none)) = true := by kernel_rfl
theorem jf29 : (Rows.velocityHyperbolasRow.pinned == Rows.velocityHyperbolasRow.pinnedBy) = true := by kernel_rfl
theorem jf30 : (Rows.velocityHyperbolasRow.veiled == (Tryz.f5.params.toList ++ Rows.velocityHyperbolasSpec.plain.varTypes Tryz.prog ++ Tryz.f5.resultTypes.toList).any (Tryz.prog.veiledRec ·)) = true := by kernel_rfl
theorem jf31 : OpenClaim.veiledFits Rows.velocityHyperbolasRow Tryz.prog Tryz.f5.params.toList (Tryz.f5.params.toList ++ Rows.velocityHyperbolasSpec.plain.varTypes Tryz.prog ++ Tryz.f5.resultTypes.toList) = true := by kernel_rfl
set_option maxRecDepth 100000 in
theorem facts : joinedFacts Tryz.prog 5 Tryz.f5 Rows.velocityHyperbolasSpec Rows.velocityHyperbolasRow = true := by
  unfold joinedFacts
  exact (and2 (and2 (and2 (and2 (and2 (and2 (and2 (and2 (and2 (and2 (and2 (and2 (and2 (and2 (and2 (and2 (and2 (and2 (and2 (and2 (and2 (and2 (and2 (and2 (and2 (and2 (and2 (and2 (and2 (and2 (and2 jf0 jf1) jf2) jf3) jf4) jf5) jf6) jf7) jf8) jf9) jf10) jf11) jf12) jf13) jf14) jf15) jf16) jf17) jf18) jf19) jf20) jf21) jf22) jf23) jf24) jf25) jf26) jf27) jf28) jf29) jf30) jf31)
end velocityHyperbolas
end Go.Proofs.YtkongcnmkiihjaaGreatDoor
