/-
Closed facts of the row of VelocityPotentials.
-/
import Derived.Test.YtkongcnmkiihjaaGreatDoorPa
/-
The closed facts of the row of velocityPotentials, one by one.
-/
namespace Go.Proofs.YtkongcnmkiihjaaGreatDoor
open Go
namespace velocityPotentials
theorem jf0 : OpenClaim.wf (OpenSpec.ofChange Rows.velocityPotentialsSpec) Rows.velocityPotentialsRow = true := by kernel_rfl
theorem jf1 : laidOutB Tryz.prog = true := jfp1
theorem jf2 : mapsRowed Tryz.prog = true := jfp2
theorem jf3 : Tryz.f4.params.all (Tryz.prog.readableRec ·) = true := by kernel_rfl
theorem jf4 : namedTie Tryz.prog Rows.velocityPotentialsRow.named Rows.velocityPotentialsSpec.vars = true := by kernel_rfl
theorem jf5 : (Rows.velocityPotentialsRow.stops == []) = true := by kernel_rfl
theorem jf6 : (Tryz.prog.stops == []) = true := jfp6
theorem jf7 : (Rows.velocityPotentialsRow.knobs == []) = true := by kernel_rfl
theorem jf8 : (Tryz.prog.stopKnobs == []) = true := jfp8
theorem jf9 : (Rows.velocityPotentialsRow.inPlace == Tryz.prog.inPlace 4) = true := by kernel_rfl
theorem jf10 : (Rows.velocityPotentialsRow.unfollowed == Tryz.prog.unfollowed 4) = true := by kernel_rfl
theorem jf11 : (Rows.velocityPotentialsRow.recurses == Tryz.prog.recurses 4) = true := by kernel_rfl
theorem jf12 : (Rows.velocityPotentialsRow.named == Tryz.prog.varsNamed 4) = true := by kernel_rfl
theorem jf13 : (Rows.velocityPotentialsRow.maps == (Tryz.f4.params.toList ++ Rows.velocityPotentialsSpec.plain.varTypes Tryz.prog).any (Tryz.prog.mapsRec ·)) = true := by kernel_rfl
theorem jf14 : (Rows.velocityPotentialsRow.ifaces == (Tryz.f4.params.toList ++ Rows.velocityPotentialsSpec.plain.varTypes Tryz.prog).any (Tryz.prog.ifacesRec ·)) = true := by kernel_rfl
theorem jf15 : (Rows.velocityPotentialsRow.mapsOut == Tryz.prog.mapsAmong Tryz.f4.resultTypes.toList) = true := by kernel_rfl
theorem jf16 : (Rows.velocityPotentialsRow.loops == (Tryz.f4.params.toList ++ Rows.velocityPotentialsSpec.plain.varTypes Tryz.prog).any (Tryz.prog.loopsFrom ·)) = true := by kernel_rfl
theorem jf17 : (Rows.velocityPotentialsRow.wideKeys == (Tryz.f4.params.toList ++ Rows.velocityPotentialsSpec.plain.varTypes Tryz.prog ++ Tryz.f4.resultTypes.toList).any (Tryz.prog.wideKeysFrom ·)) = true := by kernel_rfl
theorem jf18 : Rows.velocityPotentialsSpec.vars.all (Tryz.prog.varReadable ·) = true := by kernel_rfl
theorem jf19 : Tryz.f4.resultTypes.all (fun t => Tryz.prog.readableRec t && decide (t < Tryz.prog.types.size)) = true := by kernel_rfl
theorem jf20 : (Rows.velocityPotentialsRow.ifacesOut == Tryz.f4.resultTypes.toList.any (Tryz.prog.ifacesRec ·)) = true := by kernel_rfl
theorem jf21 : (Rows.velocityPotentialsRow.loopsOut == Tryz.f4.resultTypes.toList.any (Tryz.prog.loopsFrom ·)) = true := by kernel_rfl
theorem jf22 : (Rows.velocityPotentialsRow.plainKeys == Tryz.prog.plainKeys) = true := jfp22
theorem jf23 : Rows.velocityPotentialsRow.shortTexts.isNone = true := by kernel_rfl
theorem jf24 : Tryz.prog.stopsHeard = true := jfp24
theorem jf25 : Tryz.prog.mayEnter = true := jfp25
theorem jf26 : (Rows.velocityPotentialsRow.lifted == Tryz.prog.liftsFinal) = true := jfp26
theorem jf27 : (Tryz.prog.make == some Rows.velocityPotentialsRow.make) = true := jfp27
theorem jf28 : (Rows.velocityPotentialsRow.kinds == (if Rows.velocityPotentialsRow.domain.isEmpty then [] else Tryz.f4.params.toList.map fun t => match Tryz.prog.underlying t with | some (.int k) => some k | _ => none)) = true := by kernel_rfl
theorem jf29 : (Rows.velocityPotentialsRow.pinned == Rows.velocityPotentialsRow.pinnedBy) = true := by kernel_rfl
theorem jf30 : (Rows.velocityPotentialsRow.veiled == (Tryz.f4.params.toList ++ Rows.velocityPotentialsSpec.plain.varTypes Tryz.prog ++ Tryz.f4.resultTypes.toList).any (Tryz.prog.veiledRec ·)) = true := by kernel_rfl
theorem jf31 : OpenClaim.veiledFits Rows.velocityPotentialsRow Tryz.prog Tryz.f4.params.toList (Tryz.f4.params.toList ++ Rows.velocityPotentialsSpec.plain.varTypes Tryz.prog ++ Tryz.f4.resultTypes.toList) = true := by kernel_rfl
set_option maxRecDepth 100000 in
theorem facts : joinedFacts Tryz.prog 4 Tryz.f4 Rows.velocityPotentialsSpec Rows.velocityPotentialsRow = true := by
  unfold joinedFacts
  exact (and2 (and2 (and2 (and2 (and2 (and2 (and2 (and2 (and2 (and2 (and2 (and2 (and2 (and2 (and2 (and2 (and2 (and2 (and2 (and2 (and2 (and2 (and2 (and2 (and2 (and2 (and2 (and2 (and2 (and2 (and2 jf0 jf1) jf2) jf3) jf4) jf5) jf6) jf7) jf8) jf9) jf10) jf11) jf12) jf13) jf14) jf15) jf16) jf17) jf18) jf19) jf20) jf21) jf22) jf23) jf24) jf25) jf26) jf27) jf28) jf29) jf30) jf31)
end velocityPotentials
end Go.Proofs.YtkongcnmkiihjaaGreatDoor
