/-
Closed facts of the row of VelocityBack.
-/
import Derived.Test.YtkongcnmkiihjaaGreatDoorPa
namespace Go.Proofs.YtkongcnmkiihjaaGreatDoor
open Go
namespace velocityBack
theorem jf0 : OpenClaim.wf (OpenSpec.ofChange Rows.velocityBackSpec) Rows.velocityBackRow = true := by kernel_rfl
theorem jf1 : laidOutB Tryz.prog = true := jfp1
theorem jf2 : mapsRowed Tryz.prog = true := jfp2
theorem jf3 : Tryz.f14.params.all (Tryz.prog.readableRec ·) = true := by kernel_rfl
theorem jf4 : namedTie Tryz.prog Rows.velocityBackRow.named Rows.velocityBackSpec.vars = true := by kernel_rfl
theorem jf5 : (Rows.velocityBackRow.stops == []) = true := by kernel_rfl
theorem jf6 : (Tryz.prog.stops == []) = true := jfp6
theorem jf7 : (Rows.velocityBackRow.knobs == []) = true := by kernel_rfl
theorem jf8 : (Tryz.prog.stopKnobs == []) = true := jfp8
theorem jf9 : (Rows.velocityBackRow.inPlace == Tryz.prog.inPlace 14) = true := by kernel_rfl
theorem jf10 : (Rows.velocityBackRow.unfollowed == Tryz.prog.unfollowed 14) = true := by kernel_rfl
theorem jf11 : (Rows.velocityBackRow.recurses == Tryz.prog.recurses 14) = true := by kernel_rfl
theorem jf12 : (Rows.velocityBackRow.named == Tryz.prog.varsNamed 14) = true := by kernel_rfl
theorem jf13 : (Rows.velocityBackRow.maps == (Tryz.f14.params.toList ++ Rows.velocityBackSpec.plain.varTypes Tryz.prog).any (Tryz.prog.mapsRec ·)) = true := by kernel_rfl
theorem jf14 : (Rows.velocityBackRow.ifaces == (Tryz.f14.params.toList ++ Rows.velocityBackSpec.plain.varTypes Tryz.prog).any (Tryz.prog.ifacesRec ·)) = true := by kernel_rfl
theorem jf15 : (Rows.velocityBackRow.mapsOut == Tryz.prog.mapsAmong Tryz.f14.resultTypes.toList) = true := by kernel_rfl
theorem jf16 : (Rows.velocityBackRow.loops == (Tryz.f14.params.toList ++ Rows.velocityBackSpec.plain.varTypes Tryz.prog).any (Tryz.prog.loopsFrom ·)) = true := by kernel_rfl
theorem jf17 : (Rows.velocityBackRow.wideKeys == (Tryz.f14.params.toList ++ Rows.velocityBackSpec.plain.varTypes Tryz.prog ++ Tryz.f14.resultTypes.toList).any (Tryz.prog.wideKeysFrom ·)) = true := by kernel_rfl
theorem jf18 : Rows.velocityBackSpec.vars.all (Tryz.prog.varReadable ·) = true := by kernel_rfl
theorem jf19 : Tryz.f14.resultTypes.all (fun t => Tryz.prog.readableRec t && decide (t < Tryz.prog.types.size)) = true := by kernel_rfl
theorem jf20 : (Rows.velocityBackRow.ifacesOut == Tryz.f14.resultTypes.toList.any (Tryz.prog.ifacesRec ·)) = true := by kernel_rfl
theorem jf21 : (Rows.velocityBackRow.loopsOut == Tryz.f14.resultTypes.toList.any (Tryz.prog.loopsFrom ·)) = true := by kernel_rfl
theorem jf22 : (Rows.velocityBackRow.plainKeys == Tryz.prog.plainKeys) = true := jfp22
theorem jf23 : Rows.velocityBackRow.shortTexts.isNone = true := by kernel_rfl
theorem jf24 : Tryz.prog.stopsHeard = true := jfp24
theorem jf25 : Tryz.prog.mayEnter = true := jfp25
theorem jf26 : (Rows.velocityBackRow.lifted == Tryz.prog.liftsFinal) = true := jfp26
theorem jf27 : (Tryz.prog.make == some Rows.velocityBackRow.make) = true := jfp27
theorem jf28 : (Rows.velocityBackRow.kinds == (if Rows.velocityBackRow.domain.isEmpty then [] else Tryz.f14.params.toList.map fun t => match Tryz.prog.underlying t with | some (.int k) => some k | _ => none)) = true := by kernel_rfl
theorem jf29 : (Rows.velocityBackRow.pinned == Rows.velocityBackRow.pinnedBy) = true := by kernel_rfl
theorem jf30 : (Rows.velocityBackRow.veiled == (Tryz.f14.params.toList ++ Rows.velocityBackSpec.plain.varTypes Tryz.prog ++ Tryz.f14.resultTypes.toList).any (Tryz.prog.veiledRec ·)) = true := by kernel_rfl
theorem jf31 : OpenClaim.veiledFits Rows.velocityBackRow Tryz.prog Tryz.f14.params.toList (Tryz.f14.params.toList ++ Rows.velocityBackSpec.plain.varTypes Tryz.prog ++ Tryz.f14.resultTypes.toList) = true := by kernel_rfl
set_option maxRecDepth 100000 in
theorem facts : joinedFacts Tryz.prog 14 Tryz.f14 Rows.velocityBackSpec Rows.velocityBackRow = true := by
  unfold joinedFacts
  exact (and2 (and2 (and2 (and2 (and2 (and2 (and2 (and2 (and2 (and2 (and2 (and2 (and2 (and2 (and2 (and2 (and2 (and2 (and2 (and2 (and2 (and2 (and2 (and2 (and2 (and2 (and2 (and2 (and2 (and2 (and2 jf0 jf1) jf2) jf3) jf4) jf5) jf6) jf7) jf8) jf9) jf10) jf11) jf12) jf13) jf14) jf15) jf16) jf17) jf18) jf19) jf20) jf21) jf22) jf23) jf24) jf25) jf26) jf27) jf28) jf29) jf30) jf31)
end velocityBack
end Go.Proofs.YtkongcnmkiihjaaGreatDoor
