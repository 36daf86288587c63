/-
Closed facts of the row of GunReaches.
-/
import Derived.Test.YtndlfijfjglkdaaGreatDoorPa
/-
The closed facts of the row of gunReaches, one by one.
-/
namespace Go.Proofs.YtndlfijfjglkdaaGreatDoor
open Go
namespace gunReaches
theorem jf0 : OpenClaim.wf (OpenSpec.ofChange Rows.gunReachesSpec) Rows.gunReachesRow = true := by kernel_rfl
theorem jf1 : laidOutB Tryz.prog = true := jfp1
theorem jf2 : mapsRowed Tryz.prog = true := jfp2
theorem jf3 : Tryz.f9.params.all (Tryz.prog.readableRec ·) = true := by kernel_rfl
theorem jf4 : namedTie Tryz.prog Rows.gunReachesRow.named Rows.gunReachesSpec.vars = true := by kernel_rfl
theorem jf5 : (Rows.gunReachesRow.stops == []) = true := by kernel_rfl
theorem jf6 : (Tryz.prog.stops == []) = true := jfp6
theorem jf7 : (Rows.gunReachesRow.knobs == []) = true := by kernel_rfl
theorem jf8 : (Tryz.prog.stopKnobs == []) = true := jfp8
theorem jf9 : (Rows.gunReachesRow.inPlace == Tryz.prog.inPlace 9) = true := by kernel_rfl
theorem jf10 : (Rows.gunReachesRow.unfollowed == Tryz.prog.unfollowed 9) = true := by kernel_rfl
theorem jf11 : (Rows.gunReachesRow.recurses == Tryz.prog.recurses 9) = true := by kernel_rfl
theorem jf12 : (Rows.gunReachesRow.named == Tryz.prog.varsNamed 9) = true := by kernel_rfl
theorem jf13 : (Rows.gunReachesRow.maps == (Tryz.f9.params.toList ++ Rows.gunReachesSpec.plain.varTypes Tryz.prog).any (Tryz.prog.mapsRec ·)) = true := by kernel_rfl
theorem jf14 : (Rows.gunReachesRow.ifaces == (Tryz.f9.params.toList ++ Rows.gunReachesSpec.plain.varTypes Tryz.prog).any (Tryz.prog.ifacesRec ·)) = true := by kernel_rfl
theorem jf15 : (Rows.gunReachesRow.mapsOut == Tryz.prog.mapsAmong Tryz.f9.resultTypes.toList) = true := by kernel_rfl
theorem jf16 : (Rows.gunReachesRow.loops == (Tryz.f9.params.toList ++ Rows.gunReachesSpec.plain.varTypes Tryz.prog).any (Tryz.prog.loopsFrom ·)) = true := by kernel_rfl
theorem jf17 : (Rows.gunReachesRow.wideKeys == (Tryz.f9.params.toList ++ Rows.gunReachesSpec.plain.varTypes Tryz.prog ++ Tryz.f9.resultTypes.toList).any (Tryz.prog.wideKeysFrom ·)) = true := by kernel_rfl
theorem jf18 : Rows.gunReachesSpec.vars.all (Tryz.prog.varReadable ·) = true := by kernel_rfl
theorem jf19 : Tryz.f9.resultTypes.all (fun t => Tryz.prog.readableRec t && decide (t < Tryz.prog.types.size)) = true := by kernel_rfl
theorem jf20 : (Rows.gunReachesRow.ifacesOut == Tryz.f9.resultTypes.toList.any (Tryz.prog.ifacesRec ·)) = true := by kernel_rfl
theorem jf21 : (Rows.gunReachesRow.loopsOut == Tryz.f9.resultTypes.toList.any (Tryz.prog.loopsFrom ·)) = true := by kernel_rfl
theorem jf22 : (Rows.gunReachesRow.plainKeys == Tryz.prog.plainKeys) = true := jfp22
theorem jf23 : Rows.gunReachesRow.shortTexts.isNone = true := by kernel_rfl
theorem jf24 : Tryz.prog.stopsHeard = true := jfp24
theorem jf25 : Tryz.prog.mayEnter = true := jfp25
theorem jf26 : (Rows.gunReachesRow.lifted == Tryz.prog.liftsFinal) = true := jfp26
theorem jf27 : (Tryz.prog.make == some Rows.gunReachesRow.make) = true := jfp27
theorem jf28 : (Rows.gunReachesRow.kinds == (if Rows.gunReachesRow.domain.isEmpty then [] else Tryz.f9.params.toList.map fun t => match Tryz.prog.underlying t with | some (.int k) => some k | _ => none)) = true := by kernel_rfl
theorem jf29 : (Rows.gunReachesRow.pinned == Rows.gunReachesRow.pinnedBy) = true := by kernel_rfl
theorem jf30 : (Rows.gunReachesRow.veiled == (Tryz.f9.params.toList ++ Rows.gunReachesSpec.plain.varTypes Tryz.prog ++ Tryz.f9.resultTypes.toList).any (Tryz.prog.veiledRec ·)) = true := by kernel_rfl
theorem jf31 : OpenClaim.veiledFits Rows.gunReachesRow Tryz.prog Tryz.f9.params.toList (Tryz.f9.params.toList ++ Rows.gunReachesSpec.plain.varTypes Tryz.prog ++ Tryz.f9.resultTypes.toList) = true := by kernel_rfl
set_option maxRecDepth 100000 in
theorem facts : joinedFacts Tryz.prog 9 Tryz.f9 Rows.gunReachesSpec Rows.gunReachesRow = true := by
  unfold joinedFacts
  exact (and2 (and2 (and2 (and2 (and2 (and2 (and2 (and2 (and2 (and2 (and2 (and2 (and2 (and2 (and2 (and2 (and2 (and2 (and2 (and2 (and2 (and2 (and2 (and2 (and2 (and2 (and2 (and2 (and2 (and2 (and2 jf0 jf1) jf2) jf3) jf4) jf5) jf6) jf7) jf8) jf9) jf10) jf11) jf12) jf13) jf14) jf15) jf16) jf17) jf18) jf19) jf20) jf21) jf22) jf23) jf24) jf25) jf26) jf27) jf28) jf29) jf30) jf31)
end gunReaches
end Go.Proofs.YtndlfijfjglkdaaGreatDoor
