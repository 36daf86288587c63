/-
One piece of the run of awake, reckoned by the kernel between two printed states (no condition).
-/
import Derived.Test.YtkongcnmkiihjaaGreatDoorPa
namespace Go.Proofs.YtkongcnmkiihjaaGreatDoor
open Go
namespace velocityPanels
theorem jf0:OpenClaim.wf (OpenSpec.ofChange Rows.velocityPanelsSpec) Rows.velocityPanelsRow=true:=by kernel_rfl
theorem jf1:laidOutB Tryz.prog=true:=jfp1
theorem jf2:mapsRowed Tryz.prog=true:=jfp2
theorem jf3:Tryz.f11.params.all (Tryz.prog.readableRec ·)=true:=by kernel_rfl
theorem jf4:namedTie Tryz.prog Rows.velocityPanelsRow.named Rows.velocityPanelsSpec.vars=true:=by kernel_rfl
theorem jf5:(Rows.velocityPanelsRow.stops == [])=true:=by kernel_rfl
theorem jf6:(Tryz.prog.stops == [])=true:=jfp6
theorem jf7:(Rows.velocityPanelsRow.knobs == [])=true:=by kernel_rfl
theorem jf8:(Tryz.prog.stopKnobs == [])=true:=jfp8
theorem jf9:(Rows.velocityPanelsRow.inPlace == Tryz.prog.inPlace 11)=true:=by kernel_rfl
theorem jf10:(Rows.velocityPanelsRow.unfollowed == Tryz.prog.unfollowed 11)=true:=by kernel_rfl
theorem jf11:(Rows.velocityPanelsRow.recurses == Tryz.prog.recurses 11)=true:=by kernel_rfl
theorem jf12:(Rows.velocityPanelsRow.named == Tryz.prog.varsNamed 11)=true:=by kernel_rfl
theorem jf13:(Rows.velocityPanelsRow.maps == (Tryz.f11.params.toList ++ Rows.velocityPanelsSpec.plain.varTypes Tryz.prog).any (Tryz.prog.mapsRec ·))=true:=by kernel_rfl
theorem jf14:(Rows.velocityPanelsRow.ifaces == (Tryz.f11.params.toList ++ Rows.velocityPanelsSpec.plain.varTypes Tryz.prog).any (Tryz.prog.ifacesRec ·))=true:=by kernel_rfl
theorem jf15:(Rows.velocityPanelsRow.mapsOut == Tryz.prog.mapsAmong Tryz.f11.resultTypes.toList)=true:=by kernel_rfl
theorem jf16:(Rows.velocityPanelsRow.loops == (Tryz.f11.params.toList ++ Rows.velocityPanelsSpec.plain.varTypes Tryz.prog).any (Tryz.prog.loopsFrom ·))=true:=by kernel_rfl
theorem jf17:(Rows.velocityPanelsRow.wideKeys == (Tryz.f11.params.toList ++ Rows.velocityPanelsSpec.plain.varTypes Tryz.prog ++ Tryz.f11.resultTypes.toList).any (Tryz.prog.wideKeysFrom ·))=true:=by kernel_rfl
theorem jf18:Rows.velocityPanelsSpec.vars.all (Tryz.prog.varReadable ·)=true:=by kernel_rfl
theorem jf19:Tryz.f11.resultTypes.all (fun t=>Tryz.prog.readableRec t && decide (t < Tryz.prog.types.size))=true:=by kernel_rfl
theorem jf20:(Rows.velocityPanelsRow.ifacesOut == Tryz.f11.resultTypes.toList.any (Tryz.prog.ifacesRec ·))=true:=by kernel_rfl
theorem jf21:(Rows.velocityPanelsRow.loopsOut == Tryz.f11.resultTypes.toList.any (Tryz.prog.loopsFrom ·))=true:=by kernel_rfl
theorem jf22:(Rows.velocityPanelsRow.plainKeys == Tryz.prog.plainKeys)=true:=jfp22
theorem jf23:Rows.velocityPanelsRow.shortTexts.isNone=true:=by kernel_rfl
theorem jf24:Tryz.prog.stopsHeard=true:=jfp24
theorem jf25:Tryz.prog.mayEnter=true:=jfp25
theorem jf26:(Rows.velocityPanelsRow.lifted == Tryz.prog.liftsFinal)=true:=jfp26
theorem jf27:(Tryz.prog.make == some Rows.velocityPanelsRow.make)=true:=jfp27
theorem jf28:(Rows.velocityPanelsRow.kinds == (if Rows.velocityPanelsRow.domain.isEmpty then [] else Tryz.f11.params.toList.map fun t=>match Tryz.prog.underlying t with | some (.int k)=>some k | _=>none))=true:=by kernel_rfl
theorem jf29:(Rows.velocityPanelsRow.pinned == Rows.velocityPanelsRow.pinnedBy)=true:=by kernel_rfl
theorem jf30:(Rows.velocityPanelsRow.veiled == (Tryz.f11.params.toList ++ Rows.velocityPanelsSpec.plain.varTypes Tryz.prog ++ Tryz.f11.resultTypes.toList).any (Tryz.prog.veiledRec ·))=true:=by kernel_rfl
theorem jf31:OpenClaim.veiledFits Rows.velocityPanelsRow Tryz.prog Tryz.f11.params.toList (Tryz.f11.params.toList ++ Rows.velocityPanelsSpec.plain.varTypes Tryz.prog ++ Tryz.f11.resultTypes.toList)=true:=by kernel_rfl
set_option maxRecDepth 100000 in
theorem facts:joinedFacts Tryz.prog 11 Tryz.f11 Rows.velocityPanelsSpec Rows.velocityPanelsRow=true:=by
 unfold joinedFacts
 exact (and2 (and2 (and2 (and2 (and2 (and2 (and2 (and2 (and2 (and2 (and2 (and2 (and2 (and2 (and2 (and2 (and2 (and2 (and2 (and2 (and2 (and2 (and2 (and2 (and2 (and2 (and2 (and2 (and2 (and2 (and2 jf0 jf1) jf2) jf3) jf4) jf5) jf6) jf7) jf8) jf9) jf10) jf11) jf12) jf13) jf14) jf15) jf16) jf17) jf18) jf19) jf20) jf21) jf22) jf23) jf24) jf25) jf26) jf27) jf28) jf29) jf30) jf31)
end velocityPanels
end Go.Proofs.YtkongcnmkiihjaaGreatDoor
