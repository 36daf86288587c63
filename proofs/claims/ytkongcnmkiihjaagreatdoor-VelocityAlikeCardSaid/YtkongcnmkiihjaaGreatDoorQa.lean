/-
One piece of the run of awake, reckoned by the kernel between two printed states (no condition).
-/
import Derived.Test.YtkongcnmkiihjaaGreatDoorPa
namespace Go.Proofs.YtkongcnmkiihjaaGreatDoor
open Go
namespace velocityAlike
theorem jf0:OpenClaim.wf (OpenSpec.ofChange Rows.velocityAlikeSpec) Rows.velocityAlikeRow=true:=by kernel_rfl
theorem jf1:laidOutB Tryz.prog=true:=jfp1
theorem jf2:mapsRowed Tryz.prog=true:=jfp2
theorem jf3:Tryz.f12.params.all (Tryz.prog.readableRec ·)=true:=by kernel_rfl
theorem jf4:namedTie Tryz.prog Rows.velocityAlikeRow.named Rows.velocityAlikeSpec.vars=true:=by kernel_rfl
theorem jf5:(Rows.velocityAlikeRow.stops == [])=true:=by kernel_rfl
theorem jf6:(Tryz.prog.stops == [])=true:=jfp6
theorem jf7:(Rows.velocityAlikeRow.knobs == [])=true:=by kernel_rfl
theorem jf8:(Tryz.prog.stopKnobs == [])=true:=jfp8
theorem jf9:(Rows.velocityAlikeRow.inPlace == Tryz.prog.inPlace 12)=true:=by kernel_rfl
theorem jf10:(Rows.velocityAlikeRow.unfollowed == Tryz.prog.unfollowed 12)=true:=by kernel_rfl
theorem jf11:(Rows.velocityAlikeRow.recurses == Tryz.prog.recurses 12)=true:=by kernel_rfl
theorem jf12:(Rows.velocityAlikeRow.named == Tryz.prog.varsNamed 12)=true:=by kernel_rfl
theorem jf13:(Rows.velocityAlikeRow.maps == (Tryz.f12.params.toList ++ Rows.velocityAlikeSpec.plain.varTypes Tryz.prog).any (Tryz.prog.mapsRec ·))=true:=by kernel_rfl
theorem jf14:(Rows.velocityAlikeRow.ifaces == (Tryz.f12.params.toList ++ Rows.velocityAlikeSpec.plain.varTypes Tryz.prog).any (Tryz.prog.ifacesRec ·))=true:=by kernel_rfl
theorem jf15:(Rows.velocityAlikeRow.mapsOut == Tryz.prog.mapsAmong Tryz.f12.resultTypes.toList)=true:=by kernel_rfl
theorem jf16:(Rows.velocityAlikeRow.loops == (Tryz.f12.params.toList ++ Rows.velocityAlikeSpec.plain.varTypes Tryz.prog).any (Tryz.prog.loopsFrom ·))=true:=by kernel_rfl
theorem jf17:(Rows.velocityAlikeRow.wideKeys == (Tryz.f12.params.toList ++ Rows.velocityAlikeSpec.plain.varTypes Tryz.prog ++ Tryz.f12.resultTypes.toList).any (Tryz.prog.wideKeysFrom ·))=true:=by kernel_rfl
theorem jf18:Rows.velocityAlikeSpec.vars.all (Tryz.prog.varReadable ·)=true:=by kernel_rfl
theorem jf19:Tryz.f12.resultTypes.all (fun t=>Tryz.prog.readableRec t && decide (t < Tryz.prog.types.size))=true:=by kernel_rfl
theorem jf20:(Rows.velocityAlikeRow.ifacesOut == Tryz.f12.resultTypes.toList.any (Tryz.prog.ifacesRec ·))=true:=by kernel_rfl
theorem jf21:(Rows.velocityAlikeRow.loopsOut == Tryz.f12.resultTypes.toList.any (Tryz.prog.loopsFrom ·))=true:=by kernel_rfl
theorem jf22:(Rows.velocityAlikeRow.plainKeys == Tryz.prog.plainKeys)=true:=jfp22
theorem jf23:Rows.velocityAlikeRow.shortTexts.isNone=true:=by kernel_rfl
theorem jf24:Tryz.prog.stopsHeard=true:=jfp24
theorem jf25:Tryz.prog.mayEnter=true:=jfp25
theorem jf26:(Rows.velocityAlikeRow.lifted == Tryz.prog.liftsFinal)=true:=jfp26
theorem jf27:(Tryz.prog.make == some Rows.velocityAlikeRow.make)=true:=jfp27
theorem jf28:(Rows.velocityAlikeRow.kinds == (if Rows.velocityAlikeRow.domain.isEmpty then [] else Tryz.f12.params.toList.map fun t=>match Tryz.prog.underlying t with | some (.int k)=>some k | _=>none))=true:=by kernel_rfl
theorem jf29:(Rows.velocityAlikeRow.pinned == Rows.velocityAlikeRow.pinnedBy)=true:=by kernel_rfl
theorem jf30:(Rows.velocityAlikeRow.veiled == (Tryz.f12.params.toList ++ Rows.velocityAlikeSpec.plain.varTypes Tryz.prog ++ Tryz.f12.resultTypes.toList).any (Tryz.prog.veiledRec ·))=true:=by kernel_rfl
theorem jf31:OpenClaim.veiledFits Rows.velocityAlikeRow Tryz.prog Tryz.f12.params.toList (Tryz.f12.params.toList ++ Rows.velocityAlikeSpec.plain.varTypes Tryz.prog ++ Tryz.f12.resultTypes.toList)=true:=by kernel_rfl
set_option maxRecDepth 100000 in
theorem facts:joinedFacts Tryz.prog 12 Tryz.f12 Rows.velocityAlikeSpec Rows.velocityAlikeRow=true:=by
 unfold joinedFacts
 exact (and2 (and2 (and2 (and2 (and2 (and2 (and2 (and2 (and2 (and2 (and2 (and2 (and2 (and2 (and2 (and2 (and2 (and2 (and2 (and2 (and2 (and2 (and2 (and2 (and2 (and2 (and2 (and2 (and2 (and2 (and2 jf0 jf1) jf2) jf3) jf4) jf5) jf6) jf7) jf8) jf9) jf10) jf11) jf12) jf13) jf14) jf15) jf16) jf17) jf18) jf19) jf20) jf21) jf22) jf23) jf24) jf25) jf26) jf27) jf28) jf29) jf30) jf31)
end velocityAlike
end Go.Proofs.YtkongcnmkiihjaaGreatDoor
