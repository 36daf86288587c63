/-
The texts of a string of guns: printed and read as the reference does, and read as they were printed.
-/
import Derived.Test.YtndlfijfjglkdaaGreatDoorPa
import Derived.Test.YtndlfijfjglkdaaGreatDoorRe
namespace Go.Proofs.YtndlfijfjglkdaaGreatDoor
open Go
namespace gunBack
theorem jf0 : OpenClaim.wf (OpenSpec.ofChange Rows.gunBackSpec) Rows.gunBackRow = true := by kernel_rfl
theorem jf1 : laidOutB Tryz.prog = true := jfp1
theorem jf2 : mapsRowed Tryz.prog = true := jfp2
theorem jf3 : Tryz.f17.params.all (Tryz.prog.readableRec ·) = true := by kernel_rfl
theorem jf4 : namedTie Tryz.prog Rows.gunBackRow.named Rows.gunBackSpec.vars = true := by kernel_rfl
theorem jf5 : (Rows.gunBackRow.stops == []) = true := by kernel_rfl
theorem jf6 : (Tryz.prog.stops == []) = true := jfp6
theorem jf7 : (Rows.gunBackRow.knobs == []) = true := by kernel_rfl
theorem jf8 : (Tryz.prog.stopKnobs == []) = true := jfp8
theorem jf9 : (Rows.gunBackRow.inPlace == Tryz.prog.inPlace 17) = true := by kernel_rfl
theorem jf10 : (Rows.gunBackRow.unfollowed == Tryz.prog.unfollowed 17) = true := by kernel_rfl
theorem jf11 : (Rows.gunBackRow.recurses == Tryz.prog.recurses 17) = true := by kernel_rfl
theorem jf12 : (Rows.gunBackRow.named == Tryz.prog.varsNamed 17) = true := by kernel_rfl
theorem jf13 : (Rows.gunBackRow.maps == (Tryz.f17.params.toList ++ Rows.gunBackSpec.plain.varTypes Tryz.prog).any (Tryz.prog.mapsRec ·)) = true := by kernel_rfl
theorem jf14 : (Rows.gunBackRow.ifaces == (Tryz.f17.params.toList ++ Rows.gunBackSpec.plain.varTypes Tryz.prog).any (Tryz.prog.ifacesRec ·)) = true := by kernel_rfl
theorem jf15 : (Rows.gunBackRow.mapsOut == Tryz.prog.mapsAmong Tryz.f17.resultTypes.toList) = true := by kernel_rfl
theorem jf16 : (Rows.gunBackRow.loops == (Tryz.f17.params.toList ++ Rows.gunBackSpec.plain.varTypes Tryz.prog).any (Tryz.prog.loopsFrom ·)) = true := by kernel_rfl
theorem jf17 : (Rows.gunBackRow.wideKeys == (Tryz.f17.params.toList ++ Rows.gunBackSpec.plain.varTypes Tryz.prog ++ Tryz.f17.resultTypes.toList).any (Tryz.prog.wideKeysFrom ·)) = true := by kernel_rfl
theorem jf18 : Rows.gunBackSpec.vars.all (Tryz.prog.varReadable ·) = true := by kernel_rfl
theorem jf19 : Tryz.f17.resultTypes.all (fun t => Tryz.prog.readableRec t && decide (t < Tryz.prog.types.size)) = true := by kernel_rfl
theorem jf20 : (Rows.gunBackRow.ifacesOut == Tryz.f17.resultTypes.toList.any (Tryz.prog.ifacesRec ·)) = true := by kernel_rfl
theorem jf21 : (Rows.gunBackRow.loopsOut == Tryz.f17.resultTypes.toList.any (Tryz.prog.loopsFrom ·)) = true := by kernel_rfl
theorem jf22 : (Rows.gunBackRow.plainKeys == Tryz.prog.plainKeys) = true := jfp22
theorem jf23 : Rows.gunBackRow.shortTexts.isNone = true := by kernel_rfl
theorem jf24 : Tryz.prog.stopsHeard = true := jfp24
theorem jf25 : Tryz.prog.mayEnter = true := jfp25
theorem jf26 : (Rows.gunBackRow.lifted == Tryz.prog.liftsFinal) = true := jfp26
theorem jf27 : (Tryz.prog.make == some Rows.gunBackRow.make) = true := jfp27
theorem jf28 : (Rows.gunBackRow.kinds == (if Rows.gunBackRow.domain.isEmpty then [] else Tryz.f17.params.toList.map fun t => match Tryz.prog.underlying t with | some (.int k) => some k | _ => none)) = true := by kernel_rfl
theorem jf29 : (Rows.gunBackRow.pinned == Rows.gunBackRow.pinnedBy) = true := by kernel_rfl
theorem jf30 : (Rows.gunBackRow.veiled == (Tryz.f17.params.toList ++ Rows.gunBackSpec.plain.varTypes Tryz.prog ++ Tryz.f17.resultTypes.toList).any (Tryz.prog.veiledRec ·)) = true := by kernel_rfl
theorem jf31 : OpenClaim.veiledFits Rows.gunBackRow Tryz.prog Tryz.f17.params.toList (Tryz.f17.params.toList ++ Rows.gunBackSpec.plain.varTypes Tryz.prog ++ Tryz.f17.resultTypes.toList) = true := by kernel_rfl
set_option maxRecDepth 100000 in
theorem facts : joinedFacts Tryz.prog 17 Tryz.f17 Rows.gunBackSpec Rows.gunBackRow = true := by
 unfold joinedFacts
 exact (and2 (and2 (and2 (and2 (and2 (and2 (and2 (and2 (and2 (and2 (and2 (and2 (and2 (and2 (and2 (and2 (and2 (and2 (and2 (and2 (and2 (and2 (and2 (and2 (and2 (and2 (and2 (and2 (and2 (and2 (and2 jf0 jf1) jf2) jf3) jf4) jf5) jf6) jf7) jf8) jf9) jf10) jf11) jf12) jf13) jf14) jf15) jf16) jf17) jf18) jf19) jf20) jf21) jf22) jf23) jf24) jf25) jf26) jf27) jf28) jf29) jf30) jf31)
end gunBack
end Go.Proofs.YtndlfijfjglkdaaGreatDoor

namespace Go.Proofs.YtndlfijfjglkdaaGreatDoor
open Go Go.Ab Go.Proofs Go.ChangeShapes Go.WideShapes Go.ChangeAt Go.RowKit
namespace gunBack
theorem fnum : Tryz.prog.funcNamed "moveout/moveoutlaw03.GunBack" = some 17 := by kernel_rfl
theorem inst : Tryz.f17.isInstance Tryz.prog Rows.gunBackRow.origin Rows.gunBackRow.targs := of_decide_eq_true (by kernel_rfl)
theorem wrapper : Tryz.f17.isWrapper Tryz.prog Rows.gunBackRow.wrapper Rows.gunBackRow.mainSum := by unfold Func.isWrapper; first | (rw [if_pos (by decide +kernel)]; kernel_rfl) | (rw [if_neg (by decide +kernel)]; exact ⟨rfl, rfl⟩)
set_option maxRecDepth 100000 in
theorem said : Rows.GunBackSaid :=
 OpenClaim.holds_of_cond 17 Tryz.f17 rfl rfl rfl rfl rfl rfl rfl ⟨rfl, rfl, rfl, rfl, rfl⟩ rfl rfl rfl rfl rfl fnum Tryz.func17 facts inst wrapper
   (fun os started H enc _ F => by rw [OpenClaim.pre_eq_preRow]; exact lifted os started H enc F)
theorem looks : true = Tryz.prog.looks [] := by kernel_rfl
theorem standIn : ∀ t, t = 24 ∨ t = 9 → Tryz.prog.wantsStandIn t = false := by
 rintro t (rfl | rfl) <;> kernel_rfl
theorem plain (f : FuncId) (fn : Func) (hf : Tryz.pinned.checked.prog.funcNamed "moveout/moveoutlaw03.GunBack" = some f) (hfn : Tryz.pinned.checked.prog.funcs[f]? = some fn) :
   true = Tryz.pinned.checked.prog.looks [] ∧ ∀ (j : Nat) t, fn.params[j]? = some t → Tryz.pinned.checked.prog.wantsStandIn t = false := by
 obtain rfl : f = 17 := Option.some.inj (fnum.symm.trans hf) |>.symm
 obtain rfl : fn = Tryz.f17 := (Option.some.inj (Tryz.func17.symm.trans hfn)).symm
 refine ⟨looks, fun j t ht => ?_⟩
 rw [params17] at ht
 exact standIn t (by simpa using Array.mem_of_getElem? ht)
theorem wf : OpenClaim.wfByText (OpenSpec.ofChange Rows.gunBackSpec) Rows.gunBackRow = true := by kernel_rfl
theorem main : Tryz.prog.mainIs = some ("e00eecd8ca05e183972abfbf043f5ed2bc813bd519e3ebd189d9b51d2f935a9d" |> fun s => (true, s.toList)) := by kernel_rfl
theorem goes : false = Rows.gunBackRow.goesBy Tryz.prog := by kernel_rfl
set_option maxRecDepth 100000 in
theorem card : Rows.GunBackCardSaid :=
 Claim7.holds_tied_plain_at .later [] _ _ _ _ said (fun _ h => by cases h) wf (fun _ h => by cases h) gunBack_row_tie rfl ⟨rfl, rfl⟩ main rfl plain goes
end gunBack
end Go.Proofs.YtndlfijfjglkdaaGreatDoor

namespace Go.Proofs.YtndlfijfjglkdaaGreatDoor
theorem textsBack : Rows.GunTextsCardSaid ∧ Rows.GunBackCardSaid := ⟨gunTexts.card, gunBack.card⟩
end Go.Proofs.YtndlfijfjglkdaaGreatDoor
