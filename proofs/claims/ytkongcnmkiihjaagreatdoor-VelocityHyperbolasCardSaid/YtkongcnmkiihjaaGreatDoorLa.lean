/-
The law VelocityHyperbolas returns true for every time, squared offset and squared velocity that are handed in, and its arguments read afterwards as before. Conditions: those of the given row (the five laid variables hold what their text lays), tied by the given card.
-/
import Derived.Test.YtkongcnmkiihjaaGreatDoorYc
import Derived.Test.YtkongcnmkiihjaaGreatDoorFa
import Derived.Test.YtkongcnmkiihjaaGreatDoorQa
namespace Go.Proofs.YtkongcnmkiihjaaGreatDoor
open Go Go.Ab Go.Proofs Go.ChangeShapes Go.WideShapes Go.ChangeAt Go.RowKit
set_option maxRecDepth 100000 in
/-- a handed whole number from 0 on -/
theorem open_nat {H : Type} {enc : TypeId × Value → H} {W : World} {base : Nat} {t : TypeId} {k : IntKind} {v : Value} {d : DataW H} {p : List MemPlace} (ht : Tryz.prog.underlying t = some (.int k)) (hk : k.min = 0) (hv : Value.okWide Tryz.prog W .any base t v)
    (h : DataW.Trod enc Tryz.prog W 0 (fun _ => true) true t v d p) : ∃ n : Nat, v = .int k (n : Int) ∧ (n : Int) ≤ k.max := by
  obtain ⟨n, rfl⟩ := okWide_int (P := Tryz.prog) ht hv
  obtain ⟨fuel, hf⟩ := h
  obtain ⟨m, hc, _, hw⟩ := DataW.trod_int ht hf
  simp only [Value.cells, List.cons.injEq, Value.int.injEq, true_and, and_true] at hc
  subst hc
  simp only [Lit.wf, Bool.and_eq_true, decide_eq_true_eq, hk] at hw
  exact ⟨n.toNat, by rw [Int.toNat_of_nonneg hw.1], by rw [Int.toNat_of_nonneg hw.1]; exact hw.2⟩
theorem params5 : Tryz.f5.params = #[55, 56, 55] := by kernel_rfl
theorem tysize : Tryz.prog.types.size = 353 := by kernel_rfl
namespace velocityHyperbolas
set_option maxRecDepth 100000 in
theorem contract (H : Type) (enc : TypeId × Value → H) (W : World) (base : Nat) (args : Array Value) (ds gs : List (DataW H)) (before : List MemPlace)
    (hval : ∀ (j : Nat) t v, Tryz.f5.params[j]? = some t → args[j]? = some v → Value.okWide Tryz.prog W .any base t v)
    (hW : DataW.Whole enc Tryz.prog Tryz.f5.params.toList Rows.velocityHyperbolasSpec.vars false W args.toList ds gs before) (hL : laidMetH Tryz.prog Rows.velocityHyperbolasRow.laid W) :
    Calls Tryz.prog 5 args W fun e W' => ∃ v, e = .returned v ∧ Rows.velocityHyperbolasSpec.post enc Tryz.prog Tryz.f5 false true false false W args v W' := by
  have hW' := hW
  obtain ⟨p, q, hA0, hV, rfl, hfz, hnd⟩ := hW
  have hA : DataW.TrodAll enc Tryz.prog W 0 (fun _ => true) true Tryz.f5.params.toList args.toList ds p := hA0
  rw [params5] at hA hval
  obtain ⟨v0, vs0, d0, ds0, p0, q0, hargs, rfl, rfl, h0, r0⟩ := trodAll_cons hA
  obtain ⟨v1, vs1, d1, ds1, p1, q1, rfl, rfl, rfl, h1, r1⟩ := trodAll_cons r0
  obtain ⟨v2, vs2, d2, ds2, p2, q2, rfl, rfl, rfl, h2, r2⟩ := trodAll_cons r1
  obtain ⟨rfl, rfl, rfl⟩ := trodAll_nil r2
  obtain rfl : args = #[v0, v1, v2] := by cases args; simp_all
  obtain ⟨t, rfl, ht⟩ := open_nat Tryz.underlying55 (by decide) (hval 0 55 v0 rfl rfl) h0
  obtain ⟨x, rfl, hx⟩ := open_nat Tryz.underlying56 (by decide) (hval 1 56 v1 rfl rfl) h1
  obtain ⟨v, rfl, hv⟩ := open_nat Tryz.underlying55 (by decide) (hval 2 55 v2 rfl rfl) h2
  have e16 : IntKind.max .u16 = 65535 := by decide
  have e32 : IntKind.max .u32 = 4294967295 := by decide
  rw [e16] at ht hv
  rw [e32] at hx
  have hc := lawCalls (f := 5) (by kernel_rfl) (lies0 hL) (lies1 hL) [] (by simp) (args0 := [.int .u16 t, .int .u32 x, .int .u16 v]) (args := #[.int .u16 t, .int .u32 x, .int .u16 v]) (by simp) (by simp [denL, den]) (w5 t x v (by omega) (by omega) (by omega))
  refine hc.mono fun e W' ⟨he, hb⟩ => ⟨_, he, ?_⟩
  refine lawPost ?_ rfl rfl rfl hW' hb
  intro t ht
  rw [params5] at ht
  simp at ht
  rw [tysize]
  rcases ht with rfl | rfl | rfl
  · exact ⟨by kernel_rfl, by decide⟩
  · exact ⟨by kernel_rfl, by decide⟩
  · exact ⟨by kernel_rfl, by decide⟩
theorem reads (os : Os) {H : Type} (enc : TypeId × Value → H) : ∃ places, DataW.whole enc Tryz.prog ((laidWorld os).forCall (fun _ _ => 0) ⟨#[], #[.int .u16 0, .int .u32 0, .int .u16 0], []⟩).memory Tryz.f5.params.toList Rows.velocityHyperbolasSpec.vars false #[.int .u16 0, .int .u32 0, .int .u16 0].toList 8 = some ([.lit (.int .u16 0), .lit (.int .u32 0), .lit (.int .u16 0)], [], places) :=
  ⟨[], by kernel_rfl⟩
set_option maxRecDepth 100000 in
theorem lifted (os : Os) (started : os.Started) (H : Type) (enc : TypeId × Value → H) (F : Stop.Interp) :
    ReturnsInHanded {} Tryz.checked os 5 .any ((OpenSpec.ofChange Rows.velocityHyperbolasSpec).preRow enc Tryz.prog Tryz.f5 Rows.velocityHyperbolasRow.domain false Rows.velocityHyperbolasRow.laid) (((OpenSpec.ofChange Rows.velocityHyperbolasSpec).at F).post enc Tryz.prog Tryz.f5 false true false false) := by
  obtain ⟨places, hx⟩ := reads os enc
  refine returnsInHanded_of_row (C := Tryz.checked) (s := OpenSpec.ofChange Rows.velocityHyperbolasSpec) own started (by kernel_rfl) Tryz.func5
    (witness_row_at (enc := enc) (C := Tryz.checked) false (laidWorld os) #[.int .u16 0, .int .u32 0, .int .u16 0] rfl (by kernel_rfl) (by kernel_rfl) (by kernel_rfl)
      (OpenSpec.preRow_of_cond 8 hx (by kernel_rfl) (fun k hk => by cases hk) (by kernel_rfl) (laid_met3 os _ _ _))) ?_
  intro W base args ds gs before hval hW _ _ _ hL _ _
  exact contract H enc W base args ds gs before hval hW hL
end velocityHyperbolas
end Go.Proofs.YtkongcnmkiihjaaGreatDoor

namespace Go.Proofs.YtkongcnmkiihjaaGreatDoor
open Go Go.Ab Go.Proofs Go.ChangeShapes Go.WideShapes Go.ChangeAt Go.RowKit
namespace velocityHyperbolas
theorem fnum : Tryz.prog.funcNamed "moveout/moveoutlaw06.VelocityHyperbolas" = some 5 := by kernel_rfl
theorem inst : Tryz.f5.isInstance Tryz.prog Rows.velocityHyperbolasRow.origin Rows.velocityHyperbolasRow.targs := of_decide_eq_true (by kernel_rfl)
theorem wrapper : Tryz.f5.isWrapper Tryz.prog Rows.velocityHyperbolasRow.wrapper Rows.velocityHyperbolasRow.mainSum := by unfold Func.isWrapper; first | (rw [if_pos (by decide +kernel)]; kernel_rfl) | (rw [if_neg (by decide +kernel)]; exact ⟨rfl, rfl⟩)
set_option maxRecDepth 100000 in
theorem said : Rows.VelocityHyperbolasSaid :=
  OpenClaim.holds_of_cond 5 Tryz.f5 rfl rfl rfl rfl rfl rfl rfl ⟨rfl, rfl, rfl, rfl, rfl⟩ rfl rfl rfl rfl rfl fnum Tryz.func5 facts inst wrapper
    (fun os started H enc _ F => by rw [OpenClaim.pre_eq_preRow]; exact lifted os started H enc F)
theorem looks : false = Tryz.prog.looks [] := by kernel_rfl
theorem standIn : ∀ t, t = 55 ∨ t = 56 ∨ t = 55 → Tryz.prog.wantsStandIn t = false := by
  rintro t (rfl | rfl | rfl) <;> kernel_rfl
theorem plain (f : FuncId) (fn : Func) (hf : Tryz.pinned.checked.prog.funcNamed "moveout/moveoutlaw06.VelocityHyperbolas" = some f) (hfn : Tryz.pinned.checked.prog.funcs[f]? = some fn) :
    false = Tryz.pinned.checked.prog.looks [] ∧ ∀ (j : Nat) t, fn.params[j]? = some t → Tryz.pinned.checked.prog.wantsStandIn t = false := by
  obtain rfl : f = 5 := Option.some.inj (fnum.symm.trans hf) |>.symm
  obtain rfl : fn = Tryz.f5 := (Option.some.inj (Tryz.func5.symm.trans hfn)).symm
  refine ⟨looks, fun j t ht => ?_⟩
  rw [params5] at ht
  exact standIn t (by simpa using Array.mem_of_getElem? ht)
theorem wf : OpenClaim.wfByText (OpenSpec.ofChange Rows.velocityHyperbolasSpec) Rows.velocityHyperbolasRow = true := by kernel_rfl
theorem main : Tryz.prog.mainIs = some ("a1a323c512223edc39f4736b19c83dbf0e7abd5a77a6adfc6f65b5272966d8f1" |> fun s => (true, s.toList)) := by kernel_rfl
theorem goes : false = Rows.velocityHyperbolasRow.goesBy Tryz.prog := by kernel_rfl
set_option maxRecDepth 100000 in
theorem card : Rows.VelocityHyperbolasCardSaid :=
  Claim7.holds_tied_plain_at .later [] _ _ _ _ said (fun _ h => by cases h) wf (fun _ h => by cases h) velocityHyperbolas_row_tie rfl ⟨rfl, rfl⟩ main rfl plain goes
end velocityHyperbolas
end Go.Proofs.YtkongcnmkiihjaaGreatDoor
