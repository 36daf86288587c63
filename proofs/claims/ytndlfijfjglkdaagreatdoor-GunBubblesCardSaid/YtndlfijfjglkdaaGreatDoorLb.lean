/-
The law GunBubbles returns true for every array of three that is handed in, and its argument reads afterwards as before. Conditions: those of the given row (the four laid variables hold what their text lays), tied by the given card.
-/
import Derived.Test.YtndlfijfjglkdaaGreatDoorGb
import Derived.Test.YtndlfijfjglkdaaGreatDoorFa
import Derived.Test.YtndlfijfjglkdaaGreatDoorQb
namespace Go.Proofs.YtndlfijfjglkdaaGreatDoor
open Go Go.Ab Go.Proofs Go.ChangeShapes Go.WideShapes Go.ChangeAt Go.RowKit
theorem cell3 : Tryz.prog.cellsOf 3 = 1 := by kernel_rfl
theorem cells50 : Tryz.prog.cellsOf 50 = 3 := by kernel_rfl
theorem okWide_array {P : Program} {W : World} {r : Reach} {base : Nat} {t : TypeId} {v : Value} {n : Nat} {e : TypeId} (ht : P.underlying t = some (.array n e)) (h : Value.okWide P W r base t v) : ∃ cs, v = .agg cs ∧ cs.size = P.cellsOf t := by
  simp only [Value.okWide, ht] at h
  obtain ⟨cs, h1, h2, _⟩ := h
  exact ⟨cs, h1, h2⟩
set_option maxRecDepth 100000 in
theorem open_three {H : Type} {enc : TypeId × Value → H} {W : World} {base : Nat} {v : Value} {d : DataW H} {p : List MemPlace} (hv : Value.okWide Tryz.prog W .any base 50 v) (h : DataW.Trod enc Tryz.prog W 0 (fun _ => true) true 50 v d p) :
    ∃ a b c : Int, v = .agg ⟨arr3 a b c⟩ := by
  obtain ⟨cs, rfl, hsz⟩ := okWide_array Tryz.underlying50 hv
  rw [cells50] at hsz
  obtain ⟨fuel, hf⟩ := h
  obtain ⟨xs, m, rfl, hx, hl, hxl, hg⟩ := DataW.trod_array Tryz.underlying50 hf
  obtain ⟨l⟩ := cs
  have key : ∀ i, i < 3 → ∃ n : Int, l[i]? = some (iv n) := by
    intro i hi
    have h2 := hg i hi
    rw [cell3] at h2
    obtain ⟨x, hx⟩ : ∃ x, xs[i]? = some x := ⟨xs[i]'(by rw [hxl]; exact hi), by simp⟩
    rw [hx] at h2
    obtain ⟨n, hc, _, _⟩ := DataW.trod_int Tryz.underlying3 h2
    refine ⟨n, ?_⟩
    have := congrArg (·[0]?) hc
    simpa [List.getElem?_take, List.getElem?_drop, Value.cells] using this
  match l, hsz with
  | [a, b, c], _ =>
    obtain ⟨n0, h0⟩ := key 0 (by omega)
    obtain ⟨n1, h1⟩ := key 1 (by omega)
    obtain ⟨n2, h2⟩ := key 2 (by omega)
    simp at h0 h1 h2
    subst h0 h1 h2
    exact ⟨n0, n1, n2, rfl⟩
theorem params4 : Tryz.f4.params = #[50] := by kernel_rfl
namespace gunBubbles
set_option maxRecDepth 100000 in
theorem contract (H : Type) (enc : TypeId × Value → H) (W : World) (base : Nat) (args : Array Value) (ds gs : List (DataW H)) (before : List MemPlace)
    (hval : ∀ (j : Nat) t v, Tryz.f4.params[j]? = some t → args[j]? = some v → Value.okWide Tryz.prog W .any base t v)
    (hW : DataW.Whole enc Tryz.prog Tryz.f4.params.toList Rows.gunBubblesSpec.vars false W args.toList ds gs before) (hL : laidMetH Tryz.prog Rows.gunBubblesRow.laid W) :
    Calls Tryz.prog 4 args W fun e W' => ∃ v, e = .returned v ∧ Rows.gunBubblesSpec.post enc Tryz.prog Tryz.f4 false true false false W args v W' := by
  have hW' := hW
  obtain ⟨p, q, hA0, hV, rfl, hfz, hnd⟩ := hW
  have hA : DataW.TrodAll enc Tryz.prog W 0 (fun _ => true) true Tryz.f4.params.toList args.toList ds p := hA0
  rw [params4] at hA hval
  obtain ⟨v0, vs0, d0, ds0, p0, q0, hargs, rfl, rfl, h0, r0⟩ := trodAll_cons hA
  obtain ⟨rfl, rfl, rfl⟩ := trodAll_nil r0
  obtain rfl : args = #[v0] := by cases args; simp_all
  obtain ⟨a, b, c, rfl⟩ := open_three (hval 0 50 v0 rfl rfl) h0
  have hc := lawCalls (f := 4) (by kernel_rfl) (lies0 hL) (lies3 hL) [] (by simp) (args0 := [.agg ⟨arr3 a b c⟩]) (args := #[.agg ⟨arr3 a b c⟩]) (by simp) (by simp [denL, den]) (w4 a b c)
  refine hc.mono fun e W' ⟨he, hb⟩ => ⟨_, he, ?_⟩
  refine lawPost ?_ rfl rfl rfl hW' hb
  intro t ht
  rw [params4] at ht
  simp at ht
  subst ht
  exact ⟨by kernel_rfl, by rw [show Tryz.prog.types.size = 405 by kernel_rfl]; decide⟩
abbrev wit : Value := .agg #[iv 0, iv 0, iv 0]
theorem reads (os : Os) {H : Type} (enc : TypeId × Value → H) : ∃ places, DataW.whole enc Tryz.prog ((laidWorld os).forCall (fun _ _ => 0) ⟨#[], #[wit], []⟩).memory Tryz.f4.params.toList Rows.gunBubblesSpec.vars false #[wit].toList 8 = some ([.agg [.lit (.int .i64 0), .lit (.int .i64 0), .lit (.int .i64 0)]], [], places) :=
  ⟨[], by kernel_rfl⟩
set_option maxRecDepth 100000 in
theorem lifted (os : Os) (started : os.Started) (H : Type) (enc : TypeId × Value → H) (F : Stop.Interp) :
    ReturnsInHanded {} Tryz.checked os 4 .any ((OpenSpec.ofChange Rows.gunBubblesSpec).preRow enc Tryz.prog Tryz.f4 Rows.gunBubblesRow.domain false Rows.gunBubblesRow.laid) (((OpenSpec.ofChange Rows.gunBubblesSpec).at F).post enc Tryz.prog Tryz.f4 false true false false) := by
  obtain ⟨places, hx⟩ := reads os enc
  refine returnsInHanded_of_row (C := Tryz.checked) (s := OpenSpec.ofChange Rows.gunBubblesSpec) own started (by kernel_rfl) Tryz.func4
    (witness_row_at (enc := enc) (C := Tryz.checked) false (laidWorld os) #[wit] rfl (by kernel_rfl) (by kernel_rfl) (by kernel_rfl)
      (OpenSpec.preRow_of_cond 8 hx (by kernel_rfl) (fun k hk => by cases hk) (by kernel_rfl) (laid_met os _))) ?_
  intro W base args ds gs before hval hW _ _ _ hL _ _
  exact contract H enc W base args ds gs before hval hW hL
end gunBubbles
end Go.Proofs.YtndlfijfjglkdaaGreatDoor

namespace Go.Proofs.YtndlfijfjglkdaaGreatDoor
open Go Go.Ab Go.Proofs Go.ChangeShapes Go.WideShapes Go.ChangeAt Go.RowKit
namespace gunBubbles
theorem fnum : Tryz.prog.funcNamed "moveout/moveoutlaw03.GunBubbles" = some 4 := by kernel_rfl
theorem inst : Tryz.f4.isInstance Tryz.prog Rows.gunBubblesRow.origin Rows.gunBubblesRow.targs := of_decide_eq_true (by kernel_rfl)
theorem wrapper : Tryz.f4.isWrapper Tryz.prog Rows.gunBubblesRow.wrapper Rows.gunBubblesRow.mainSum := by unfold Func.isWrapper; first | (rw [if_pos (by decide +kernel)]; kernel_rfl) | (rw [if_neg (by decide +kernel)]; exact ⟨rfl, rfl⟩)
set_option maxRecDepth 100000 in
theorem said : Rows.GunBubblesSaid :=
  OpenClaim.holds_of_cond 4 Tryz.f4 rfl rfl rfl rfl rfl rfl rfl ⟨rfl, rfl, rfl, rfl, rfl⟩ rfl rfl rfl rfl rfl fnum Tryz.func4 facts inst wrapper
    (fun os started H enc _ F => by rw [OpenClaim.pre_eq_preRow]; exact lifted os started H enc F)
theorem looks : true = Tryz.prog.looks [] := by kernel_rfl
theorem standIn : Tryz.prog.wantsStandIn 50 = false := by kernel_rfl
theorem plain (f : FuncId) (fn : Func) (hf : Tryz.pinned.checked.prog.funcNamed "moveout/moveoutlaw03.GunBubbles" = some f) (hfn : Tryz.pinned.checked.prog.funcs[f]? = some fn) :
    true = Tryz.pinned.checked.prog.looks [] ∧ ∀ (j : Nat) t, fn.params[j]? = some t → Tryz.pinned.checked.prog.wantsStandIn t = false := by
  obtain rfl : f = 4 := Option.some.inj (fnum.symm.trans hf) |>.symm
  obtain rfl : fn = Tryz.f4 := (Option.some.inj (Tryz.func4.symm.trans hfn)).symm
  refine ⟨looks, fun j t ht => ?_⟩
  rw [params4] at ht
  obtain rfl : t = 50 := by simpa using Array.mem_of_getElem? ht
  exact standIn
theorem wf : OpenClaim.wfByText (OpenSpec.ofChange Rows.gunBubblesSpec) Rows.gunBubblesRow = true := by kernel_rfl
theorem main : Tryz.prog.mainIs = some ("e00eecd8ca05e183972abfbf043f5ed2bc813bd519e3ebd189d9b51d2f935a9d" |> fun s => (true, s.toList)) := by kernel_rfl
theorem goes : false = Rows.gunBubblesRow.goesBy Tryz.prog := by kernel_rfl
set_option maxRecDepth 100000 in
theorem card : Rows.GunBubblesCardSaid :=
  Claim7.holds_tied_plain_at .later [] _ _ _ _ said (fun _ h => by cases h) wf (fun _ h => by cases h) gunBubbles_row_tie rfl ⟨rfl, rfl⟩ main rfl plain goes
end gunBubbles
end Go.Proofs.YtndlfijfjglkdaaGreatDoor
