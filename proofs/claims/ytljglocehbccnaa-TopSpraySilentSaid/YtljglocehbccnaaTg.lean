/-
The walk through what TopSpraySilent reaches, and the plain law behind it (no condition).
-/
import Derived.Test.YtljglocehbccnaaTf
namespace Go.Proofs.Ytljglocehbccnaa
open Go Go.Ab Go.Proofs Go.ChangeShapes Go.WideShapes Go.ChangeAt Go.RowKit
theorem params3 : Try.f3.params = #[30] := by kernel_rfl
namespace topSpraySilent
set_option maxRecDepth 100000 in
theorem contract (H : Type) (enc : TypeId × Value → H) (W : World) (base : Nat) (args : Array Value) (ds gs : List (DataW H)) (before : List MemPlace)
    (hval : ∀ (j : Nat) t v, Try.f3.params[j]? = some t → args[j]? = some v → Value.okWide Try.prog W .any base t v)
    (hW : DataW.Whole enc Try.prog Try.f3.params.toList Rows.topSpraySilentSpec.vars false W args.toList ds gs before) :
    Calls Try.prog 3 args W fun e W' => ∃ v, e = .returned v ∧ Rows.topSpraySilentSpec.post enc Try.prog Try.f3 false true false false W args v W' := by
  have hW' := hW
  obtain ⟨p, q, hA0, hV, rfl, hfz, hnd⟩ := hW
  have hA : DataW.TrodAll enc Try.prog W 0 (fun _ => true) true Try.f3.params.toList args.toList ds p := hA0
  rw [params3] at hA hval
  obtain ⟨v0, vs0, d0, ds0, p0, q0, hargs, rfl, rfl, h0, r0⟩ := trodAll_cons hA
  obtain ⟨rfl, rfl, rfl⟩ := trodAll_nil r0
  obtain rfl : args = #[v0] := by cases args; simp_all
  obtain ⟨b, s, u1, u2, u3, rfl, hu1, hu2, hu3, hs⟩ := open_run (hval 0 30 v0 rfl rfl) h0
  have hc : Calls Try.prog 3 #[b.run s u1 u2 u3] W fun e W' => e = .returned (.bool true) ∧ Below W.heap.size W W' := by
    rcases hs with rfl | ⟨k, o, c, l, rfl, cs, t, fz, hw, hc⟩
    · refine lawCalls (f := 3) (by kernel_rfl) [] (by simp) (args0 := [b.run (.slice none 0 0) u1 u2 u3]) (by simp [Brg.run]) ?_ (w3a (l := []) b (fun _ => rfl) hu1 hu2 hu3)
      simp [Brg.run, denL, den]
    · refine lawCalls (f := 3) (by kernel_rfl) [⟨k, o, sgs l⟩] ?_ (args0 := [b.run (.slice (some ⟨0, o, none⟩) l.length c) u1 u2 u3]) (args := #[b.run (.slice (some ⟨k, o, none⟩) l.length c) u1 u2 u3]) (by simp [Brg.run]) ?_ (w3a (l := l) b (fun hsh => ?_) hu1 hu2 hu3)
      · intro u hu
        rw [List.mem_singleton] at hu
        subst hu
        refine ⟨scL_af _ _ (sgs_af l), cs, t, fz, hw, fun i hi => ?_⟩
        rw [denL_af _ _ (sgs_af l)]
        exact hc i hi
      · simp [Brg.run, denL, den, wloc]
      · have hl : l.length ≤ 65 := by
          unfold shortV at hsh
          simp at hsh
          omega
        refine listV_flat sg_len (sg_dec _) rfl ?_ (by omega)
        show cellsA [(0, .inp o (sgs l))] 0 o (l.length * 3) = some (sgs l)
        rw [cellsA_eq, hget_cons, if_pos rfl]
        simp only [Option.bind_some, cellsB]
        rw [if_pos ⟨Nat.le_refl _, by rw [sgs_len]; omega⟩, Nat.sub_self, List.drop_zero, List.take_of_length_le (by rw [sgs_len]; omega)]
  refine hc.mono fun e W' ⟨he, hb⟩ => ⟨_, he, ?_⟩
  refine lawPost ?_ rfl rfl rfl hW' hb
  intro t ht
  rw [params3] at ht
  simp at ht
  subst ht
  exact ⟨by kernel_rfl, by rw [show Try.prog.types.size = 164 by kernel_rfl]; decide⟩
end topSpraySilent
end Go.Proofs.Ytljglocehbccnaa

namespace Go.Proofs.Ytljglocehbccnaa
open Go Go.Ab Go.Proofs Go.ChangeShapes Go.WideShapes Go.ChangeAt Go.RowKit
noncomputable def bareWorld (os : Os) : World := World.holding Try.prog os ⟨#[], #[], []⟩
abbrev witR : Value := .agg #[.int .i64 0, .int .i64 0, .int .i64 0, .int .i64 0, .int .i64 0, .int .i64 0, .int .i64 0, .int .i64 0, .int .i64 0, .int .i64 0, .slice none 0 0, .int .u8 0, .int .u8 0, .int .u8 0]
namespace topSpraySilent
theorem met (W : World) : laidMet Try.prog [] W := ⟨[], rfl, List.nodup_nil, fun _ _ h => by cases h⟩
theorem reads (os : Os) {H : Type} (enc : TypeId × Value → H) : ∃ d places, DataW.whole enc Try.prog ((bareWorld os).forCall (fun _ _ => 0) ⟨#[], #[witR], []⟩).memory Try.f3.params.toList Rows.topSpraySilentSpec.vars false #[witR].toList 8 = some (d, [], places) :=
  ⟨[.agg [.agg [.agg [.lit (.int .i64 0), .lit (.int .i64 0)], .agg [.lit (.int .i64 0), .lit (.int .i64 0)], .lit (.int .i64 0)], .agg [.lit (.int .i64 0), .lit (.int .i64 0), .lit (.int .i64 0), .lit (.int .i64 0), .lit (.int .i64 0)], .nil, .lit (.int .u8 0), .lit (.int .u8 0), .lit (.int .u8 0)]], [], by kernel_rfl⟩
set_option maxRecDepth 100000 in
theorem lifted (os : Os) (started : os.Started) (H : Type) (enc : TypeId × Value → H) (F : Stop.Interp) :
    ReturnsInHanded {} Try.checked os 3 .any ((OpenSpec.ofChange Rows.topSpraySilentSpec).preRow enc Try.prog Try.f3 Rows.topSpraySilentRow.domain false Rows.topSpraySilentRow.laid) (((OpenSpec.ofChange Rows.topSpraySilentSpec).at F).post enc Try.prog Try.f3 false true false false) := by
  obtain ⟨d, places, hx⟩ := reads os enc
  refine returnsInHanded_of_row (C := Try.checked) (s := OpenSpec.ofChange Rows.topSpraySilentSpec) own started (by kernel_rfl) Try.func3
    (witness_row_at (enc := enc) (C := Try.checked) false (bareWorld os) #[witR] rfl (by kernel_rfl) (by kernel_rfl) (by kernel_rfl)
      (OpenSpec.preRow_of_cond 8 hx (by kernel_rfl) (fun k hk => by cases hk) (by kernel_rfl) (met _))) ?_
  intro W base args ds gs before hval hW _ _ _ hL _ _
  exact contract H enc W base args ds gs before hval hW
theorem fnum : Try.prog.funcNamed "moveout/moveouttop.TopSpraySilent" = some 3 := by kernel_rfl
theorem inst : Try.f3.isInstance Try.prog Rows.topSpraySilentRow.origin Rows.topSpraySilentRow.targs := of_decide_eq_true (by kernel_rfl)
theorem wrapper : Try.f3.isWrapper Try.prog Rows.topSpraySilentRow.wrapper Rows.topSpraySilentRow.mainSum := by unfold Func.isWrapper; first | (rw [if_pos (by decide +kernel)]; kernel_rfl) | (rw [if_neg (by decide +kernel)]; exact ⟨rfl, rfl⟩)
set_option maxRecDepth 100000 in
theorem said : Rows.TopSpraySilentSaid :=
  OpenClaim.holds_of_cond 3 Try.f3 rfl rfl rfl rfl rfl rfl rfl ⟨rfl, rfl, rfl, rfl, rfl⟩ rfl rfl rfl rfl rfl fnum Try.func3 facts inst wrapper
    (fun os started H enc _ F => by rw [OpenClaim.pre_eq_preRow]; exact lifted os started H enc F)
end topSpraySilent
end Go.Proofs.Ytljglocehbccnaa
