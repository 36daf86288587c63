/-
The law GunTimes returns true for every string, every list of timings and every limit that are handed in, and its arguments read afterwards as before. Conditions: those of the given row (the four laid variables hold what their text lays), tied by the given card.
-/
import Derived.Test.YtndlfijfjglkdaaGreatDoorGa
import Derived.Test.YtndlfijfjglkdaaGreatDoorFa
import Derived.Test.YtndlfijfjglkdaaGreatDoorGd
import Derived.Test.YtndlfijfjglkdaaGreatDoorGc
import Derived.Test.YtndlfijfjglkdaaGreatDoorGf
import Derived.Test.YtndlfijfjglkdaaGreatDoorGh
import Derived.Test.YtndlfijfjglkdaaGreatDoorQg
namespace Go.Proofs.YtndlfijfjglkdaaGreatDoor
open Go Go.Ab Go.Proofs Go.ChangeShapes Go.WideShapes Go.ChangeAt Go.RowKit
theorem cells73 : Tryz.prog.cellsOf 73 = 6 := by kernel_rfl
theorem cells3 : Tryz.prog.cellsOf 3 = 1 := by kernel_rfl
set_option maxRecDepth 100000 in
theorem open_line {H : Type} {enc : TypeId × Value → H} {W : World} {base : Nat} {v : Value} {d : DataW H} {p : List MemPlace} (hv : Value.okWide Tryz.prog W .any base 73 v) (h : DataW.Trod enc Tryz.prog W 0 (fun _ => true) true 73 v d p) :
    ∃ s f d p u e : Int, v = .agg ⟨lin s f d p u e⟩ := by
  obtain ⟨cs, rfl, hsz⟩ := okWide_struct Tryz.underlying73 hv
  rw [cells73] at hsz
  obtain ⟨fuel, hf⟩ := h
  obtain ⟨xs, m, rfl, hx, hl, hxl, hg⟩ := DataW.trod_struct Tryz.underlying73 hf
  obtain ⟨l⟩ := cs
  have key : ∀ i, i < 6 → ∃ n : Int, l[i]? = some (iv n) := by
    intro i hi
    have h1 := hg i
    have hfi : ∃ f : Field, (#[(⟨ "Start", 3, 0, false, "", "", 0⟩ : Field), ⟨ "First", 3, 1, false, "", "", 8⟩, ⟨ "Spacing", 3, 2, false, "", "", 16⟩, ⟨ "Points", 3, 3, false, "", "", 24⟩, ⟨ "Num", 3, 4, false, "", "", 32⟩, ⟨ "Den", 3, 5, false, "", "", 40⟩] : Array Field)[i]? = some f ∧ f.type = 3 ∧ f.offset = i := by
      match i, hi with
      | 0, _ | 1, _ | 2, _ | 3, _ | 4, _ | 5, _ => exact ⟨_, rfl, rfl, rfl⟩
    obtain ⟨f, hf1, hf2, hf3⟩ := hfi
    have h2 := h1 f hf1
    rw [hf2, hf3, cells3] at h2
    obtain ⟨x, hx⟩ : ∃ x, xs[i]? = some x := ⟨xs[i]'(by rw [hxl]; exact hi), by simp⟩
    rw [hx] at h2
    obtain ⟨n, hc, _, _⟩ := DataW.trod_int Tryz.underlying3 h2
    refine ⟨n, ?_⟩
    have := congrArg (·[0]?) hc
    simpa [List.getElem?_take, List.getElem?_drop, Value.cells] using this
  match l, hsz with
  | [a, b, c, d, e, f], _ =>
    obtain ⟨n0, h0⟩ := key 0 (by omega)
    obtain ⟨n1, h1⟩ := key 1 (by omega)
    obtain ⟨n2, h2⟩ := key 2 (by omega)
    obtain ⟨n3, h3⟩ := key 3 (by omega)
    obtain ⟨n4, h4⟩ := key 4 (by omega)
    obtain ⟨n5, h5⟩ := key 5 (by omega)
    simp at h0 h1 h2 h3 h4 h5
    subst h0 h1 h2 h3 h4 h5
    exact ⟨n0, n1, n2, n3, n4, n5, rfl⟩
namespace gunLines
set_option maxRecDepth 100000 in
theorem contract (H : Type) (enc : TypeId × Value → H) (W : World) (base : Nat) (args : Array Value) (ds gs : List (DataW H)) (before : List MemPlace)
    (hval : ∀ (j : Nat) t v, Tryz.f6.params[j]? = some t → args[j]? = some v → Value.okWide Tryz.prog W .any base t v)
    (hW : DataW.Whole enc Tryz.prog Tryz.f6.params.toList Rows.gunLinesSpec.vars false W args.toList ds gs before) (hL : laidMetH Tryz.prog Rows.gunLinesRow.laid W) :
    Calls Tryz.prog 6 args W fun e W' => ∃ v, e = .returned v ∧ Rows.gunLinesSpec.post enc Tryz.prog Tryz.f6 false true false false W args v W' := by
  have hW' := hW
  obtain ⟨p, q, hA0, hV, rfl, hfz, hnd⟩ := hW
  have hA : DataW.TrodAll enc Tryz.prog W 0 (fun _ => true) true Tryz.f6.params.toList args.toList ds p := hA0
  rw [Tryz.params6] at hA hval
  obtain ⟨v0, vs0, d0, ds0, p0, q0, hargs, rfl, rfl, h0, r0⟩ := trodAll_cons hA
  obtain ⟨rfl, rfl, rfl⟩ := trodAll_nil r0
  obtain rfl : args = #[v0] := by cases args; simp_all
  obtain ⟨s, f, d, p, u, e, rfl⟩ := open_line (hval 0 73 v0 rfl rfl) h0
  have hc := lawCalls (f := 6) (by kernel_rfl) (lies0 hL) (lies3 hL) [] (by simp) (args0 := [.agg ⟨lin s f d p u e⟩]) (args := #[.agg ⟨lin s f d p u e⟩]) (by simp) (by simp [denL, den]) (w6 s f d p u e)
  refine hc.mono fun e W' ⟨he, hb⟩ => ⟨_, he, ?_⟩
  refine lawPost ?_ rfl rfl rfl hW' hb
  intro t ht
  rw [Tryz.params6] at ht
  simp at ht
  subst ht
  exact ⟨by kernel_rfl, by rw [show Tryz.prog.types.size = 405 by kernel_rfl]; decide⟩
abbrev wit : Value := .agg #[iv 0, iv 0, iv 0, iv 0, iv 0, iv 0]
theorem reads (os : Os) {H : Type} (enc : TypeId × Value → H) : ∃ places, DataW.whole enc Tryz.prog ((laidWorld os).forCall (fun _ _ => 0) ⟨#[], #[wit], []⟩).memory Tryz.f6.params.toList Rows.gunLinesSpec.vars false #[wit].toList 8 = some ([.agg [.lit (.int .i64 0), .lit (.int .i64 0), .lit (.int .i64 0), .lit (.int .i64 0), .lit (.int .i64 0), .lit (.int .i64 0)]], [], places) :=
  ⟨[], by kernel_rfl⟩
set_option maxRecDepth 100000 in
theorem lifted (os : Os) (started : os.Started) (H : Type) (enc : TypeId × Value → H) (F : Stop.Interp) :
    ReturnsInHanded {} Tryz.checked os 6 .any ((OpenSpec.ofChange Rows.gunLinesSpec).preRow enc Tryz.prog Tryz.f6 Rows.gunLinesRow.domain false Rows.gunLinesRow.laid) (((OpenSpec.ofChange Rows.gunLinesSpec).at F).post enc Tryz.prog Tryz.f6 false true false false) := by
  obtain ⟨places, hx⟩ := reads os enc
  refine returnsInHanded_of_row (C := Tryz.checked) (s := OpenSpec.ofChange Rows.gunLinesSpec) own started (by kernel_rfl) Tryz.func6
    (witness_row_at (enc := enc) (C := Tryz.checked) false (laidWorld os) #[wit] rfl (by kernel_rfl) (by kernel_rfl) (by kernel_rfl)
      (OpenSpec.preRow_of_cond 8 hx (by kernel_rfl) (fun k hk => by cases hk) (by kernel_rfl) (laid_met os _))) ?_
  intro W base args ds gs before hval hW _ _ _ hL _ _
  exact contract H enc W base args ds gs before hval hW hL
end gunLines
end Go.Proofs.YtndlfijfjglkdaaGreatDoor

namespace Go.Proofs.YtndlfijfjglkdaaGreatDoor
open Go Go.Ab Go.Proofs Go.ChangeShapes Go.WideShapes Go.ChangeAt Go.RowKit
/-! ### handed strings of guns -/
theorem leafs94 : leafs Tryz.prog 6 94 = some [.str, .int .i64, .int .i64, .int .i64, .int .i64, .int .i64, .int .i64] := by kernel_rfl
theorem fits_cons {a : Leaf} {bs : List Leaf} {r : List Value} (h : fitsL (a :: bs) r) : ∃ v vs, r = v :: vs ∧ a.fits v ∧ fitsL bs vs := by
  cases r with
  | nil => exact h.elim
  | cons v vs => exact ⟨v, vs, rfl, h.1, h.2⟩
theorem fits_nil {r : List Value} (h : fitsL [] r) : r = [] := by
  cases r with
  | nil => rfl
  | cons v vs => exact h.elim
theorem fits_gun {r : List Value} (h : fitsL [.str, .int .i64, .int .i64, .int .i64, .int .i64, .int .i64, .int .i64] r) : ∃ g : Gun, r = g.cells := by
  obtain ⟨_, _, rfl, ⟨s, rfl, _⟩, h1⟩ := fits_cons h
  obtain ⟨_, _, rfl, ⟨v, rfl, _⟩, h2⟩ := fits_cons h1
  obtain ⟨_, _, rfl, ⟨x, rfl, _⟩, h3⟩ := fits_cons h2
  obtain ⟨_, _, rfl, ⟨y, rfl, _⟩, h4⟩ := fits_cons h3
  obtain ⟨_, _, rfl, ⟨t, rfl, _⟩, h5⟩ := fits_cons h4
  obtain ⟨_, _, rfl, ⟨lo, rfl, _⟩, h6⟩ := fits_cons h5
  obtain ⟨_, _, rfl, ⟨hi, rfl, _⟩, h7⟩ := fits_cons h6
  obtain rfl := fits_nil h7
  exact ⟨⟨s, v, x, y, t, lo, hi⟩, rfl⟩
theorem fits_guns : ∀ rows : List (List Value), (∀ r ∈ rows, fitsL [.str, .int .i64, .int .i64, .int .i64, .int .i64, .int .i64, .int .i64] r) → ∃ l : List Gun, rows.flatten = gcs l ∧ l.length = rows.length
  | [], _ => ⟨[], rfl, rfl⟩
  | r :: rows, h => by
    obtain ⟨g, rfl⟩ := fits_gun (h r (List.mem_cons_self ..))
    obtain ⟨l, h1, h2⟩ := fits_guns rows fun r hr => h r (List.mem_cons_of_mem _ hr)
    exact ⟨g :: l, by rw [List.flatten_cons, h1]; rfl, by simp [h2]⟩
set_option maxRecDepth 100000 in
theorem open_str {H : Type} {enc : TypeId × Value → H} {W : World} {base : Nat} {v : Value} {d : DataW H} {p : List MemPlace} (hv : Value.okWide Tryz.prog W .any base 24 v) (h : DataW.Trod enc Tryz.prog W 0 (fun _ => true) true 24 v d p) :
    v = nilV ∨ ∃ (b o c : Nat) (l : List Gun), v = .agg ⟨[.slice (some ⟨b, o, none⟩) l.length c]⟩ ∧ l.length < 2 ^ 63 ∧ ∃ cs t fz, W.heap[b]? = some (.cells cs t fz) ∧ ∀ i, i < (gcs l).length → cs[o + i]? = (gcs l)[i]? := by
  rcases handed_str (d := 6) Tryz.underlying24 (f := ⟨"Guns", 22, 0, false, "", "", 0⟩) rfl rfl rfl (by kernel_rfl) (by kernel_rfl) (by kernel_rfl) Tryz.underlying22 leafs94 (by kernel_rfl) (by simp) hv h with rfl | ⟨b, o, len, cap, rows, rfl, h1, h2, h3, h4, cs, t, fz, hw, hc⟩
  · exact .inl rfl
  · obtain ⟨l, e1, e2⟩ := fits_guns rows h4
    have : len = l.length := by omega
    subst this
    rw [e1] at hc
    refine .inr ⟨b, o, cap, l, rfl, ?_, cs, t, fz, hw, hc⟩
    have : maxLen < 2 ^ 63 := by decide
    omega
end Go.Proofs.YtndlfijfjglkdaaGreatDoor

namespace Go.Proofs.YtndlfijfjglkdaaGreatDoor
open Go Go.Ab Go.Proofs Go.ChangeShapes Go.WideShapes Go.ChangeAt Go.RowKit
theorem leafs117 : leafs Tryz.prog 6 117 = some (List.replicate 8 (.int .u8)) := by kernel_rfl
theorem fits_bytes : ∀ (n : Nat) (r : List Value), fitsL (List.replicate n (.int .u8)) r → ∃ ns : List Int, r = ns.map bv ∧ ns.length = n ∧ ∀ x ∈ ns, 0 ≤ x ∧ x ≤ 255
  | 0, [], _ => ⟨[], rfl, rfl, by simp⟩
  | n + 1, v :: r, h => by
    obtain ⟨⟨x, rfl, hx⟩, h⟩ := h
    obtain ⟨ns, rfl, h2, h3⟩ := fits_bytes n r h
    refine ⟨x :: ns, rfl, by simp [h2], fun y hy => ?_⟩
    rcases List.mem_cons.1 hy with rfl | hy
    · simp [Lit.wf, IntKind.min, IntKind.max, IntKind.signed, IntKind.bits] at hx
      omega
    · exact h3 y hy
  | 0, _ :: _, h => h.elim
  | _ + 1, [], h => h.elim
set_option maxRecDepth 100000 in
theorem open_bytes {H : Type} {enc : TypeId × Value → H} {W : World} {base : Nat} {v : Value} {d : DataW H} {p : List MemPlace} (hv : Value.okWide Tryz.prog W .any base 117 v) (h : DataW.Trod enc Tryz.prog W 0 (fun _ => true) true 117 v d p) :
    ∃ ns : List Int, v = .agg ⟨ns.map bv⟩ ∧ ns.length = 8 ∧ ∀ x ∈ ns, 0 ≤ x ∧ x ≤ 255 := by
  simp only [Value.okWide, Tryz.underlying117] at hv
  obtain ⟨cs, rfl, hsz, _⟩ := hv
  obtain ⟨fuel, hf⟩ := h
  obtain ⟨l⟩ := cs
  obtain ⟨ns, h1, h2, h3⟩ := fits_bytes 8 l (leafs_ok 6 117 _ fuel _ _ leafs117 hf)
  subst h1
  exact ⟨ns, rfl, h2, h3⟩
theorem laid_met3 (os : Os) (a b c : Value) : laidMet Tryz.prog laidAll ((laidWorld os).forCall (fun _ _ => 0) ⟨#[], #[a, b, c], []⟩).memory :=
  laidMet_of_run' 8 (by kernel_rfl) (by kernel_rfl)
theorem params9 : Tryz.f9.params = #[73, 24, 117] := by kernel_rfl
namespace gunReaches
set_option maxRecDepth 100000 in
theorem contract (H : Type) (enc : TypeId × Value → H) (W : World) (base : Nat) (args : Array Value) (ds gs : List (DataW H)) (before : List MemPlace)
    (hval : ∀ (j : Nat) t v, Tryz.f9.params[j]? = some t → args[j]? = some v → Value.okWide Tryz.prog W .any base t v)
    (hW : DataW.Whole enc Tryz.prog Tryz.f9.params.toList Rows.gunReachesSpec.vars false W args.toList ds gs before) (hL : laidMetH Tryz.prog Rows.gunReachesRow.laid W) :
    Calls Tryz.prog 9 args W fun e W' => ∃ v, e = .returned v ∧ Rows.gunReachesSpec.post enc Tryz.prog Tryz.f9 false true false false W args v W' := by
  have hW' := hW
  obtain ⟨p, q, hA0, hV, rfl, hfz, hnd⟩ := hW
  have hA : DataW.TrodAll enc Tryz.prog W 0 (fun _ => true) true Tryz.f9.params.toList args.toList ds p := hA0
  rw [params9] at hA hval
  obtain ⟨v0, vs0, d0, ds0, p0, q0, hargs, rfl, rfl, h0, r0⟩ := trodAll_cons hA
  obtain ⟨v1, vs1, d1, ds1, p1, q1, rfl, rfl, rfl, h1, r1⟩ := trodAll_cons r0
  obtain ⟨v2, vs2, d2, ds2, p2, q2, rfl, rfl, rfl, h2, r2⟩ := trodAll_cons r1
  obtain ⟨rfl, rfl, rfl⟩ := trodAll_nil r2
  obtain rfl : args = #[v0, v1, v2] := by cases args; simp_all
  obtain ⟨s, f, d, p, u, e, rfl⟩ := open_line (hval 0 73 v0 rfl rfl) h0
  obtain ⟨ns, rfl, hn8, hns⟩ := open_bytes (hval 2 117 v2 rfl rfl) h2
  have hc : Calls Tryz.prog 9 #[.agg ⟨lin s f d p u e⟩, v1, .agg ⟨ns.map bv⟩] W fun e W' => e = .returned (.bool true) ∧ Below W.heap.size W W' := by
    rcases open_str (hval 1 24 v1 rfl rfl) h1 with rfl | ⟨b, o, c, l, rfl, hl, cs, t, fz, hw, hcs⟩
    · exact lawCalls (f := 9) (by kernel_rfl) (lies0 hL) (lies3 hL) [] (by simp) (args0 := [.agg ⟨lin s f d p u e⟩, nilV, .agg ⟨ns.map bv⟩]) (args := #[.agg ⟨lin s f d p u e⟩, nilV, .agg ⟨ns.map bv⟩]) (by simp) (by simp [denL, den, denL_af _ _ (afL_bv ns)]) (w9n s f d p u e ns)
    · refine lawCalls (f := 9) (by kernel_rfl) (lies0 hL) (lies3 hL) [⟨b, o, gcs l⟩] ?_ (args0 := [.agg ⟨lin s f d p u e⟩, strV o l.length c, .agg ⟨ns.map bv⟩]) (args := #[.agg ⟨lin s f d p u e⟩, .agg ⟨[.slice (some ⟨b, o, none⟩) l.length c]⟩, .agg ⟨ns.map bv⟩]) (by simp) ?_ (w9 s f d p u e l o c ns hl hn8 hns)
      · intro v hv
        rw [List.mem_singleton] at hv
        subst hv
        refine ⟨by simp, cs, t, fz, hw, fun i hi => ?_⟩
        rw [denL_af _ _ (afL_gcs l)]
        exact hcs i hi
      · simp [denL, den, denL_af _ _ (afL_bv ns), wloc]
  refine hc.mono fun e W' ⟨he, hb⟩ => ⟨_, he, ?_⟩
  refine lawPost ?_ rfl rfl rfl hW' hb
  intro t ht
  rw [params9] at ht
  simp at ht
  rcases ht with rfl | rfl | rfl
  · exact ⟨by kernel_rfl, by rw [show Tryz.prog.types.size = 405 by kernel_rfl]; decide⟩
  · exact ⟨by kernel_rfl, by rw [show Tryz.prog.types.size = 405 by kernel_rfl]; decide⟩
  · exact ⟨by kernel_rfl, by rw [show Tryz.prog.types.size = 405 by kernel_rfl]; decide⟩
abbrev wit0 : Value := .agg #[iv 0, iv 0, iv 0, iv 0, iv 0, iv 0]
abbrev wit1 : Value := .agg #[.slice none 0 0]
abbrev wit2 : Value := .agg #[bv 0, bv 0, bv 0, bv 0, bv 0, bv 0, bv 0, bv 0]
abbrev z64 (H : Type) : DataW H := .lit (.int .i64 0)
abbrev z8 (H : Type) : DataW H := .lit (.int .u8 0)
theorem reads (os : Os) {H : Type} (enc : TypeId × Value → H) : ∃ places, DataW.whole enc Tryz.prog ((laidWorld os).forCall (fun _ _ => 0) ⟨#[], #[wit0, wit1, wit2], []⟩).memory Tryz.f9.params.toList Rows.gunReachesSpec.vars false #[wit0, wit1, wit2].toList 8 = some ([.agg [z64 H, z64 H, z64 H, z64 H, z64 H, z64 H], .agg [.nil], .agg [z8 H, z8 H, z8 H, z8 H, z8 H, z8 H, z8 H, z8 H]], [], places) :=
  ⟨[], by kernel_rfl⟩
set_option maxRecDepth 100000 in
theorem lifted (os : Os) (started : os.Started) (H : Type) (enc : TypeId × Value → H) (F : Stop.Interp) :
    ReturnsInHanded {} Tryz.checked os 9 .any ((OpenSpec.ofChange Rows.gunReachesSpec).preRow enc Tryz.prog Tryz.f9 Rows.gunReachesRow.domain false Rows.gunReachesRow.laid) (((OpenSpec.ofChange Rows.gunReachesSpec).at F).post enc Tryz.prog Tryz.f9 false true false false) := by
  obtain ⟨places, hx⟩ := reads os enc
  refine returnsInHanded_of_row (C := Tryz.checked) (s := OpenSpec.ofChange Rows.gunReachesSpec) own started (by kernel_rfl) Tryz.func9
    (witness_row_at (enc := enc) (C := Tryz.checked) false (laidWorld os) #[wit0, wit1, wit2] rfl (by kernel_rfl) (by kernel_rfl) (by kernel_rfl)
      (OpenSpec.preRow_of_cond 8 hx (by kernel_rfl) (fun k hk => by cases hk) (by kernel_rfl) (laid_met3 os _ _ _))) ?_
  intro W base args ds gs before hval hW _ _ _ hL _ _
  exact contract H enc W base args ds gs before hval hW hL
end gunReaches
end Go.Proofs.YtndlfijfjglkdaaGreatDoor

namespace Go.Proofs.YtndlfijfjglkdaaGreatDoor
open Go Go.Ab Go.Proofs Go.ChangeShapes Go.WideShapes Go.ChangeAt Go.RowKit
/-! ### handed timings -/
theorem leafs203 : leafs Tryz.prog 6 203 = some [.str, .int .i64] := by kernel_rfl
theorem fits_tims : ∀ rows : List (List Value), (∀ r ∈ rows, fitsL [.str, .int .i64] r) → ∃ l : List Tim, rows.flatten = tcs l ∧ l.length = rows.length
  | [], _ => ⟨[], rfl, rfl⟩
  | r :: rows, h => by
    obtain ⟨_, _, e1, ⟨s, rfl, _⟩, h1⟩ := fits_cons (h r (List.mem_cons_self ..))
    obtain ⟨_, _, rfl, ⟨v, rfl, _⟩, h2⟩ := fits_cons h1
    obtain rfl := fits_nil h2
    obtain ⟨l, h3, h4⟩ := fits_tims rows fun r hr => h r (List.mem_cons_of_mem _ hr)
    exact ⟨⟨s, v⟩ :: l, by rw [List.flatten_cons, h3, e1]; rfl, by simp [h4]⟩
set_option maxRecDepth 100000 in
theorem open_tims {H : Type} {enc : TypeId × Value → H} {W : World} {base : Nat} {v : Value} {d : DataW H} {p : List MemPlace} (hv : Value.okWide Tryz.prog W .any base 100 v) (h : DataW.Trod enc Tryz.prog W 0 (fun _ => true) true 100 v d p) :
    v = .slice none 0 0 ∨ ∃ (b o c : Nat) (l : List Tim), v = .slice (some ⟨b, o, none⟩) l.length c ∧ l.length < 2 ^ 63 ∧ ∃ cs t fz, W.heap[b]? = some (.cells cs t fz) ∧ ∀ i, i < (tcs l).length → cs[o + i]? = (tcs l)[i]? := by
  simp only [Value.okWide, Tryz.underlying100] at hv
  obtain ⟨a, len, cap, rfl⟩ : ∃ a len cap, v = .slice a len cap := okWide_slice (P := Tryz.prog) (w := W) (r := .any) (base := base) Tryz.underlying100 (by simp only [Value.okWide, Tryz.underlying100]; exact hv)
  obtain ⟨fuel, hf⟩ := h
  rcases handed_slice (d := 6) Tryz.underlying100 leafs203 (by kernel_rfl) (by simp) hv (fuel := fuel) (x := (d, p)) hf with h0 | ⟨b, o, len', cap', rows, e, h1, h2, h3, h4, cs, t, fz, hw, hc⟩
  · exact .inl h0
  · obtain ⟨l, e1, e2⟩ := fits_tims rows h4
    have : len' = l.length := by omega
    subst this
    rw [e1] at hc
    refine .inr ⟨b, o, cap', l, e, ?_, cs, t, fz, hw, hc⟩
    have : maxLen < 2 ^ 63 := by decide
    omega
theorem repS {W : World} (h0 : Lies W 0 names0) {v : Value} (h : v = nilV ∨ ∃ (b o c : Nat) (l : List Gun), v = .agg ⟨[.slice (some ⟨b, o, none⟩) l.length c]⟩ ∧ l.length < 2 ^ 63 ∧ ∃ cs t fz, W.heap[b]? = some (.cells cs t fz) ∧ ∀ i, i < (gcs l).length → cs[o + i]? = (gcs l)[i]?) :
    ∃ (b o : Nat) (cs : List Value) (sl : Value) (l : List Gun), afL cs = true ∧ (∃ c t fz, W.heap[b]? = some (.cells c t fz) ∧ ∀ i, i < cs.length → c[o + i]? = cs[i]?) ∧ (∀ φ : Vl, φ.loc 10 = b → den φ (.agg ⟨[sl]⟩) = v) ∧
      (∀ G : Heap, hget G 10 = some (.inp o cs) → strAt G (.agg ⟨[sl]⟩) = some l) ∧ l.length < 2 ^ 63 ∧ (∀ ρ, renL ρ cs = cs) ∧ (∀ olds, ren (rnm 12 olds) sl = sl) ∧ (∀ p : Nat → Prop, p 10 → sc p sl) := by
  rcases h with rfl | ⟨b, o, c, l, rfl, hl, cs, t, fz, hw, hc⟩
  · obtain ⟨c, t, fz, e1, _⟩ := h0
    exact ⟨0, 0, [], .slice none 0 0, [], rfl, ⟨c, t, fz, e1, fun i hi => by simp at hi⟩, fun φ _ => by simp [den, denL], fun G _ => rfl, by simp, fun _ => rfl, fun _ => rfl, fun _ _ => trivial⟩
  · refine ⟨b, o, gcs l, .slice (some ⟨10, o, none⟩) l.length c, l, afL_gcs l, ⟨cs, t, fz, hw, hc⟩, fun φ hφ => by simp [den, denL, hφ], fun G hG => ?_, hl, fun ρ => renL_gcs ρ l, fun olds => by simp [ren, rnm], fun p hp => hp⟩
    unfold strAt gunsAt
    simp [hG, List.take_of_length_le, gunsOf_gcs, show l.length < 9223372036854775808 by omega]
theorem repT {W : World} (h0 : Lies W 0 names0) {v : Value} (h : v = .slice none 0 0 ∨ ∃ (b o c : Nat) (l : List Tim), v = .slice (some ⟨b, o, none⟩) l.length c ∧ l.length < 2 ^ 63 ∧ ∃ cs t fz, W.heap[b]? = some (.cells cs t fz) ∧ ∀ i, i < (tcs l).length → cs[o + i]? = (tcs l)[i]?) :
    ∃ (b o : Nat) (cs : List Value) (sl : Value) (l : List Tim), afL cs = true ∧ (∃ c t fz, W.heap[b]? = some (.cells c t fz) ∧ ∀ i, i < cs.length → c[o + i]? = cs[i]?) ∧ (∀ φ : Vl, φ.loc 11 = b → den φ sl = v) ∧
      (∀ G : Heap, hget G 11 = some (.inp o cs) → timsW G sl = some l) ∧ (∀ ρ, renL ρ cs = cs) ∧ (∀ olds, ren (rnm 12 olds) sl = sl) ∧ (∀ p : Nat → Prop, p 11 → sc p sl) := by
  rcases h with rfl | ⟨b, o, c, l, rfl, hl, cs, t, fz, hw, hc⟩
  · obtain ⟨c, t, fz, e1, _⟩ := h0
    exact ⟨0, 0, [], .slice none 0 0, [], rfl, ⟨c, t, fz, e1, fun i hi => by simp at hi⟩, fun φ _ => by simp [den], fun G _ => rfl, fun _ => rfl, fun _ => rfl, fun _ _ => trivial⟩
  · refine ⟨b, o, tcs l, .slice (some ⟨11, o, none⟩) l.length c, l, afL_tcs l, ⟨cs, t, fz, hw, hc⟩, fun φ hφ => by simp [den, hφ], fun G hG => ?_, fun ρ => renL_tcs ρ l, fun olds => by simp [ren, rnm], fun p hp => hp⟩
    unfold timsW timsAt
    simp [hG, List.take_of_length_le, timsOf_tcs, show l.length < 9223372036854775808 by omega]
theorem params8 : Tryz.f8.params = #[24, 100, 3] := by kernel_rfl
namespace gunTimes
set_option maxRecDepth 100000 in
theorem contract (H : Type) (enc : TypeId × Value → H) (W : World) (base : Nat) (args : Array Value) (ds gs : List (DataW H)) (before : List MemPlace)
    (hval : ∀ (j : Nat) t v, Tryz.f8.params[j]? = some t → args[j]? = some v → Value.okWide Tryz.prog W .any base t v)
    (hW : DataW.Whole enc Tryz.prog Tryz.f8.params.toList Rows.gunTimesSpec.vars false W args.toList ds gs before) (hL : laidMetH Tryz.prog Rows.gunTimesRow.laid W) :
    Calls Tryz.prog 8 args W fun e W' => ∃ v, e = .returned v ∧ Rows.gunTimesSpec.post enc Tryz.prog Tryz.f8 false true false false W args v W' := by
  have hW' := hW
  obtain ⟨p, q, hA0, hV, rfl, hfz, hnd⟩ := hW
  have hA : DataW.TrodAll enc Tryz.prog W 0 (fun _ => true) true Tryz.f8.params.toList args.toList ds p := hA0
  rw [params8] at hA hval
  obtain ⟨v0, vs0, d0, ds0, p0, q0, hargs, rfl, rfl, h0, r0⟩ := trodAll_cons hA
  obtain ⟨v1, vs1, d1, ds1, p1, q1, rfl, rfl, rfl, h1, r1⟩ := trodAll_cons r0
  obtain ⟨v2, vs2, d2, ds2, p2, q2, rfl, rfl, rfl, h2, r2⟩ := trodAll_cons r1
  obtain ⟨rfl, rfl, rfl⟩ := trodAll_nil r2
  obtain rfl : args = #[v0, v1, v2] := by cases args; simp_all
  obtain ⟨b0, o0, cs0, sl, l, a1, a2, a3, a4, a5, a6, a7, a8⟩ := repS (lies0 hL) (open_str (hval 0 24 v0 rfl rfl) h0)
  obtain ⟨b1, o1, cs1, tl, ts, t1, t2, t3, t4, t6, t7, t8⟩ := repT (lies0 hL) (open_tims (hval 1 100 v1 rfl rfl) h1)
  obtain ⟨lim, rfl⟩ : ∃ n, v2 = .int .i64 n := okWide_int (P := Tryz.prog) Tryz.underlying3 (hval 2 3 v2 rfl rfl)
  have hw := w8 sl tl l ts lim o0 o1 cs0 cs1 a4 t4 a5 (fun _ => a6 _) (fun _ => t6 _) a7 t7 (fun p => scL_af p _ a1) (fun p => scL_af p _ t1) (a8 _ (by omega)) (t8 _ (by omega))
  have hc : Calls Tryz.prog 8 #[v0, v1, iv lim] W fun e W' => e = .returned (.bool true) ∧ Below W.heap.size W W' := by
    refine lawCalls (f := 8) (by kernel_rfl) (lies0 hL) (lies3 hL) [⟨b0, o0, cs0⟩, ⟨b1, o1, cs1⟩] ?_ (args0 := [.agg ⟨[sl]⟩, tl, iv lim]) (args := #[v0, v1, iv lim]) ?_ ?_ hw
    · intro v hv
      rcases List.mem_cons.1 hv with rfl | hv
      · refine ⟨scL_af _ _ a1, ?_⟩
        obtain ⟨c, t, fz, e1, e2⟩ := a2
        exact ⟨c, t, fz, e1, fun i hi => by rw [denL_af _ _ a1]; exact e2 i hi⟩
      · rw [List.mem_singleton] at hv
        subst hv
        refine ⟨scL_af _ _ t1, ?_⟩
        obtain ⟨c, t, fz, e1, e2⟩ := t2
        exact ⟨c, t, fz, e1, fun i hi => by rw [denL_af _ _ t1]; exact e2 i hi⟩
    · exact ⟨⟨a8 _ (by simp), trivial⟩, t8 _ (by simp), trivial, trivial⟩
    · simp only [denL, a3 (wloc [⟨b0, o0, cs0⟩, ⟨b1, o1, cs1⟩]) rfl, t3 (wloc [⟨b0, o0, cs0⟩, ⟨b1, o1, cs1⟩]) rfl]
      rfl
  refine hc.mono fun e W' ⟨he, hb⟩ => ⟨_, he, ?_⟩
  refine lawPost ?_ rfl rfl rfl hW' hb
  intro t ht
  rw [params8] at ht
  simp at ht
  rcases ht with rfl | rfl | rfl
  · exact ⟨by kernel_rfl, by rw [show Tryz.prog.types.size = 405 by kernel_rfl]; decide⟩
  · exact ⟨by kernel_rfl, by rw [show Tryz.prog.types.size = 405 by kernel_rfl]; decide⟩
  · exact ⟨by kernel_rfl, by rw [show Tryz.prog.types.size = 405 by kernel_rfl]; decide⟩
abbrev wit1 : Value := .agg #[.slice none 0 0]
theorem reads (os : Os) {H : Type} (enc : TypeId × Value → H) : ∃ places, DataW.whole enc Tryz.prog ((laidWorld os).forCall (fun _ _ => 0) ⟨#[], #[wit1, .slice none 0 0, iv 0], []⟩).memory Tryz.f8.params.toList Rows.gunTimesSpec.vars false #[wit1, .slice none 0 0, iv 0].toList 8 = some ([.agg [.nil], .nil, .lit (.int .i64 0)], [], places) :=
  ⟨[], by kernel_rfl⟩
set_option maxRecDepth 100000 in
theorem lifted (os : Os) (started : os.Started) (H : Type) (enc : TypeId × Value → H) (F : Stop.Interp) :
    ReturnsInHanded {} Tryz.checked os 8 .any ((OpenSpec.ofChange Rows.gunTimesSpec).preRow enc Tryz.prog Tryz.f8 Rows.gunTimesRow.domain false Rows.gunTimesRow.laid) (((OpenSpec.ofChange Rows.gunTimesSpec).at F).post enc Tryz.prog Tryz.f8 false true false false) := by
  obtain ⟨places, hx⟩ := reads os enc
  refine returnsInHanded_of_row (C := Tryz.checked) (s := OpenSpec.ofChange Rows.gunTimesSpec) own started (by kernel_rfl) Tryz.func8
    (witness_row_at (enc := enc) (C := Tryz.checked) false (laidWorld os) #[wit1, .slice none 0 0, iv 0] rfl (by kernel_rfl) (by kernel_rfl) (by kernel_rfl)
      (OpenSpec.preRow_of_cond 8 hx (by kernel_rfl) (fun k hk => by cases hk) (by kernel_rfl) (laid_met3 os _ _ _))) ?_
  intro W base args ds gs before hval hW _ _ _ hL _ _
  exact contract H enc W base args ds gs before hval hW hL
end gunTimes
end Go.Proofs.YtndlfijfjglkdaaGreatDoor

namespace Go.Proofs.YtndlfijfjglkdaaGreatDoor
open Go Go.Ab Go.Proofs Go.ChangeShapes Go.WideShapes Go.ChangeAt Go.RowKit
namespace gunTimes
theorem fnum : Tryz.prog.funcNamed "moveout/moveoutlaw03.GunTimes" = some 8 := by kernel_rfl
theorem inst : Tryz.f8.isInstance Tryz.prog Rows.gunTimesRow.origin Rows.gunTimesRow.targs := of_decide_eq_true (by kernel_rfl)
theorem wrapper : Tryz.f8.isWrapper Tryz.prog Rows.gunTimesRow.wrapper Rows.gunTimesRow.mainSum := by unfold Func.isWrapper; first | (rw [if_pos (by decide +kernel)]; kernel_rfl) | (rw [if_neg (by decide +kernel)]; exact ⟨rfl, rfl⟩)
set_option maxRecDepth 100000 in
theorem said : Rows.GunTimesSaid :=
  OpenClaim.holds_of_cond 8 Tryz.f8 rfl rfl rfl rfl rfl rfl rfl ⟨rfl, rfl, rfl, rfl, rfl⟩ rfl rfl rfl rfl rfl fnum Tryz.func8 facts inst wrapper
    (fun os started H enc _ F => by rw [OpenClaim.pre_eq_preRow]; exact lifted os started H enc F)
theorem looks : true = Tryz.prog.looks [] := by kernel_rfl
theorem standIn : ∀ t, t = 24 ∨ t = 100 ∨ t = 3 → Tryz.prog.wantsStandIn t = false := by
  rintro t (rfl | rfl | rfl) <;> kernel_rfl
theorem plain (f : FuncId) (fn : Func) (hf : Tryz.pinned.checked.prog.funcNamed "moveout/moveoutlaw03.GunTimes" = some f) (hfn : Tryz.pinned.checked.prog.funcs[f]? = some fn) :
    true = Tryz.pinned.checked.prog.looks [] ∧ ∀ (j : Nat) t, fn.params[j]? = some t → Tryz.pinned.checked.prog.wantsStandIn t = false := by
  obtain rfl : f = 8 := Option.some.inj (fnum.symm.trans hf) |>.symm
  obtain rfl : fn = Tryz.f8 := (Option.some.inj (Tryz.func8.symm.trans hfn)).symm
  refine ⟨looks, fun j t ht => ?_⟩
  rw [params8] at ht
  exact standIn t (by simpa using Array.mem_of_getElem? ht)
theorem wf : OpenClaim.wfByText (OpenSpec.ofChange Rows.gunTimesSpec) Rows.gunTimesRow = true := by kernel_rfl
theorem main : Tryz.prog.mainIs = some ("e00eecd8ca05e183972abfbf043f5ed2bc813bd519e3ebd189d9b51d2f935a9d" |> fun s => (true, s.toList)) := by kernel_rfl
theorem goes : false = Rows.gunTimesRow.goesBy Tryz.prog := by kernel_rfl
set_option maxRecDepth 100000 in
theorem card : Rows.GunTimesCardSaid :=
  Claim7.holds_tied_plain_at .later [] _ _ _ _ said (fun _ h => by cases h) wf (fun _ h => by cases h) gunTimes_row_tie rfl ⟨rfl, rfl⟩ main rfl plain goes
end gunTimes
end Go.Proofs.YtndlfijfjglkdaaGreatDoor
