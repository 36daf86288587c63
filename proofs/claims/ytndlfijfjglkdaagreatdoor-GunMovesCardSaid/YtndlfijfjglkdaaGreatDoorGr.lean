/-
The law GunMoves, walked: it returns true for every string of guns, every vector and all numbers that choose a sound.
-/
import Derived.Test.YtndlfijfjglkdaaGreatDoorGa
import Derived.Test.YtndlfijfjglkdaaGreatDoorFa
import Derived.Test.YtndlfijfjglkdaaGreatDoorGd
import Derived.Test.YtndlfijfjglkdaaGreatDoorGc
import Derived.Test.YtndlfijfjglkdaaGreatDoorGo
import Derived.Test.YtndlfijfjglkdaaGreatDoorGq
namespace Go.Proofs.YtndlfijfjglkdaaGreatDoor
open Go Go.Ab Go.Proofs Go.ChangeShapes Go.WideShapes Go.ChangeAt Go.RowKit
theorem cells73 : Tryz.prog.cellsOf 73 = 6 := by kernel_rfl
theorem cells3 : Tryz.prog.cellsOf 3 = 1 := by kernel_rfl
set_option maxRecDepth 100000 in
theorem open_line {H : Type} {enc : TypeId × Value → H} {W : World} {base : Nat} {v : Value} {d : DataW H} {p : List MemPlace} (hv : Value.okWide Tryz.prog W .any base 73 v) (h : DataW.Trod enc Tryz.prog W 0 (fun _ => true) true 73 v d p) :
    ∃ s f d p u e : Int, v = .agg ⟨lin s f d p u e⟩ := by
  obtain ⟨cs, rfl, hsz⟩ := okWide_struct Tryz.underlying73 hv
  rw [cells73] at hsz
  obtain ⟨fuel, hf⟩ := h
  obtain ⟨xs, m, rfl, hx, hl, hxl, hg⟩ := DataW.trod_struct Tryz.underlying73 hf
  obtain ⟨l⟩ := cs
  have key : ∀ i, i < 6 → ∃ n : Int, l[i]? = some (iv n) := by
    intro i hi
    have h1 := hg i
    have hfi : ∃ f : Field, (#[(⟨ "Start", 3, 0, false, "", "", 0⟩ : Field), ⟨ "First", 3, 1, false, "", "", 8⟩, ⟨ "Spacing", 3, 2, false, "", "", 16⟩, ⟨ "Points", 3, 3, false, "", "", 24⟩, ⟨ "Num", 3, 4, false, "", "", 32⟩, ⟨ "Den", 3, 5, false, "", "", 40⟩] : Array Field)[i]? = some f ∧ f.type = 3 ∧ f.offset = i := by
      match i, hi with
      | 0, _ | 1, _ | 2, _ | 3, _ | 4, _ | 5, _ => exact ⟨_, rfl, rfl, rfl⟩
    obtain ⟨f, hf1, hf2, hf3⟩ := hfi
    have h2 := h1 f hf1
    rw [hf2, hf3, cells3] at h2
    obtain ⟨x, hx⟩ : ∃ x, xs[i]? = some x := ⟨xs[i]'(by rw [hxl]; exact hi), by simp⟩
    rw [hx] at h2
    obtain ⟨n, hc, _, _⟩ := DataW.trod_int Tryz.underlying3 h2
    refine ⟨n, ?_⟩
    have := congrArg (·[0]?) hc
    simpa [List.getElem?_take, List.getElem?_drop, Value.cells] using this
  match l, hsz with
  | [a, b, c, d, e, f], _ =>
    obtain ⟨n0, h0⟩ := key 0 (by omega)
    obtain ⟨n1, h1⟩ := key 1 (by omega)
    obtain ⟨n2, h2⟩ := key 2 (by omega)
    obtain ⟨n3, h3⟩ := key 3 (by omega)
    obtain ⟨n4, h4⟩ := key 4 (by omega)
    obtain ⟨n5, h5⟩ := key 5 (by omega)
    simp at h0 h1 h2 h3 h4 h5
    subst h0 h1 h2 h3 h4 h5
    exact ⟨n0, n1, n2, n3, n4, n5, rfl⟩
namespace gunLines
set_option maxRecDepth 100000 in
theorem contract (H : Type) (enc : TypeId × Value → H) (W : World) (base : Nat) (args : Array Value) (ds gs : List (DataW H)) (before : List MemPlace)
    (hval : ∀ (j : Nat) t v, Tryz.f6.params[j]? = some t → args[j]? = some v → Value.okWide Tryz.prog W .any base t v)
    (hW : DataW.Whole enc Tryz.prog Tryz.f6.params.toList Rows.gunLinesSpec.vars false W args.toList ds gs before) (hL : laidMetH Tryz.prog Rows.gunLinesRow.laid W) :
    Calls Tryz.prog 6 args W fun e W' => ∃ v, e = .returned v ∧ Rows.gunLinesSpec.post enc Tryz.prog Tryz.f6 false true false false W args v W' := by
  have hW' := hW
  obtain ⟨p, q, hA0, hV, rfl, hfz, hnd⟩ := hW
  have hA : DataW.TrodAll enc Tryz.prog W 0 (fun _ => true) true Tryz.f6.params.toList args.toList ds p := hA0
  rw [Tryz.params6] at hA hval
  obtain ⟨v0, vs0, d0, ds0, p0, q0, hargs, rfl, rfl, h0, r0⟩ := trodAll_cons hA
  obtain ⟨rfl, rfl, rfl⟩ := trodAll_nil r0
  obtain rfl : args = #[v0] := by cases args; simp_all
  obtain ⟨s, f, d, p, u, e, rfl⟩ := open_line (hval 0 73 v0 rfl rfl) h0
  have hc := lawCalls (f := 6) (by kernel_rfl) (lies0 hL) (lies3 hL) [] (by simp) (args0 := [.agg ⟨lin s f d p u e⟩]) (args := #[.agg ⟨lin s f d p u e⟩]) (by simp) (by simp [denL, den]) (w6 s f d p u e)
  refine hc.mono fun e W' ⟨he, hb⟩ => ⟨_, he, ?_⟩
  refine lawPost ?_ rfl rfl rfl hW' hb
  intro t ht
  rw [Tryz.params6] at ht
  simp at ht
  subst ht
  exact ⟨by kernel_rfl, by rw [show Tryz.prog.types.size = 405 by kernel_rfl]; decide⟩
abbrev wit : Value := .agg #[iv 0, iv 0, iv 0, iv 0, iv 0, iv 0]
theorem reads (os : Os) {H : Type} (enc : TypeId × Value → H) : ∃ places, DataW.whole enc Tryz.prog ((laidWorld os).forCall (fun _ _ => 0) ⟨#[], #[wit], []⟩).memory Tryz.f6.params.toList Rows.gunLinesSpec.vars false #[wit].toList 8 = some ([.agg [.lit (.int .i64 0), .lit (.int .i64 0), .lit (.int .i64 0), .lit (.int .i64 0), .lit (.int .i64 0), .lit (.int .i64 0)]], [], places) :=
  ⟨[], by kernel_rfl⟩
set_option maxRecDepth 100000 in
theorem lifted (os : Os) (started : os.Started) (H : Type) (enc : TypeId × Value → H) (F : Stop.Interp) :
    ReturnsInHanded {} Tryz.checked os 6 .any ((OpenSpec.ofChange Rows.gunLinesSpec).preRow enc Tryz.prog Tryz.f6 Rows.gunLinesRow.domain false Rows.gunLinesRow.laid) (((OpenSpec.ofChange Rows.gunLinesSpec).at F).post enc Tryz.prog Tryz.f6 false true false false) := by
  obtain ⟨places, hx⟩ := reads os enc
  refine returnsInHanded_of_row (C := Tryz.checked) (s := OpenSpec.ofChange Rows.gunLinesSpec) own started (by kernel_rfl) Tryz.func6
    (witness_row_at (enc := enc) (C := Tryz.checked) false (laidWorld os) #[wit] rfl (by kernel_rfl) (by kernel_rfl) (by kernel_rfl)
      (OpenSpec.preRow_of_cond 8 hx (by kernel_rfl) (fun k hk => by cases hk) (by kernel_rfl) (laid_met os _))) ?_
  intro W base args ds gs before hval hW _ _ _ hL _ _
  exact contract H enc W base args ds gs before hval hW hL
end gunLines
end Go.Proofs.YtndlfijfjglkdaaGreatDoor

namespace Go.Proofs.YtndlfijfjglkdaaGreatDoor
open Go Go.Ab Go.Proofs Go.ChangeShapes Go.WideShapes Go.ChangeAt Go.RowKit
/-! ### handed strings of guns -/
theorem leafs94 : leafs Tryz.prog 6 94 = some [.str, .int .i64, .int .i64, .int .i64, .int .i64, .int .i64, .int .i64] := by kernel_rfl
theorem fits_cons {a : Leaf} {bs : List Leaf} {r : List Value} (h : fitsL (a :: bs) r) : ∃ v vs, r = v :: vs ∧ a.fits v ∧ fitsL bs vs := by
  cases r with
  | nil => exact h.elim
  | cons v vs => exact ⟨v, vs, rfl, h.1, h.2⟩
theorem fits_nil {r : List Value} (h : fitsL [] r) : r = [] := by
  cases r with
  | nil => rfl
  | cons v vs => exact h.elim
theorem fits_gun {r : List Value} (h : fitsL [.str, .int .i64, .int .i64, .int .i64, .int .i64, .int .i64, .int .i64] r) : ∃ g : Gun, r = g.cells := by
  obtain ⟨_, _, rfl, ⟨s, rfl, _⟩, h1⟩ := fits_cons h
  obtain ⟨_, _, rfl, ⟨v, rfl, _⟩, h2⟩ := fits_cons h1
  obtain ⟨_, _, rfl, ⟨x, rfl, _⟩, h3⟩ := fits_cons h2
  obtain ⟨_, _, rfl, ⟨y, rfl, _⟩, h4⟩ := fits_cons h3
  obtain ⟨_, _, rfl, ⟨t, rfl, _⟩, h5⟩ := fits_cons h4
  obtain ⟨_, _, rfl, ⟨lo, rfl, _⟩, h6⟩ := fits_cons h5
  obtain ⟨_, _, rfl, ⟨hi, rfl, _⟩, h7⟩ := fits_cons h6
  obtain rfl := fits_nil h7
  exact ⟨⟨s, v, x, y, t, lo, hi⟩, rfl⟩
theorem fits_guns : ∀ rows : List (List Value), (∀ r ∈ rows, fitsL [.str, .int .i64, .int .i64, .int .i64, .int .i64, .int .i64, .int .i64] r) → ∃ l : List Gun, rows.flatten = gcs l ∧ l.length = rows.length
  | [], _ => ⟨[], rfl, rfl⟩
  | r :: rows, h => by
    obtain ⟨g, rfl⟩ := fits_gun (h r (List.mem_cons_self ..))
    obtain ⟨l, h1, h2⟩ := fits_guns rows fun r hr => h r (List.mem_cons_of_mem _ hr)
    exact ⟨g :: l, by rw [List.flatten_cons, h1]; rfl, by simp [h2]⟩
set_option maxRecDepth 100000 in
theorem open_str {H : Type} {enc : TypeId × Value → H} {W : World} {base : Nat} {v : Value} {d : DataW H} {p : List MemPlace} (hv : Value.okWide Tryz.prog W .any base 24 v) (h : DataW.Trod enc Tryz.prog W 0 (fun _ => true) true 24 v d p) :
    v = nilV ∨ ∃ (b o c : Nat) (l : List Gun), v = .agg ⟨[.slice (some ⟨b, o, none⟩) l.length c]⟩ ∧ l.length < 2 ^ 63 ∧ ∃ cs t fz, W.heap[b]? = some (.cells cs t fz) ∧ ∀ i, i < (gcs l).length → cs[o + i]? = (gcs l)[i]? := by
  rcases handed_str (d := 6) Tryz.underlying24 (f := ⟨"Guns", 22, 0, false, "", "", 0⟩) rfl rfl rfl (by kernel_rfl) (by kernel_rfl) (by kernel_rfl) Tryz.underlying22 leafs94 (by kernel_rfl) (by simp) hv h with rfl | ⟨b, o, len, cap, rows, rfl, h1, h2, h3, h4, cs, t, fz, hw, hc⟩
  · exact .inl rfl
  · obtain ⟨l, e1, e2⟩ := fits_guns rows h4
    have : len = l.length := by omega
    subst this
    rw [e1] at hc
    refine .inr ⟨b, o, cap, l, rfl, ?_, cs, t, fz, hw, hc⟩
    have : maxLen < 2 ^ 63 := by decide
    omega
end Go.Proofs.YtndlfijfjglkdaaGreatDoor

namespace Go.Proofs.YtndlfijfjglkdaaGreatDoor
open Go Go.Ab Go.Proofs Go.ChangeShapes Go.WideShapes Go.ChangeAt Go.RowKit
/-- a handed string of guns, as one view shows it -/
theorem repS1 {W : World} (h0 : Lies W 0 names0) {v : Value} (h : v = nilV ∨ ∃ (b o c : Nat) (l : List Gun), v = .agg ⟨[.slice (some ⟨b, o, none⟩) l.length c]⟩ ∧ l.length < 2 ^ 63 ∧ ∃ cs t fz, W.heap[b]? = some (.cells cs t fz) ∧ ∀ i, i < (gcs l).length → cs[o + i]? = (gcs l)[i]?) :
    ∃ (b o : Nat) (cs : List Value) (a : Option Addr) (m c : Nat) (l : List Gun), afL cs = true ∧ (∃ c t fz, W.heap[b]? = some (.cells c t fz) ∧ ∀ i, i < cs.length → c[o + i]? = cs[i]?) ∧ (∀ φ : Vl, φ.loc 10 = b → den φ (.agg ⟨[.slice a m c]⟩) = v) ∧
      (∀ G : Heap, hget G 10 = some (.inp o cs) → strAt G (.agg ⟨[.slice a m c]⟩) = some l) ∧ l.length < 2 ^ 63 ∧ (∀ ρ, renL ρ cs = cs) ∧ (∀ olds, ren (rnm 11 olds) (.slice a m c) = .slice a m c) ∧ (∀ p : Nat → Prop, p 10 → sc p (.slice a m c)) ∧ m = l.length := by
  rcases h with rfl | ⟨b, o, c, l, rfl, hl, cs, t, fz, hw, hc⟩
  · obtain ⟨c, t, fz, e1, _⟩ := h0
    exact ⟨0, 0, [], none, 0, 0, [], rfl, ⟨c, t, fz, e1, fun i hi => by simp at hi⟩, fun φ _ => by simp [den, denL], fun G _ => rfl, by simp, fun _ => rfl, fun _ => rfl, fun _ _ => trivial, rfl⟩
  · refine ⟨b, o, gcs l, some ⟨10, o, none⟩, l.length, c, l, afL_gcs l, ⟨cs, t, fz, hw, hc⟩, fun φ hφ => by simp [den, denL, hφ], fun G hG => ?_, hl, fun ρ => renL_gcs ρ l, fun olds => by simp [ren, rnm], fun p hp => hp, rfl⟩
    unfold strAt gunsAt
    simp [hG, List.take_of_length_le, gunsOf_gcs, show l.length < 9223372036854775808 by omega]
theorem laid_met3' (os : Os) (a b c : Value) : laidMet Tryz.prog laidAll ((laidWorld os).forCall (fun _ _ => 0) ⟨#[], #[a, b, c], []⟩).memory :=
  laidMet_of_run' 8 (by kernel_rfl) (by kernel_rfl)
theorem params3 : Tryz.f3.params = #[24, 3, 9] := by kernel_rfl
namespace gunStrings
set_option maxRecDepth 100000 in
theorem contract (H : Type) (enc : TypeId × Value → H) (W : World) (base : Nat) (args : Array Value) (ds gs : List (DataW H)) (before : List MemPlace)
    (hval : ∀ (j : Nat) t v, Tryz.f3.params[j]? = some t → args[j]? = some v → Value.okWide Tryz.prog W .any base t v)
    (hW : DataW.Whole enc Tryz.prog Tryz.f3.params.toList Rows.gunStringsSpec.vars false W args.toList ds gs before) (hL : laidMetH Tryz.prog Rows.gunStringsRow.laid W) :
    Calls Tryz.prog 3 args W fun e W' => ∃ v, e = .returned v ∧ Rows.gunStringsSpec.post enc Tryz.prog Tryz.f3 false true false false W args v W' := by
  have hW' := hW
  obtain ⟨p, q, hA0, hV, rfl, hfz, hnd⟩ := hW
  have hA : DataW.TrodAll enc Tryz.prog W 0 (fun _ => true) true Tryz.f3.params.toList args.toList ds p := hA0
  rw [params3] at hA hval
  obtain ⟨v0, vs0, d0, ds0, p0, q0, hargs, rfl, rfl, h0, r0⟩ := trodAll_cons hA
  obtain ⟨v1, vs1, d1, ds1, p1, q1, rfl, rfl, rfl, h1, r1⟩ := trodAll_cons r0
  obtain ⟨v2, vs2, d2, ds2, p2, q2, rfl, rfl, rfl, h2, r2⟩ := trodAll_cons r1
  obtain ⟨rfl, rfl, rfl⟩ := trodAll_nil r2
  obtain rfl : args = #[v0, v1, v2] := by cases args; simp_all
  obtain ⟨b0, o0, cs0, a, m, c, l, a1, a2, a3, a4, a5, a6, a7, a8, a9⟩ := repS1 (lies0 hL) (open_str (hval 0 24 v0 rfl rfl) h0)
  obtain ⟨k, rfl⟩ : ∃ n, v1 = .int .i64 n := okWide_int (P := Tryz.prog) Tryz.underlying3 (hval 1 3 v1 rfl rfl)
  obtain ⟨s, rfl⟩ : ∃ s, v2 = .string s := okWide_string (P := Tryz.prog) Tryz.underlying9 (hval 2 9 v2 rfl rfl)
  have hw := w3 a m c l k s o0 cs0 a4 a5 a9 (fun _ => a6 _) a7 (fun p => scL_af p _ a1) a8
  have hc : Calls Tryz.prog 3 #[v0, iv k, sv s] W fun e W' => e = .returned (.bool true) ∧ Below W.heap.size W W' := by
    refine lawCalls (f := 3) (by kernel_rfl) (lies0 hL) (lies3 hL) [⟨b0, o0, cs0⟩] ?_ (args0 := [.agg ⟨[.slice a m c]⟩, iv k, sv s]) (args := #[v0, iv k, sv s]) ?_ ?_ hw
    · intro v hv
      rw [List.mem_singleton] at hv
      subst hv
      refine ⟨scL_af _ _ a1, ?_⟩
      obtain ⟨c, t, fz, e1, e2⟩ := a2
      exact ⟨c, t, fz, e1, fun i hi => by rw [denL_af _ _ a1]; exact e2 i hi⟩
    · exact ⟨⟨a8 _ (by simp), trivial⟩, trivial, trivial, trivial⟩
    · simp only [denL, a3 (wloc [⟨b0, o0, cs0⟩]) rfl]
      rfl
  refine hc.mono fun e W' ⟨he, hb⟩ => ⟨_, he, ?_⟩
  refine lawPost ?_ rfl rfl rfl hW' hb
  intro t ht
  rw [params3] at ht
  simp at ht
  rcases ht with rfl | rfl | rfl
  · exact ⟨by kernel_rfl, by rw [show Tryz.prog.types.size = 405 by kernel_rfl]; decide⟩
  · exact ⟨by kernel_rfl, by rw [show Tryz.prog.types.size = 405 by kernel_rfl]; decide⟩
  · exact ⟨by kernel_rfl, by rw [show Tryz.prog.types.size = 405 by kernel_rfl]; decide⟩
abbrev wit1 : Value := .agg #[.slice none 0 0]
abbrev wit : Array Value := #[wit1, iv 0, sv ⟨#[]⟩]
theorem reads (os : Os) {H : Type} (enc : TypeId × Value → H) : ∃ ds places, DataW.whole enc Tryz.prog ((laidWorld os).forCall (fun _ _ => 0) ⟨#[], wit, []⟩).memory Tryz.f3.params.toList Rows.gunStringsSpec.vars false wit.toList 8 = some (ds, [], places) :=
  ⟨[.agg [.nil], .lit (.int .i64 0), .lit (.string [])], [], by kernel_rfl⟩
set_option maxRecDepth 100000 in
theorem lifted (os : Os) (started : os.Started) (H : Type) (enc : TypeId × Value → H) (F : Stop.Interp) :
    ReturnsInHanded {} Tryz.checked os 3 .any ((OpenSpec.ofChange Rows.gunStringsSpec).preRow enc Tryz.prog Tryz.f3 Rows.gunStringsRow.domain false Rows.gunStringsRow.laid) (((OpenSpec.ofChange Rows.gunStringsSpec).at F).post enc Tryz.prog Tryz.f3 false true false false) := by
  obtain ⟨ds, places, hx⟩ := reads os enc
  refine returnsInHanded_of_row (C := Tryz.checked) (s := OpenSpec.ofChange Rows.gunStringsSpec) own started (by kernel_rfl) Tryz.func3
    (witness_row_at (enc := enc) (C := Tryz.checked) false (laidWorld os) wit rfl (by kernel_rfl) (by kernel_rfl) (by kernel_rfl)
      (OpenSpec.preRow_of_cond 8 hx (by kernel_rfl) (fun k hk => by cases hk) (by kernel_rfl) (laid_met3' os _ _ _))) ?_
  intro W base args ds gs before hval hW _ _ _ hL _ _
  exact contract H enc W base args ds gs before hval hW hL
end gunStrings
end Go.Proofs.YtndlfijfjglkdaaGreatDoor

namespace Go.Proofs.YtndlfijfjglkdaaGreatDoor
open Go Go.Ab Go.Proofs
theorem cv823 (n : Int) : runP Tryz.prog (convert 82 3 (.int .i8 n)) = some (.int .i64 (IntKind.i64.wrap n)) := by kernel_rfl
theorem build90 {fr : Fr} {H : Heap} {n : Nat} {x y : Operand} {a b : Int} (hx : evO Tryz.prog fr x = some (iv a)) (hy : evO Tryz.prog fr y = some (iv b)) : opBuild Tryz.prog 90 #[(0, x), (1, y)] fr H n = some (.agg #[iv a, iv b], H, n) := by
  unfold opBuild
  simp only [evPs_cons, evPs_nil, hx, hy]
  kernel_rfl
theorem build90n {fr : Fr} {H : Heap} {n : Nat} : opBuild Tryz.prog 90 #[] fr H n = some (.agg #[iv 0, iv 0], H, n) := by kernel_rfl
theorem unop_neg {o : Operand} {fr : Fr} {H : Heap} {n : Nat} {a : Int} (h : evO Tryz.prog fr o = some (iv a)) : opUnop Tryz.prog .neg o fr H n = some (iv (IntKind.i64.wrap (0 - a)), H, n) := by
  have hr : runP Tryz.prog (Op.unary .neg (iv a)) = some (iv (IntKind.i64.wrap (0 - a))) := by kernel_rfl
  unfold opUnop
  rw [h]
  show (if afq (iv a) = true then (runP Tryz.prog (Op.unary .neg (iv a))).bind fun v => if afq v = true then some (v, H, n) else none else none) = _
  rw [if_pos (show afq (iv a) = true from rfl), hr]
  rfl
abbrev iv8 (n : Int) : Value := .int .i8 n
abbrev vs7 : List Nat := [3, 4, 7, 8, 9, 10, 11, 12, 13, 70, 71, 30, 297, 298]
abbrev B7 (l : List Gun) (o o1 : Nat) (cs1 : List Value) : Heap := [(11, .inp o1 cs1), (10, .inp o (gcs l)), (3, .inp 0 tab3), (0, .inp 0 names0)]
abbrev X7 (l : List Gun) (o c o1 : Nat) (cs1 : List Value) (bx bY : Int) (shs : List Int) : Heap := (14, .ext (shs.map iv) 3 1) :: (13, .cells [iv8 bx, iv8 bY] 83) :: (12, .cells [.slice (some ⟨10, o, none⟩) l.length c] 24) :: B7 l o o1 cs1
abbrev F7 (shs : List Int) (d : ByteArray) (W : Nat) : Fr := [(3, .pointer (some ⟨12, 0, none⟩)), (4, .pointer (some ⟨13, 0, none⟩)), (7, sv d), (8, iv W), (9, .slice (some ⟨14, 0, some 0⟩) shs.length 0)]
abbrev P7 : Fr := [(10, .pointer (some ⟨19, 0, none⟩)), (11, .pointer (some ⟨20, 0, none⟩)), (12, .pointer (some ⟨21, 0, none⟩)), (13, .pointer (some ⟨22, 0, none⟩))]
abbrev Y7 (l k1 k2 k3 k4 : List Gun) (X : Heap) : Heap := (22, .cells [.slice (some ⟨18, 0, some 0⟩) l.length 0] 32) :: (21, .cells [.slice (some ⟨17, 0, some 0⟩) l.length 0] 32) :: (20, .cells [.slice (some ⟨16, 0, some 0⟩) l.length 0] 32) :: (19, .cells [.slice (some ⟨15, 0, some 0⟩) l.length 0] 32) :: (18, .ext (gcs k4) 95 7) :: (17, .ext (gcs k3) 95 7) :: (16, .ext (gcs k2) 95 7) :: (15, .ext (gcs k1) 95 7) :: X
def SA7 (l : List Gun) (o c o1 : Nat) (cs1 : List Value) (bx bY : Int) (shs : List Int) (d : ByteArray) (W : Nat) : St := { fr := F7 shs d W, sz := 330, H := X7 l o c o1 cs1 bx bY shs, n := 15, marks := [], vs := vs7 }
def SL7 (l : List Gun) (o c o1 : Nat) (cs1 : List Value) (bx bY : Int) (shs : List Int) (d : ByteArray) (W i : Nat) : St := { fr := F7 shs d W ++ P7 ++ [(70, iv l.length), (71, iv i)], sz := 330, H := Y7 l (mapTo (mvG bx bY) l i) (mapTo mrG l i) (mapTo ltG l i) (mapTo flG l i) (X7 l o c o1 cs1 bx bY shs), n := 23, marks := [], vs := vs7 }
def SC7 (l k1 k2 k3 k4 : List Gun) (o c o1 : Nat) (cs1 : List Value) (bx bY : Int) (shs : List Int) (d : ByteArray) (W : Nat) (rf : Fr) (rh : Heap) : St := { fr := F7 shs d W ++ P7 ++ rf, sz := 330, H := rh ++ Y7 l k1 k2 k3 k4 (X7 l o c o1 cs1 bx bY shs), n := 23 + rh.length, marks := [], vs := vs7 }
set_option maxRecDepth 100000 in
set_option maxHeartbeats 4000000 in
theorem w7 (l : List Gun) (bx bY : Int) (a1 : Option Addr) (m1 c1 : Nat) (ns : List Int) (nd nw : Int) (o c o1 : Nat) (cs1 : List Value) (hl63 : l.length < 2 ^ 63)
    (hx : -128 ≤ bx ∧ bx ≤ 127) (hy : -128 ≤ bY ∧ bY ≤ 127) (hnd : 0 ≤ nd ∧ nd ≤ 255) (hnw : 0 ≤ nw ∧ nw ≤ 255) (hns : ∀ x ∈ ns, 0 ≤ x ∧ x ≤ 255)
    (hu : m1 ≤ 8 → ∀ G : Heap, hget G 11 = some (.inp o1 cs1) → u8W G (.slice a1 m1 c1) = some ns) (r1 : ∀ olds, renL (rnm 12 olds) cs1 = cs1) (c1s : ∀ p : Nat → Prop, scL p cs1) :
    AC Tryz.prog 7 [.agg ⟨[.slice (some ⟨10, o, none⟩) l.length c]⟩, .agg ⟨[iv8 bx, iv8 bY]⟩, .agg ⟨[.slice a1 m1 c1, bv nd, bv nw]⟩] (B7 l o o1 cs1) 12 (.bool true) (B7 l o o1 cs1) 12 := by
  have hr := recT_ok (P := Tryz.prog) (l := [(18, g18), (52, gStr fun l => .bool (validB l)), (53, g53), (54, g54), (21, g21), (55, g55), (24, gStr fun l => iv (strE l)), (42, g42), (41, g41), (22, gStrR cenR), (56, g56')]) (by simp only [List.forall_mem_cons]; exact ⟨ok18, ok52, ok53, ok54, ok21, ok55, ok24, ok42, ok41, ok22, ok56', by simp⟩)
  have hsat : ∀ G : Heap, hget G 10 = some (.inp o (gcs l)) → strAt G (.agg ⟨[.slice (some ⟨10, o, none⟩) l.length c]⟩) = some l := fun G hG => by
    unfold strAt gunsAt
    simp [hG, List.take_of_length_le, gunsOf_gcs, show l.length < 9223372036854775808 by omega]
  refine AC.pure Tryz.func7 rfl (by kernel_rfl) rfl vs7 rfl ?_
  refine E.seq ?_
  refine E.reg hr (by simp; rfl) ?_ -- region 0
  refine E.seq ?_
  refine E.seq ?_
  cases hvb : validB l with
  | false =>
    refine E.reg hr (by simp [g18, gStr, hsat, hvb, undefV]; rfl) ?_ -- region 1
    refine E.cond (by rfl) (fun h => ?_) (fun h => ?_)
    · refine E.seq ?_
      refine E.reg hr (by simp [g18]; rfl) ?_ -- region 2
      refine E.ret ?_
      exact pureK.ret rfl rfl (by simp) (by repeat first | exact sub_refl _ | refine sub_cons rfl ?_)
    · simp at h
  | true =>
  by_cases hm8 : (8 : Int) < (m1 : Int)
  · refine E.reg hr (by simp [g18, gStr, hsat, hvb, hm8]; rfl) ?_ -- region 1
    refine E.cond (by rfl) (fun h => ?_) (fun h => ?_)
    · refine E.seq ?_
      refine E.reg hr (by simp [g18]; rfl) ?_ -- region 2
      refine E.ret ?_
      exact pureK.ret rfl rfl (by simp) (by repeat first | exact sub_refl _ | refine sub_cons rfl ?_)
    · simp at h
  refine E.reg hr (by simp [g18, gStr, hsat, hvb, hm8]; rfl) ?_ -- region 1
  refine E.cond (by rfl) (fun h => ?_) (fun h => ?_)
  · simp at h
  refine E.skip ?_
  have hu := hu (by omega)
  obtain ⟨⟨_, h6⟩, hst⟩ : (shortS l = true ∧ l.length ≤ 6) ∧ strE l = 0 := by simpa [validB] using hvb
  have h1 := (strE_len hst).1
  have hl0 : l ≠ [] := fun e => by subst e; simp at h1
  have hl9 : l.length ≤ 4096 := by omega
  obtain ⟨shs, hshs⟩ : ∃ shs, shs = shL l ns := ⟨_, rfl⟩
  have hshe : shE l shs = 0 := by rw [hshs]; exact shL_ok hst hns
  have hshl : shs.length = l.length := (shE_zero hshe).1
  obtain ⟨d, hdd⟩ : ∃ d, d = dN nd := ⟨_, rfl⟩
  have hd : hasW d dirs = true := by rw [hdd]; exact dN_dir nd
  obtain ⟨nn, rfl⟩ := Int.eq_ofNat_of_zero_le hnw.1
  obtain ⟨W, hW⟩ : ∃ W : Nat, W = 1 + nn % 32 := ⟨_, rfl⟩
  have hW1 : 1 ≤ W ∧ W ≤ 32 := by omega
  have hwn : IntKind.i64.wrap (nn : Int) = nn := W_in (by omega) (by omega)
  have hmod : (nn : Int).tmod 32 = (nn : Int) % 32 := Int.tmod_eq_emod_of_nonneg hnw.1
  have hww : IntKind.i64.wrap (1 + (nn : Int) % 32) = (W : Int) := by rw [W_in (by omega) (by omega)]; omega
  have hnsT : (∀ x, x ∈ ns → 0 ≤ x ∧ x ≤ 255) = True := eq_true hns
  refine E.cut (SA7 l o c o1 cs1 bx bY shs d W) ?_ ?_
  · refine E.drawC mixed hr [] [2, 11] [1, 2, 11] (by kernel_rfl) (by simp [g53, hnd, ← hdd, opConvert, cv53, hwn, bin_rem (show (32 : Int) ≠ 0 by decide), hmod, hww, g54, hsat, hu, hst, hnsT, ← hshs]; rfl) ?_ -- region 3
    exact Leads.ren [12, 13, 15] rfl rfl rfl ⟨rfl, rfl⟩ (by simp [SA7]) (by simp [SA7, r1, c1s])
  refine E.seq ?_
  refine E.drawC mixed hr [12, 13, 14, 15] [1, 3, 5, 7, 8, 9, 10, 11, 12, 13, 14, 15] [0, 1, 3, 5, 7, 12, 13, 14, 15] (by kernel_rfl) (by simp [SA7, g21, hsat, hl0, hl9]; rfl) ?_ -- region 4
  refine E.seq ?_
  refine E.seq ?_
  refine E.reg hr (by simp; rfl) ?_ -- region 5
  refine E.block ?_ -- 0
  refine E.loop ?_
  refine EL.ind (SL7 l o c o1 cs1 bx bY shs d W) (fun i => l.length - i) (fun i => i ≤ l.length) 0 (.less rfl rfl rfl (by simp [SL7]) (by simp [SL7])) (Nat.zero_le _) (fun _ => rfl) ?_
  intro i hi
  refine E.seq ?_
  refine E.reg hr (by simp [SL7]; rfl) ?_ -- region 6
  refine E.seq ?_
  refine E.cond (by rfl) (fun h => ?_) (fun h => ?_)
  · simp at h
    have hw : IntKind.i64.wrap ((i : Int) + 1) = (i : Int) + 1 := W_in (by omega) (by omega)
    have hiI : (i : Int) < l.length := by omega
    have hwx : IntKind.i64.wrap bx = bx := W_in (by omega) (by omega)
    have hwy : IntKind.i64.wrap bY = bY := W_in (by omega) (by omega)
    have c2 : i * 7 + 2 < l.length * 7 := by omega
    have c23 : i * 7 + 2 + 1 ≤ l.length * 7 := by omega
    have c41 : i * 7 + 4 + 1 ≤ l.length * 7 := by omega
    have c22 : i * 7 + 2 + 2 ≤ l.length * 7 := by omega
    have c3 : i * 7 + 3 < l.length * 7 := by omega
    have c4 : i * 7 + 4 < l.length * 7 := by omega
    have hxE := gcs_xE h (by simp; omega)
    have hyE := gcs_yE h (by simp; omega)
    have o2 : o ≤ o + i * 7 + 2 := by omega
    have o3 : o + i * 7 + 2 - o = i * 7 + 2 := by omega
    have o4 : o ≤ o + i * 7 + 3 := by omega
    have o5 : o + i * 7 + 3 - o = i * 7 + 3 := by omega
    have q1 := mapTo_length (f := mvG bx bY) hi
    have q2 := mapTo_length (f := mrG) hi
    have q3 := mapTo_length (f := ltG) hi
    have q4 := mapTo_length (f := flG) hi
    have s1 := gcs_setXY (k := mapTo (mvG bx bY) l i) (i := i) (by omega) (IntKind.i64.wrap (l[i].x + bx)) (IntKind.i64.wrap (l[i].y + bY))
    have s2 := gcs_setX (k := mapTo mrG l i) (i := i) (by omega) (IntKind.i64.wrap (-l[i].x))
    have s3 := gcs_setD (k := mapTo ltG l i) (i := i) (by omega) (IntKind.i64.wrap (l[i].d + 1))
    have s4 := gcs_setXY (k := mapTo flG l i) (i := i) (by omega) 0 0
    have t3 := gcs_dE (l := mapTo ltG l i) (i := i) (by omega) (by simp; omega)
    rw [mapTo_get h] at s1 s2 s3 s4 t3
    have u1 := mapTo_succ (f := mvG bx bY) h
    have u2 := mapTo_succ (f := mrG) h
    have u3 := mapTo_succ (f := ltG) h
    have u4 := mapTo_succ (f := flG) h
    rw [show ({ l[i] with x := IntKind.i64.wrap (l[i].x + bx), y := IntKind.i64.wrap (l[i].y + bY) } : Gun) = mvG bx bY l[i] from rfl, u1] at s1
    rw [show ({ l[i] with x := IntKind.i64.wrap (-l[i].x) } : Gun) = mrG l[i] from rfl, u2] at s2
    rw [show ({ l[i] with d := IntKind.i64.wrap (l[i].d + 1) } : Gun) = ltG l[i] from rfl, u3] at s3
    rw [show ({ l[i] with x := 0, y := 0 } : Gun) = flG l[i] from rfl, u4] at s4
    rw [show i * 7 + 4 = i * 7 + 2 + 2 from rfl] at s1 s4
    rw [show i * 7 + 3 = i * 7 + 2 + 1 from rfl] at s2
    rw [show i * 7 + 5 = i * 7 + 4 + 1 from rfl] at s3
    refine E.skip ?_
    refine E.seq ?_
    refine E.block ?_ -- 1
    refine E.seq ?_
    refine E.reg hr (by simp; rfl) ?_ -- region 7
    refine E.seq ?_
    refine E.drawC mixed hr [28] [28] [1, 4, 9, 11, 12, 15, 20, 22, 23, 28] (by kernel_rfl) (by simp [hiI, h, c2, c3, hxE, hyE, o2, o3, o4, o5, opConvert, cv823, hwx, hwy, build90, q1, c22]; rfl) ?_ -- region 8
    refine E.seq ?_
    refine E.drawC mixed hr [14] [14] [1, 4, 9, 14] (by kernel_rfl) (by simp [hiI, c2, hxE, o2, o3, q2, c23, unop_neg]; rfl) ?_ -- region 9
    refine E.seq ?_
    refine E.reg hr (by simp [hiI, c4, c41, q3, t3]; rfl) ?_ -- region 10
    refine E.reg hr (by simp [hiI, build90n, q4, c22]; rfl) ?_ -- region 11
    refine E.reg hr (by simp [hw]; rfl) ?_ -- region 12
    exact ⟨i + 1, .less rfl rfl rfl (by simp [SL7]) (by simp [SL7, s1, s2, s3, s4]), h, by dsimp only; omega⟩
  · simp at h
    obtain rfl : i = l.length := by omega
    obtain ⟨k1, hk1⟩ : ∃ k1, k1 = l.map (mvG bx bY) := ⟨_, rfl⟩
    obtain ⟨k2, hk2⟩ : ∃ k2, k2 = l.map mrG := ⟨_, rfl⟩
    obtain ⟨k3, hk3⟩ : ∃ k3, k3 = l.map ltG := ⟨_, rfl⟩
    obtain ⟨k4, hk4⟩ : ∃ k4, k4 = l.map flG := ⟨_, rfl⟩
    have lk1 : k1.length = l.length := by rw [hk1, List.length_map]
    have lk2 : k2.length = l.length := by rw [hk2, List.length_map]
    have lk3 : k3.length = l.length := by rw [hk3, List.length_map]
    have lk4 : k4.length = l.length := by rw [hk4, List.length_map]
    have ne : ∀ k : List Gun, k.length = l.length → k ≠ [] := fun k hk e => by subst e; simp at hk; omega
    have n1 := ne k1 lk1
    have n2 := ne k2 lk2
    have n3 := ne k3 lk3
    have n4 := ne k4 lk4
    rw [mapTo_all, mapTo_all, mapTo_all, mapTo_all, ← hk1, ← hk2, ← hk3, ← hk4]
    have fat : ∀ k : List Gun, k.length = l.length → ∀ (t : TypeId) (G : Heap) (b : Nat), hget G b = some (.ext (gcs k) t 7) → strAt G (.agg ⟨[.slice (some ⟨b, 0, some 0⟩) l.length 0]⟩) = some k := fun k hk t G b hG => by
      unfold strAt gunsAt
      rw [← hk]
      simp [hG, List.take_of_length_le, gunsOf_gcs, show k.length < 9223372036854775808 by omega]
    have frow : ∀ k : List Gun, k.length = l.length → ∀ (G : Heap) (b : Nat), hget G b = some (.ext (gcs k) 95 7) → rowGuns G b l.length = some k := fun k hk G b hG => by
      unfold rowGuns rowOf
      rw [hG, ← hk]
      simp [gunsOf_gcs, show k.length < 9223372036854775808 by omega]
    have fl0 := frow l rfl
    have fr1 := frow k1 lk1
    have fr2 := frow k2 lk2
    have fr3 := frow k3 lk3
    have fr4 := frow k4 lk4
    have a5 := fat k1 lk1 95
    have b5 := fat k2 lk2 95
    have c5 := fat k3 lk3 95
    have d5 := fat k4 lk4 95
    have a4 := fat k1 lk1 94
    have b4 := fat k2 lk2 94
    have c4 := fat k3 lk3 94
    have d4 := fat k4 lk4 94
    refine E.exit ?_ -- 0
    by_cases hs1 : strE k1 = 0
    rotate_left
    · refine E.seq ?_
      refine E.seq ?_
      refine E.reg hr (by simp [g55, a5, a4, n1, lk1, hl9, gStr, hs1, undefV]; rfl) ?_ -- region 13
      refine E.cond (by rfl) (fun h => ?_) (fun h => ?_)
      · refine E.seq ?_
        refine E.reg hr (by simp [g18]; rfl) ?_ -- region 14
        refine E.ret ?_
        exact pureK.ret rfl rfl (by simp) (by repeat first | exact sub_refl _ | refine sub_cons rfl ?_)
      · simp at h
    by_cases hs3 : strE k3 = 0
    rotate_left
    · refine E.seq ?_
      refine E.seq ?_
      refine E.reg hr (by simp [g55, a5, a4, c5, c4, n1, n3, lk1, lk3, hl9, gStr, hs1, hs3]; rfl) ?_ -- region 13
      refine E.cond (by rfl) (fun h => ?_) (fun h => ?_)
      · refine E.seq ?_
        refine E.reg hr (by simp [g18]; rfl) ?_ -- region 14
        refine E.ret ?_
        exact pureK.ret rfl rfl (by simp) (by repeat first | exact sub_refl _ | refine sub_cons rfl ?_)
      · simp at h
    refine E.cut (SC7 l k1 k2 k3 k4 o c o1 cs1 bx bY shs d W [] []) ?_ ?_
    · refine E.seq ?_
      refine E.reg hr (by simp [g55, a5, a4, c5, c4, n1, n3, lk1, lk3, hl9, gStr, hs1, hs3]; rfl) ?_ -- region 13
      refine E.cond (by rfl) (fun h => ?_) (fun h => ?_)
      · simp at h
      refine E.skip ?_
      exact Leads.ren [12, 13, 14, 15, 16, 17, 18, 19, 20, 21, 22] rfl rfl rfl ⟨rfl, rfl⟩ (by simp [SC7]) (by simp [SC7, r1, c1s])
    -- what the six signatures are
    have hs2 : strE k2 = 0 := by rw [hk2]; exact mr_ok hst
    have hs4 : strE k4 = 0 := by rw [hk4]; exact fl_ok hst
    have e1 : shE k1 shs = 0 := by rw [hk1, shE_map (f := mvG bx bY) (fun _ => rfl) (fun _ => rfl)]; exact hshe
    have e2 : shE k2 shs = 0 := by rw [hk2, shE_map (f := mrG) (fun _ => rfl) (fun _ => rfl)]; exact hshe
    have e3 : shE k3 shs = 0 := by rw [hk3, shE_map (f := ltG) (fun _ => rfl) (fun _ => rfl)]; exact hshe
    have e4 : shE k4 shs = 0 := by rw [hk4, shE_map (f := flG) (fun _ => rfl) (fun _ => rfl)]; exact hshe
    have hdn : hasW (dOf 229) dirs = true := by kernel_rfl
    have hod : hasW (oppD d) dirs = true := opp_dir hd
    have sg0 : ∀ (k : List Gun) (dd : ByteArray), strE k = 0 → shE k shs = 0 → hasW dd dirs = true → sigE k shs dd (W : Int) = 0 := fun k dd h1 h2 h3 => by
      unfold sigE
      rw [if_pos h1]
      refine (firstV_zero _).2 fun x hx => ?_
      simp only [List.mem_cons, List.not_mem_nil, or_false] at hx
      rcases hx with rfl | rfl | rfl
      · exact h2
      · simp [dirE, h3]
      · exact (withinV_zero _ _ _).2 (by omega)
    have g0 := sg0 l d hst hshe hd
    have g1 := sg0 k1 d hs1 e1 hd
    have g2 := sg0 k2 (oppD d) hs2 e2 hod
    have g3 := sg0 k3 d hs3 e3 hd
    have g4 := sg0 k4 (dOf 229) hs4 e4 hdn
    have g5 := sg0 l (dOf 229) hst hshe hdn
    obtain ⟨sg, hsg⟩ : ∃ sg, sg = sigN l shs d W l.length := ⟨_, rfl⟩
    obtain ⟨sf, hsf⟩ : ∃ sf, sf = sigN l shs (dOf 229) W l.length := ⟨_, rfl⟩
    have p0 : sigN l shs d W l.length = sg := hsg.symm
    have p5 : sigN l shs (dOf 229) W l.length = sf := hsf.symm
    have p1 : sigN k1 shs d W l.length = sg := by
      rw [hsg, ← sig_same (f := mvG bx bY) hst hshe (hk1 ▸ hs1) (hk1 ▸ e1) (fun _ => rfl) (mv_arr hst hx hy (hk1 ▸ hs1) hd) W, hk1, List.length_map]
    have p2 : sigN k2 shs (oppD d) W l.length = sg := by
      rw [hsg, ← sig_same (f := mrG) hst hshe (hk2 ▸ hs2) (hk2 ▸ e2) (fun _ => rfl) (mr_arr hst hd) W, hk2, List.length_map]
    have p3 : sigN k3 shs d W l.length = 0 :: sg.take (W - 1) := by
      rw [hsg, ← sig_later (f := ltG) hst hshe (hk3 ▸ hs3) (hk3 ▸ e3) (fun _ => rfl) (lt_arr hst d) hW1.1, hk3, List.length_map]
    have p4 : sigN k4 shs (dOf 229) W l.length = sf := by
      rw [hsf, ← sig_same (f := flG) hst hshe (hk4 ▸ hs4) (hk4 ▸ e4) (fun _ => rfl) (fl_arr hst) W, hk4, List.length_map]
    have sm0 := sig_samp hst hshe d (w := (W : Int)) (by omega)
    have sm5 := sig_samp hst hshe (dOf 229) (w := (W : Int)) (by omega)
    rw [Int.toNat_natCast, p0] at sm0
    rw [Int.toNat_natCast, p5] at sm5
    obtain ⟨R, hR⟩ : ∃ R, R = sg.map sampB := ⟨_, rfl⟩
    obtain ⟨S, hS⟩ : ∃ S, S = sf.map sampB := ⟨_, rfl⟩
    obtain ⟨T, hT⟩ : ∃ T, T = R.take (W - 1) := ⟨_, rfl⟩
    have hRl : R.length = W := by rw [hR, List.length_map, hsg]; simp
    have hSl : S.length = W := by rw [hS, List.length_map, hsf]; simp
    have hTl : T.length = W - 1 := by rw [hT, List.length_take, hRl]; omega
    have hR' := hR.symm
    have hS' := hS.symm
    have hC : (0 :: sg.take (W - 1)).map sampB = 0 :: T := by
      rw [List.map_cons, List.map_take, hR', hT, show sampB 0 = 0 by kernel_rfl]
    have ordR : ∀ x ∈ R, FloatKind.f32.format.order x x = some .eq := fun x hx => by
      rw [hR] at hx
      obtain ⟨y, hy, rfl⟩ := List.mem_map.1 hx
      exact (samp_ok (sm0.2.2 y hy).1 (sm0.2.2 y hy).2).2
    have ordS : ∀ x ∈ S, FloatKind.f32.format.order x x = some .eq := fun x hx => by
      rw [hS] at hx
      obtain ⟨y, hy, rfl⟩ := List.mem_map.1 hx
      exact (samp_ok (sm5.2.2 y hy).1 (sm5.2.2 y hy).2).2
    have hsn : shs ≠ [] := fun e => by rw [e] at hshl; simp at hshl; omega
    have hs9 : shs.length ≤ 4096 := by omega
    have hin : ∀ (G : Heap) (b : Nat), hget G b = some (.ext (shs.map iv) 3 1) → intsAt G ⟨b, 0, some 0⟩ shs.length = some shs := fun G b hG => by
      unfold intsAt
      simp [hG, List.take_of_length_le, intsOf_iv, show shs.length < 2147483648 by omega]
    refine E.seq ?_
    refine E.reg hr (by simp [SC7]; rfl) ?_ -- region 15
    refine E.cut (SC7 l k1 k2 k3 k4 o c o1 cs1 bx bY shs d W [(15, sv (oppD d))] []) ?_ ?_
    · by_cases c1 : d = dOf 230
      · have c1' : d = ⟨#[102, 111, 114, 101]⟩ := c1
        have co : oppD ⟨#[102, 111, 114, 101]⟩ = ⟨#[97, 102, 116]⟩ := by kernel_rfl
        refine E.seq ?_
        refine E.reg hr (by simp [c1']; rfl) ?_ -- region 16
        refine E.cond (by rfl) (fun h => ?_) (fun h => ?_)
        rotate_left
        · simp at h
        refine E.reg hr (by simp; rfl) ?_ -- region 17
        exact Leads.less rfl rfl rfl (by simp [SC7, co, c1']) (by simp [SC7])
      by_cases c2 : d = dOf 231
      · have c1' : ¬ d = ⟨#[102, 111, 114, 101]⟩ := c1
        have c2' : d = ⟨#[97, 102, 116]⟩ := c2
        have co : oppD ⟨#[97, 102, 116]⟩ = ⟨#[102, 111, 114, 101]⟩ := by kernel_rfl
        refine E.seq ?_
        refine E.reg hr (by simp [c1']; rfl) ?_ -- region 16
        refine E.cond (by rfl) (fun h => ?_) (fun h => ?_)
        · simp at h
        refine E.seq ?_
        refine E.reg hr (by simp [c2']; rfl) ?_ -- region 18
        refine E.cond (by rfl) (fun h => ?_) (fun h => ?_)
        rotate_left
        · simp at h
        refine E.reg hr (by simp; rfl) ?_ -- region 19
        exact Leads.less rfl rfl rfl (by simp [SC7, co, c2']) (by simp [SC7])
      · have c1' : ¬ d = ⟨#[102, 111, 114, 101]⟩ := c1
        have c2' : ¬ d = ⟨#[97, 102, 116]⟩ := c2
        have co : oppD d = d := by unfold oppD; rw [if_neg c1, if_neg c2]
        refine E.seq ?_
        refine E.reg hr (by simp [c1']; rfl) ?_ -- region 16
        refine E.cond (by rfl) (fun h => ?_) (fun h => ?_)
        · simp at h
        refine E.seq ?_
        refine E.reg hr (by simp [c2']; rfl) ?_ -- region 18
        refine E.cond (by rfl) (fun h => ?_) (fun h => ?_)
        · simp at h
        refine E.skip ?_
        exact Leads.less rfl rfl rfl (by simp [SC7, co]) (by simp [SC7])
    have g4' : sigE k4 shs ⟨#[100, 111, 119, 110]⟩ (W : Int) = 0 := g4
    have g5' : sigE l shs ⟨#[100, 111, 119, 110]⟩ (W : Int) = 0 := g5
    have p4' : sigN k4 shs ⟨#[100, 111, 119, 110]⟩ W l.length = sf := p4
    have p5' : sigN l shs ⟨#[100, 111, 119, 110]⟩ W l.length = sf := p5
    refine E.cut (SC7 l k1 k2 k3 k4 o c o1 cs1 bx bY shs d W [(15, sv (oppD d)), (16, .slice (some ⟨23, 0, some 0⟩) W 0), (17, iv 0)] [(23, .ext (R.map fv) 98 1)]) ?_ ?_
    · refine E.reg hr (by simp [SC7, g21, g42, intsW, hin, hsn, hs9, g41, strR, h1, gSig, hsat, hl0, hl9, fl0, g0, p0, hR']; rfl) ?_ -- region 20
      exact Leads.ren [12, 13, 14, 15, 16, 17, 18, 19, 20, 21, 22, 25] rfl rfl rfl ⟨rfl, rfl⟩ (by simp [SC7]) (by simp [SC7, r1, c1s])
    refine E.cut (SC7 l k1 k2 k3 k4 o c o1 cs1 bx bY shs d W [(15, sv (oppD d)), (16, .slice (some ⟨23, 0, some 0⟩) W 0), (17, iv 0), (18, .slice (some ⟨24, 0, some 0⟩) W 0), (19, iv 0)] [(24, .ext (R.map fv) 98 1), (23, .ext (R.map fv) 98 1)]) ?_ ?_
    · refine E.reg hr (by simp [SC7, g55, g21, g42, intsW, hin, hsn, hs9, hl9, g41, strR, h1, gSig, a5, a4, n1, lk1, fr1, g1, p1, hR']; rfl) ?_ -- region 21
      exact Leads.ren [12, 13, 14, 15, 16, 17, 18, 19, 20, 21, 22, 23, 27] rfl rfl rfl ⟨rfl, rfl⟩ (by simp [SC7]) (by simp [SC7, r1, c1s])
    refine E.cut (SC7 l k1 k2 k3 k4 o c o1 cs1 bx bY shs d W [(15, sv (oppD d)), (16, .slice (some ⟨23, 0, some 0⟩) W 0), (17, iv 0), (18, .slice (some ⟨24, 0, some 0⟩) W 0), (19, iv 0), (20, .slice (some ⟨25, 0, some 0⟩) W 0), (21, iv 0)] [(25, .ext (R.map fv) 98 1), (24, .ext (R.map fv) 98 1), (23, .ext (R.map fv) 98 1)]) ?_ ?_
    · refine E.reg hr (by simp [SC7, g55, g21, g42, intsW, hin, hsn, hs9, hl9, g41, strR, h1, gSig, b5, b4, n2, lk2, fr2, g2, p2, hR']; rfl) ?_ -- region 22
      exact Leads.ren [12, 13, 14, 15, 16, 17, 18, 19, 20, 21, 22, 23, 24, 28] rfl rfl rfl ⟨rfl, rfl⟩ (by simp [SC7]) (by simp [SC7, r1, c1s])
    refine E.cut (SC7 l k1 k2 k3 k4 o c o1 cs1 bx bY shs d W [(15, sv (oppD d)), (16, .slice (some ⟨23, 0, some 0⟩) W 0), (17, iv 0), (18, .slice (some ⟨24, 0, some 0⟩) W 0), (19, iv 0), (20, .slice (some ⟨25, 0, some 0⟩) W 0), (21, iv 0), (22, .slice (some ⟨26, 0, some 0⟩) W 0), (23, iv 0)] [(26, .ext ((0 :: T).map fv) 98 1), (25, .ext (R.map fv) 98 1), (24, .ext (R.map fv) 98 1), (23, .ext (R.map fv) 98 1)]) ?_ ?_
    · refine E.reg hr (by simp [SC7, g55, g21, g42, intsW, hin, hsn, hs9, hl9, g41, strR, h1, gSig, c5, c4, n3, lk3, fr3, g3, p3, hC]; rfl) ?_ -- region 23
      exact Leads.ren [12, 13, 14, 15, 16, 17, 18, 19, 20, 21, 22, 23, 24, 25, 29] rfl rfl rfl ⟨rfl, rfl⟩ (by simp [SC7]) (by simp [SC7, r1, c1s])
    refine E.cut (SC7 l k1 k2 k3 k4 o c o1 cs1 bx bY shs d W [(15, sv (oppD d)), (16, .slice (some ⟨23, 0, some 0⟩) W 0), (17, iv 0), (18, .slice (some ⟨24, 0, some 0⟩) W 0), (19, iv 0), (20, .slice (some ⟨25, 0, some 0⟩) W 0), (21, iv 0), (22, .slice (some ⟨26, 0, some 0⟩) W 0), (23, iv 0), (24, .slice (some ⟨27, 0, some 0⟩) W 0), (25, iv 0)] [(27, .ext (S.map fv) 98 1), (26, .ext ((0 :: T).map fv) 98 1), (25, .ext (R.map fv) 98 1), (24, .ext (R.map fv) 98 1), (23, .ext (R.map fv) 98 1)]) ?_ ?_
    · refine E.reg hr (by simp [SC7, g55, g21, g42, intsW, hin, hsn, hs9, hl9, g41, strR, h1, gSig, d5, d4, n4, lk4, fr4, g4', p4', hS']; rfl) ?_ -- region 24
      exact Leads.ren [12, 13, 14, 15, 16, 17, 18, 19, 20, 21, 22, 23, 24, 25, 26, 30] rfl rfl rfl ⟨rfl, rfl⟩ (by simp [SC7]) (by simp [SC7, r1, c1s])
    refine E.cut (SC7 l k1 k2 k3 k4 o c o1 cs1 bx bY shs d W [(15, sv (oppD d)), (16, .slice (some ⟨23, 0, some 0⟩) W 0), (17, iv 0), (18, .slice (some ⟨24, 0, some 0⟩) W 0), (19, iv 0), (20, .slice (some ⟨25, 0, some 0⟩) W 0), (21, iv 0), (22, .slice (some ⟨26, 0, some 0⟩) W 0), (23, iv 0), (24, .slice (some ⟨27, 0, some 0⟩) W 0), (25, iv 0), (26, .slice (some ⟨28, 0, some 0⟩) W 0), (27, iv 0)] [(28, .ext (S.map fv) 98 1), (27, .ext (S.map fv) 98 1), (26, .ext ((0 :: T).map fv) 98 1), (25, .ext (R.map fv) 98 1), (24, .ext (R.map fv) 98 1), (23, .ext (R.map fv) 98 1)]) ?_ ?_
    · refine E.reg hr (by simp [SC7, g21, g42, intsW, hin, hsn, hs9, g41, strR, h1, gSig, hsat, hl0, hl9, fl0, g5', p5', hS']; rfl) ?_ -- region 25
      exact Leads.ren [12, 13, 14, 15, 16, 17, 18, 19, 20, 21, 22, 23, 24, 25, 26, 27, 30] rfl rfl rfl ⟨rfl, rfl⟩ (by simp [SC7]) (by simp [SC7, r1, c1s])
    obtain ⟨V, rfl⟩ : ∃ V, W = V + 1 := ⟨W - 1, by omega⟩
    have hTV : T = R.take V := hT
    have hTl' : T.length = V := hTl
    have htn : ((V : Int) + 1).toNat = V + 1 := by omega
    have hwV : IntKind.i64.wrap (V : Int) = V := W_in (by omega) (by omega)
    have ordT : ∀ x ∈ T, FloatKind.f32.format.order x x = some .eq := fun x hx => ordR x (List.mem_of_mem_take (hTV ▸ hx))
    have oR := eq_true ordR
    have oS := eq_true ordS
    have oT := eq_true ordT
    have fR : ∀ (G : Heap) (b : Nat), hget G b = some (.ext (R.map fv) 98 1) → fltsAt G ⟨b, 0, some 0⟩ (V + 1) = some R := fun G b hG => fltsAt_fv rfl (by simp [hG, hRl]; exact List.take_of_length_le (by simp [hRl])) (by omega)
    have fS : ∀ (G : Heap) (b : Nat), hget G b = some (.ext (S.map fv) 98 1) → fltsAt G ⟨b, 0, some 0⟩ (V + 1) = some S := fun G b hG => fltsAt_fv rfl (by simp [hG, hSl]; exact List.take_of_length_le (by simp [hSl])) (by omega)
    have fT : ∀ (G : Heap) (b : Nat), hget G b = some (.ext (R.map fv) 98 1) → fltsAt G ⟨b, 0, some 0⟩ V = some T := fun G b hG => fltsAt_fv rfl (by simp [hG, hRl, hTV, List.map_take]) (by omega)
    have fC : ∀ (G : Heap) (b : Nat), hget G b = some (.ext (fv 0 :: T.map fv) 98 1) → fltsAt G ⟨b, 1, some 0⟩ V = some T := fun G b hG => flts_tail hTl' (by omega) hG
    have ho0 : (FloatKind.f32.format.order 0 0 != some Ordering.eq) = false := by kernel_rfl
    refine E.cut (SC7 l k1 k2 k3 k4 o c o1 cs1 bx bY shs d (V + 1) [] []) ?_ ?_
    · by_cases hV : V = 0
      · subst hV
        refine E.seq ?_
        refine E.drawC mixed hr [37, 43, 49, 65] [37, 43, 49, 65] [37, 43, 49, 55, 60, 64, 65] (by kernel_rfl) (by simp [SC7, g56_pos, g56_nil, g56, fR, fS, oR, oS, hRl, hTl', ho0, slice_tail0, show IntKind.i64.wrap 0 = 0 from W_in (by omega) (by omega), slice_front (k := 0) (m := 23) (cs := R.map fv)]; rfl) ?_ -- region 26
        refine E.cond (by rfl) (fun h => ?_) (fun h => ?_)
        · simp at h
        refine E.skip ?_
        exact Leads.ren [12, 13, 14, 15, 16, 17, 18, 19, 20, 21, 22] rfl rfl rfl ⟨rfl, rfl⟩ (by simp [SC7]) (by simp [SC7, r1, c1s])
      · have hV1 : 1 < V + 1 := by omega
        have hV0 : 0 < V := by omega
        refine E.seq ?_
        refine E.drawC mixed hr [37, 43, 49, 65] [37, 43, 49, 65] [37, 43, 49, 55, 60, 64, 65] (by kernel_rfl) (by simp [SC7, g56_pos, g56, fR, fS, fT, fC, oR, oS, oT, hRl, hTl', hV, hV0, hwV, ho0, slice_tail (k := V) (m := 26) (cs := fv 0 :: T.map fv), slice_front (k := V) (m := 23) (cs := R.map fv)]; rfl) ?_ -- region 26
        refine E.cond (by rfl) (fun h => ?_) (fun h => ?_)
        · simp at h
        refine E.skip ?_
        exact Leads.ren [12, 13, 14, 15, 16, 17, 18, 19, 20, 21, 22] rfl rfl rfl ⟨rfl, rfl⟩ (by simp [SC7]) (by simp [SC7, r1, c1s])
    -- the centres
    obtain ⟨m1', m2', m3', m4', m5', m6'⟩ := cen_shift hst hx hy (hk1 ▸ hs1)
    rw [← hk1] at m1' m2' m3' m4'
    have hcq : cenQ k1 = [iv (cA l + bx * cB l), iv (cB l), iv (cC l + bY * cD l), iv (cD l)] := by
      show [iv (cA k1), iv (cB k1), iv (cC k1), iv (cD k1)] = _
      rw [m1', m2', m3', m4']
    have hb1 := mul_b hx m5'
    have hb2 := mul_b hy m6'
    obtain ⟨hA, hCb⟩ := cA_bound hst
    have wA1 : IntKind.i64.wrap (bx * cB l) = bx * cB l := W_in (by omega) (by omega)
    have wA2 : IntKind.i64.wrap (cA l + bx * cB l) = cA l + bx * cB l := W_in (by omega) (by omega)
    have wC1 : IntKind.i64.wrap (bY * cD l) = bY * cD l := W_in (by omega) (by omega)
    have wC2 : IntKind.i64.wrap (cC l + bY * cD l) = cC l + bY * cD l := W_in (by omega) (by omega)
    have hwx : IntKind.i64.wrap bx = bx := W_in (by omega) (by omega)
    have hwy : IntKind.i64.wrap bY = bY := W_in (by omega) (by omega)
    have z1 : ¬ cB l < 1 := by omega
    have z2 : ¬ 1000 < cB l := by omega
    have z3 : ¬ cD l < 1 := by omega
    have z4 : ¬ 1000 < cD l := by omega
    refine E.seq ?_
    refine E.reg hr (by simp [SC7, g21, hsat, hl0, hl9, gStrR, fl0, cenR, hst]; rfl) ?_ -- region 28
    refine E.seq ?_
    refine E.reg hr (by simp [g55, a5, a4, n1, lk1, g21, hl9, gStrR, fr1, cenR, hs1]; rfl) ?_ -- region 29
    refine E.seq ?_
    refine E.seq ?_
    refine E.reg hr (by simp; rfl) ?_ -- region 30
    refine E.cond (by rfl) (fun h => ?_) (fun h => ?_)
    · simp at h
    refine E.skip ?_
    refine E.seq ?_
    refine E.seq ?_
    refine E.reg hr (by simp; rfl) ?_ -- region 32
    refine E.block ?_ -- 2
    refine E.loop ?_
    refine EL.ind (fun i : Nat => { fr := [(4, .pointer (some ⟨12, 0, none⟩)), (30, .pointer (some ⟨13, 0, none⟩)), (297, .agg ⟨cenQ l⟩), (298, iv i)], sz := 330, H := (13, .cells [iv (cA l + bx * cB l), iv (cB l), iv (cC l + bY * cD l), iv (cD l)] 36) :: (12, .cells [iv8 bx, iv8 bY] 83) :: B7 l o o1 cs1, n := 14, marks := [], vs := vs7 }) (fun i => 2 - i) (fun i => i ≤ 2) 0 (Leads.ren [13, 27] rfl rfl rfl ⟨rfl, rfl⟩ (by simp) (by simp [r1, c1s, m1', m2', m3', m4'])) (Nat.zero_le _) (fun _ => rfl) ?_
    intro i hi
    rcases (show i = 0 ∨ i = 1 ∨ i = 2 by omega) with rfl | rfl | rfl
    · refine E.seq ?_
      refine E.reg hr (by simp; rfl) ?_ -- region 33
      refine E.seq ?_
      refine E.cond (by rfl) (fun h => ?_) (fun h => ?_)
      rotate_left
      · simp at h
      refine E.skip ?_
      refine E.seq ?_
      refine E.block ?_ -- 3
      refine E.seq ?_
      refine E.reg hr (by simp [cenQ, -opIndex, idx36a (a := cA l) (b := cB l) (c := cC l) (d := cD l)]; rfl) ?_ -- region 34
      refine E.seq ?_
      refine E.drawC mixed hr [] [] [1, 5, 11, 13, 16, 17, 19, 23] (by kernel_rfl) (by simp [z1, z2, wA1, wA2, hwx, opConvert, cv823, build35, neq35]; rfl) ?_ -- region 35
      refine E.cond (by rfl) (fun h => ?_) (fun h => ?_)
      · simp at h
      refine E.skip ?_
      refine E.reg hr (by simp [show IntKind.i64.wrap 1 = 1 from W_in (by omega) (by omega)]; rfl) ?_ -- region 37
      exact ⟨1, Leads.ren [12, 13] rfl rfl rfl ⟨rfl, rfl⟩ (by simp) (by simp [r1, c1s]), by omega, by decide⟩
    · refine E.seq ?_
      refine E.reg hr (by simp; rfl) ?_ -- region 33
      refine E.seq ?_
      refine E.cond (by rfl) (fun h => ?_) (fun h => ?_)
      rotate_left
      · simp at h
      refine E.skip ?_
      refine E.seq ?_
      refine E.block ?_ -- 3
      refine E.seq ?_
      refine E.reg hr (by simp [cenQ, -opIndex, idx36b (a := cA l) (b := cB l) (c := cC l) (d := cD l)]; rfl) ?_ -- region 34
      refine E.seq ?_
      refine E.drawC mixed hr [] [] [1, 5, 11, 13, 16, 17, 19, 23] (by kernel_rfl) (by simp [z3, z4, wC1, wC2, hwy, opConvert, cv823, build35, neq35]; rfl) ?_ -- region 35
      refine E.cond (by rfl) (fun h => ?_) (fun h => ?_)
      · simp at h
      refine E.skip ?_
      refine E.reg hr (by simp [show IntKind.i64.wrap 2 = 2 from W_in (by omega) (by omega)]; rfl) ?_ -- region 37
      exact ⟨2, Leads.ren [12, 13] rfl rfl rfl ⟨rfl, rfl⟩ (by simp) (by simp [r1, c1s]), by omega, by decide⟩
    · refine E.seq ?_
      refine E.reg hr (by simp; rfl) ?_ -- region 33
      refine E.seq ?_
      refine E.cond (by rfl) (fun h => ?_) (fun h => ?_)
      · simp at h
      refine E.exit ?_ -- 2
      refine E.seq ?_
      refine E.reg hr (by simp; rfl) ?_ -- region 38
      refine E.ret ?_
      exact pureK.ret rfl rfl (by simp) (by repeat first | exact sub_refl _ | refine sub_cons rfl ?_)
end Go.Proofs.YtndlfijfjglkdaaGreatDoor
