/-
The law GunSignatures, walked: it returns true for every string of guns, all shifts, every direction and every width.
-/
import Derived.Test.YtndlfijfjglkdaaGreatDoorGa
import Derived.Test.YtndlfijfjglkdaaGreatDoorFa
import Derived.Test.YtndlfijfjglkdaaGreatDoorGd
import Derived.Test.YtndlfijfjglkdaaGreatDoorGc
import Derived.Test.YtndlfijfjglkdaaGreatDoorGo
import Derived.Test.YtndlfijfjglkdaaGreatDoorGt
namespace Go.Proofs.YtndlfijfjglkdaaGreatDoor
open Go Go.Ab Go.Proofs Go.ChangeShapes Go.WideShapes Go.ChangeAt Go.RowKit
theorem cells73 : Tryz.prog.cellsOf 73 = 6 := by kernel_rfl
theorem cells3 : Tryz.prog.cellsOf 3 = 1 := by kernel_rfl
set_option maxRecDepth 100000 in
theorem open_line {H : Type} {enc : TypeId × Value → H} {W : World} {base : Nat} {v : Value} {d : DataW H} {p : List MemPlace} (hv : Value.okWide Tryz.prog W .any base 73 v) (h : DataW.Trod enc Tryz.prog W 0 (fun _ => true) true 73 v d p) :
    ∃ s f d p u e : Int, v = .agg ⟨lin s f d p u e⟩ := by
  obtain ⟨cs, rfl, hsz⟩ := okWide_struct Tryz.underlying73 hv
  rw [cells73] at hsz
  obtain ⟨fuel, hf⟩ := h
  obtain ⟨xs, m, rfl, hx, hl, hxl, hg⟩ := DataW.trod_struct Tryz.underlying73 hf
  obtain ⟨l⟩ := cs
  have key : ∀ i, i < 6 → ∃ n : Int, l[i]? = some (iv n) := by
    intro i hi
    have h1 := hg i
    have hfi : ∃ f : Field, (#[(⟨ "Start", 3, 0, false, "", "", 0⟩ : Field), ⟨ "First", 3, 1, false, "", "", 8⟩, ⟨ "Spacing", 3, 2, false, "", "", 16⟩, ⟨ "Points", 3, 3, false, "", "", 24⟩, ⟨ "Num", 3, 4, false, "", "", 32⟩, ⟨ "Den", 3, 5, false, "", "", 40⟩] : Array Field)[i]? = some f ∧ f.type = 3 ∧ f.offset = i := by
      match i, hi with
      | 0, _ | 1, _ | 2, _ | 3, _ | 4, _ | 5, _ => exact ⟨_, rfl, rfl, rfl⟩
    obtain ⟨f, hf1, hf2, hf3⟩ := hfi
    have h2 := h1 f hf1
    rw [hf2, hf3, cells3] at h2
    obtain ⟨x, hx⟩ : ∃ x, xs[i]? = some x := ⟨xs[i]'(by rw [hxl]; exact hi), by simp⟩
    rw [hx] at h2
    obtain ⟨n, hc, _, _⟩ := DataW.trod_int Tryz.underlying3 h2
    refine ⟨n, ?_⟩
    have := congrArg (·[0]?) hc
    simpa [List.getElem?_take, List.getElem?_drop, Value.cells] using this
  match l, hsz with
  | [a, b, c, d, e, f], _ =>
    obtain ⟨n0, h0⟩ := key 0 (by omega)
    obtain ⟨n1, h1⟩ := key 1 (by omega)
    obtain ⟨n2, h2⟩ := key 2 (by omega)
    obtain ⟨n3, h3⟩ := key 3 (by omega)
    obtain ⟨n4, h4⟩ := key 4 (by omega)
    obtain ⟨n5, h5⟩ := key 5 (by omega)
    simp at h0 h1 h2 h3 h4 h5
    subst h0 h1 h2 h3 h4 h5
    exact ⟨n0, n1, n2, n3, n4, n5, rfl⟩
namespace gunLines
set_option maxRecDepth 100000 in
theorem contract (H : Type) (enc : TypeId × Value → H) (W : World) (base : Nat) (args : Array Value) (ds gs : List (DataW H)) (before : List MemPlace)
    (hval : ∀ (j : Nat) t v, Tryz.f6.params[j]? = some t → args[j]? = some v → Value.okWide Tryz.prog W .any base t v)
    (hW : DataW.Whole enc Tryz.prog Tryz.f6.params.toList Rows.gunLinesSpec.vars false W args.toList ds gs before) (hL : laidMetH Tryz.prog Rows.gunLinesRow.laid W) :
    Calls Tryz.prog 6 args W fun e W' => ∃ v, e = .returned v ∧ Rows.gunLinesSpec.post enc Tryz.prog Tryz.f6 false true false false W args v W' := by
  have hW' := hW
  obtain ⟨p, q, hA0, hV, rfl, hfz, hnd⟩ := hW
  have hA : DataW.TrodAll enc Tryz.prog W 0 (fun _ => true) true Tryz.f6.params.toList args.toList ds p := hA0
  rw [Tryz.params6] at hA hval
  obtain ⟨v0, vs0, d0, ds0, p0, q0, hargs, rfl, rfl, h0, r0⟩ := trodAll_cons hA
  obtain ⟨rfl, rfl, rfl⟩ := trodAll_nil r0
  obtain rfl : args = #[v0] := by cases args; simp_all
  obtain ⟨s, f, d, p, u, e, rfl⟩ := open_line (hval 0 73 v0 rfl rfl) h0
  have hc := lawCalls (f := 6) (by kernel_rfl) (lies0 hL) (lies3 hL) [] (by simp) (args0 := [.agg ⟨lin s f d p u e⟩]) (args := #[.agg ⟨lin s f d p u e⟩]) (by simp) (by simp [denL, den]) (w6 s f d p u e)
  refine hc.mono fun e W' ⟨he, hb⟩ => ⟨_, he, ?_⟩
  refine lawPost ?_ rfl rfl rfl hW' hb
  intro t ht
  rw [Tryz.params6] at ht
  simp at ht
  subst ht
  exact ⟨by kernel_rfl, by rw [show Tryz.prog.types.size = 405 by kernel_rfl]; decide⟩
abbrev wit : Value := .agg #[iv 0, iv 0, iv 0, iv 0, iv 0, iv 0]
theorem reads (os : Os) {H : Type} (enc : TypeId × Value → H) : ∃ places, DataW.whole enc Tryz.prog ((laidWorld os).forCall (fun _ _ => 0) ⟨#[], #[wit], []⟩).memory Tryz.f6.params.toList Rows.gunLinesSpec.vars false #[wit].toList 8 = some ([.agg [.lit (.int .i64 0), .lit (.int .i64 0), .lit (.int .i64 0), .lit (.int .i64 0), .lit (.int .i64 0), .lit (.int .i64 0)]], [], places) :=
  ⟨[], by kernel_rfl⟩
set_option maxRecDepth 100000 in
theorem lifted (os : Os) (started : os.Started) (H : Type) (enc : TypeId × Value → H) (F : Stop.Interp) :
    ReturnsInHanded {} Tryz.checked os 6 .any ((OpenSpec.ofChange Rows.gunLinesSpec).preRow enc Tryz.prog Tryz.f6 Rows.gunLinesRow.domain false Rows.gunLinesRow.laid) (((OpenSpec.ofChange Rows.gunLinesSpec).at F).post enc Tryz.prog Tryz.f6 false true false false) := by
  obtain ⟨places, hx⟩ := reads os enc
  refine returnsInHanded_of_row (C := Tryz.checked) (s := OpenSpec.ofChange Rows.gunLinesSpec) own started (by kernel_rfl) Tryz.func6
    (witness_row_at (enc := enc) (C := Tryz.checked) false (laidWorld os) #[wit] rfl (by kernel_rfl) (by kernel_rfl) (by kernel_rfl)
      (OpenSpec.preRow_of_cond 8 hx (by kernel_rfl) (fun k hk => by cases hk) (by kernel_rfl) (laid_met os _))) ?_
  intro W base args ds gs before hval hW _ _ _ hL _ _
  exact contract H enc W base args ds gs before hval hW hL
end gunLines
end Go.Proofs.YtndlfijfjglkdaaGreatDoor

namespace Go.Proofs.YtndlfijfjglkdaaGreatDoor
open Go Go.Ab Go.Proofs Go.ChangeShapes Go.WideShapes Go.ChangeAt Go.RowKit
theorem leafs94 : leafs Tryz.prog 6 94 = some [.str, .int .i64, .int .i64, .int .i64, .int .i64, .int .i64, .int .i64] := by kernel_rfl
theorem fits_cons {a : Leaf} {bs : List Leaf} {r : List Value} (h : fitsL (a :: bs) r) : ∃ v vs, r = v :: vs ∧ a.fits v ∧ fitsL bs vs := by
  cases r with
  | nil => exact h.elim
  | cons v vs => exact ⟨v, vs, rfl, h.1, h.2⟩
theorem fits_nil {r : List Value} (h : fitsL [] r) : r = [] := by
  cases r with
  | nil => rfl
  | cons v vs => exact h.elim
theorem fits_gun {r : List Value} (h : fitsL [.str, .int .i64, .int .i64, .int .i64, .int .i64, .int .i64, .int .i64] r) : ∃ g : Gun, r = g.cells := by
  obtain ⟨_, _, rfl, ⟨s, rfl, _⟩, h1⟩ := fits_cons h
  obtain ⟨_, _, rfl, ⟨v, rfl, _⟩, h2⟩ := fits_cons h1
  obtain ⟨_, _, rfl, ⟨x, rfl, _⟩, h3⟩ := fits_cons h2
  obtain ⟨_, _, rfl, ⟨y, rfl, _⟩, h4⟩ := fits_cons h3
  obtain ⟨_, _, rfl, ⟨t, rfl, _⟩, h5⟩ := fits_cons h4
  obtain ⟨_, _, rfl, ⟨lo, rfl, _⟩, h6⟩ := fits_cons h5
  obtain ⟨_, _, rfl, ⟨hi, rfl, _⟩, h7⟩ := fits_cons h6
  obtain rfl := fits_nil h7
  exact ⟨⟨s, v, x, y, t, lo, hi⟩, rfl⟩
theorem fits_guns : ∀ rows : List (List Value), (∀ r ∈ rows, fitsL [.str, .int .i64, .int .i64, .int .i64, .int .i64, .int .i64, .int .i64] r) → ∃ l : List Gun, rows.flatten = gcs l ∧ l.length = rows.length
  | [], _ => ⟨[], rfl, rfl⟩
  | r :: rows, h => by
    obtain ⟨g, rfl⟩ := fits_gun (h r (List.mem_cons_self ..))
    obtain ⟨l, h1, h2⟩ := fits_guns rows fun r hr => h r (List.mem_cons_of_mem _ hr)
    exact ⟨g :: l, by rw [List.flatten_cons, h1]; rfl, by simp [h2]⟩
set_option maxRecDepth 100000 in
theorem open_str {H : Type} {enc : TypeId × Value → H} {W : World} {base : Nat} {v : Value} {d : DataW H} {p : List MemPlace} (hv : Value.okWide Tryz.prog W .any base 24 v) (h : DataW.Trod enc Tryz.prog W 0 (fun _ => true) true 24 v d p) :
    v = nilV ∨ ∃ (b o c : Nat) (l : List Gun), v = .agg ⟨[.slice (some ⟨b, o, none⟩) l.length c]⟩ ∧ l.length < 2 ^ 63 ∧ ∃ cs t fz, W.heap[b]? = some (.cells cs t fz) ∧ ∀ i, i < (gcs l).length → cs[o + i]? = (gcs l)[i]? := by
  rcases handed_str (d := 6) Tryz.underlying24 (f := ⟨"Guns", 22, 0, false, "", "", 0⟩) rfl rfl rfl (by kernel_rfl) (by kernel_rfl) (by kernel_rfl) Tryz.underlying22 leafs94 (by kernel_rfl) (by simp) hv h with rfl | ⟨b, o, len, cap, rows, rfl, h1, h2, h3, h4, cs, t, fz, hw, hc⟩
  · exact .inl rfl
  · obtain ⟨l, e1, e2⟩ := fits_guns rows h4
    have : len = l.length := by omega
    subst this
    rw [e1] at hc
    refine .inr ⟨b, o, cap, l, rfl, ?_, cs, t, fz, hw, hc⟩
    have : maxLen < 2 ^ 63 := by decide
    omega
end Go.Proofs.YtndlfijfjglkdaaGreatDoor

namespace Go.Proofs.YtndlfijfjglkdaaGreatDoor
open Go Go.Ab Go.Proofs Go.ChangeShapes Go.WideShapes Go.ChangeAt Go.RowKit
/-- a handed string of guns, as one view shows it -/
theorem repS1 {W : World} (h0 : Lies W 0 names0) {v : Value} (h : v = nilV ∨ ∃ (b o c : Nat) (l : List Gun), v = .agg ⟨[.slice (some ⟨b, o, none⟩) l.length c]⟩ ∧ l.length < 2 ^ 63 ∧ ∃ cs t fz, W.heap[b]? = some (.cells cs t fz) ∧ ∀ i, i < (gcs l).length → cs[o + i]? = (gcs l)[i]?) :
    ∃ (b o : Nat) (cs : List Value) (a : Option Addr) (m c : Nat) (l : List Gun), afL cs = true ∧ (∃ c t fz, W.heap[b]? = some (.cells c t fz) ∧ ∀ i, i < cs.length → c[o + i]? = cs[i]?) ∧ (∀ φ : Vl, φ.loc 10 = b → den φ (.agg ⟨[.slice a m c]⟩) = v) ∧
      (∀ G : Heap, hget G 10 = some (.inp o cs) → strAt G (.agg ⟨[.slice a m c]⟩) = some l) ∧ l.length < 2 ^ 63 ∧ (∀ ρ, renL ρ cs = cs) ∧ (∀ olds, ren (rnm 11 olds) (.slice a m c) = .slice a m c) ∧ (∀ p : Nat → Prop, p 10 → sc p (.slice a m c)) ∧ m = l.length := by
  rcases h with rfl | ⟨b, o, c, l, rfl, hl, cs, t, fz, hw, hc⟩
  · obtain ⟨c, t, fz, e1, _⟩ := h0
    exact ⟨0, 0, [], none, 0, 0, [], rfl, ⟨c, t, fz, e1, fun i hi => by simp at hi⟩, fun φ _ => by simp [den, denL], fun G _ => rfl, by simp, fun _ => rfl, fun _ => rfl, fun _ _ => trivial, rfl⟩
  · refine ⟨b, o, gcs l, some ⟨10, o, none⟩, l.length, c, l, afL_gcs l, ⟨cs, t, fz, hw, hc⟩, fun φ hφ => by simp [den, denL, hφ], fun G hG => ?_, hl, fun ρ => renL_gcs ρ l, fun olds => by simp [ren, rnm], fun p hp => hp, rfl⟩
    unfold strAt gunsAt
    simp [hG, List.take_of_length_le, gunsOf_gcs, show l.length < 9223372036854775808 by omega]
theorem laid_met3' (os : Os) (a b c : Value) : laidMet Tryz.prog laidAll ((laidWorld os).forCall (fun _ _ => 0) ⟨#[], #[a, b, c], []⟩).memory :=
  laidMet_of_run' 8 (by kernel_rfl) (by kernel_rfl)
theorem params3 : Tryz.f3.params = #[24, 3, 9] := by kernel_rfl
namespace gunStrings
set_option maxRecDepth 100000 in
theorem contract (H : Type) (enc : TypeId × Value → H) (W : World) (base : Nat) (args : Array Value) (ds gs : List (DataW H)) (before : List MemPlace)
    (hval : ∀ (j : Nat) t v, Tryz.f3.params[j]? = some t → args[j]? = some v → Value.okWide Tryz.prog W .any base t v)
    (hW : DataW.Whole enc Tryz.prog Tryz.f3.params.toList Rows.gunStringsSpec.vars false W args.toList ds gs before) (hL : laidMetH Tryz.prog Rows.gunStringsRow.laid W) :
    Calls Tryz.prog 3 args W fun e W' => ∃ v, e = .returned v ∧ Rows.gunStringsSpec.post enc Tryz.prog Tryz.f3 false true false false W args v W' := by
  have hW' := hW
  obtain ⟨p, q, hA0, hV, rfl, hfz, hnd⟩ := hW
  have hA : DataW.TrodAll enc Tryz.prog W 0 (fun _ => true) true Tryz.f3.params.toList args.toList ds p := hA0
  rw [params3] at hA hval
  obtain ⟨v0, vs0, d0, ds0, p0, q0, hargs, rfl, rfl, h0, r0⟩ := trodAll_cons hA
  obtain ⟨v1, vs1, d1, ds1, p1, q1, rfl, rfl, rfl, h1, r1⟩ := trodAll_cons r0
  obtain ⟨v2, vs2, d2, ds2, p2, q2, rfl, rfl, rfl, h2, r2⟩ := trodAll_cons r1
  obtain ⟨rfl, rfl, rfl⟩ := trodAll_nil r2
  obtain rfl : args = #[v0, v1, v2] := by cases args; simp_all
  obtain ⟨b0, o0, cs0, a, m, c, l, a1, a2, a3, a4, a5, a6, a7, a8, a9⟩ := repS1 (lies0 hL) (open_str (hval 0 24 v0 rfl rfl) h0)
  obtain ⟨k, rfl⟩ : ∃ n, v1 = .int .i64 n := okWide_int (P := Tryz.prog) Tryz.underlying3 (hval 1 3 v1 rfl rfl)
  obtain ⟨s, rfl⟩ : ∃ s, v2 = .string s := okWide_string (P := Tryz.prog) Tryz.underlying9 (hval 2 9 v2 rfl rfl)
  have hw := w3 a m c l k s o0 cs0 a4 a5 a9 (fun _ => a6 _) a7 (fun p => scL_af p _ a1) a8
  have hc : Calls Tryz.prog 3 #[v0, iv k, sv s] W fun e W' => e = .returned (.bool true) ∧ Below W.heap.size W W' := by
    refine lawCalls (f := 3) (by kernel_rfl) (lies0 hL) (lies3 hL) [⟨b0, o0, cs0⟩] ?_ (args0 := [.agg ⟨[.slice a m c]⟩, iv k, sv s]) (args := #[v0, iv k, sv s]) ?_ ?_ hw
    · intro v hv
      rw [List.mem_singleton] at hv
      subst hv
      refine ⟨scL_af _ _ a1, ?_⟩
      obtain ⟨c, t, fz, e1, e2⟩ := a2
      exact ⟨c, t, fz, e1, fun i hi => by rw [denL_af _ _ a1]; exact e2 i hi⟩
    · exact ⟨⟨a8 _ (by simp), trivial⟩, trivial, trivial, trivial⟩
    · simp only [denL, a3 (wloc [⟨b0, o0, cs0⟩]) rfl]
      rfl
  refine hc.mono fun e W' ⟨he, hb⟩ => ⟨_, he, ?_⟩
  refine lawPost ?_ rfl rfl rfl hW' hb
  intro t ht
  rw [params3] at ht
  simp at ht
  rcases ht with rfl | rfl | rfl
  · exact ⟨by kernel_rfl, by rw [show Tryz.prog.types.size = 405 by kernel_rfl]; decide⟩
  · exact ⟨by kernel_rfl, by rw [show Tryz.prog.types.size = 405 by kernel_rfl]; decide⟩
  · exact ⟨by kernel_rfl, by rw [show Tryz.prog.types.size = 405 by kernel_rfl]; decide⟩
abbrev wit1 : Value := .agg #[.slice none 0 0]
abbrev wit : Array Value := #[wit1, iv 0, sv ⟨#[]⟩]
theorem reads (os : Os) {H : Type} (enc : TypeId × Value → H) : ∃ ds places, DataW.whole enc Tryz.prog ((laidWorld os).forCall (fun _ _ => 0) ⟨#[], wit, []⟩).memory Tryz.f3.params.toList Rows.gunStringsSpec.vars false wit.toList 8 = some (ds, [], places) :=
  ⟨[.agg [.nil], .lit (.int .i64 0), .lit (.string [])], [], by kernel_rfl⟩
set_option maxRecDepth 100000 in
theorem lifted (os : Os) (started : os.Started) (H : Type) (enc : TypeId × Value → H) (F : Stop.Interp) :
    ReturnsInHanded {} Tryz.checked os 3 .any ((OpenSpec.ofChange Rows.gunStringsSpec).preRow enc Tryz.prog Tryz.f3 Rows.gunStringsRow.domain false Rows.gunStringsRow.laid) (((OpenSpec.ofChange Rows.gunStringsSpec).at F).post enc Tryz.prog Tryz.f3 false true false false) := by
  obtain ⟨ds, places, hx⟩ := reads os enc
  refine returnsInHanded_of_row (C := Tryz.checked) (s := OpenSpec.ofChange Rows.gunStringsSpec) own started (by kernel_rfl) Tryz.func3
    (witness_row_at (enc := enc) (C := Tryz.checked) false (laidWorld os) wit rfl (by kernel_rfl) (by kernel_rfl) (by kernel_rfl)
      (OpenSpec.preRow_of_cond 8 hx (by kernel_rfl) (fun k hk => by cases hk) (by kernel_rfl) (laid_met3' os _ _ _))) ?_
  intro W base args ds gs before hval hW _ _ _ hL _ _
  exact contract H enc W base args ds gs before hval hW hL
end gunStrings
end Go.Proofs.YtndlfijfjglkdaaGreatDoor

namespace Go.Proofs.YtndlfijfjglkdaaGreatDoor
open Go Go.Ab Go.Proofs
abbrev H5 (o0 : Nat) (cs0 : List Value) (o1 : Nat) (cs1 : List Value) : Heap := [(11, .inp o1 cs1), (10, .inp o0 cs0), (3, .inp 0 tab3), (0, .inp 0 names0)]
abbrev X5 (s0 s1 : Value) (d : ByteArray) (w : Int) (o0 : Nat) (cs0 : List Value) (o1 : Nat) (cs1 : List Value) : Heap := (13, .cells [s1, sv d, iv w] 61) :: (12, .cells [s0] 24) :: H5 o0 cs0 o1 cs1
abbrev B5 : Fr := [(2, .pointer (some ⟨12, 0, none⟩)), (3, .pointer (some ⟨13, 0, none⟩))]
def Q5 (rf : Fr) (rh : Heap) (n : Nat) (s0 s1 : Value) (d : ByteArray) (w : Int) (o0 : Nat) (cs0 : List Value) (o1 : Nat) (cs1 : List Value) : St := { fr := rf ++ B5, sz := 114, H := rh ++ X5 s0 s1 d w o0 cs0 o1 cs1, n := n, marks := [], vs := [] }
set_option maxRecDepth 100000 in
set_option maxHeartbeats 4000000 in
theorem w5 (a : Option Addr) (m c : Nat) (l : List Gun) (a1 : Option Addr) (m1 c1 : Nat) (sh : List Int) (d : ByteArray) (w : Int) (o0 : Nat) (cs0 : List Value) (o1 : Nat) (cs1 : List Value)
    (hs : ∀ G : Heap, hget G 10 = some (.inp o0 cs0) → strAt G (.agg ⟨[.slice a m c]⟩) = some l) (hl63 : l.length < 2 ^ 63) (hm1 : m1 = sh.length)
    (hi : sh.length < 2147483648 → ∀ G : Heap, hget G 11 = some (.inp o1 cs1) → intsW G (.slice a1 m1 c1) = some sh)
    (r0 : ∀ olds, renL (rnm 12 olds) cs0 = cs0) (r1 : ∀ olds, renL (rnm 12 olds) cs1 = cs1) (rs : ∀ olds, ren (rnm 12 olds) (.slice a m c) = .slice a m c) (rs1 : ∀ olds, ren (rnm 12 olds) (.slice a1 m1 c1) = .slice a1 m1 c1)
    (c0 : ∀ p : Nat → Prop, scL p cs0) (c1s : ∀ p : Nat → Prop, scL p cs1) (ss : ∀ p : Nat → Prop, p 10 → sc p (.slice a m c)) (ss1 : ∀ p : Nat → Prop, p 11 → sc p (.slice a1 m1 c1)) :
    AC Tryz.prog 5 [.agg ⟨[.slice a m c]⟩, .agg ⟨[.slice a1 m1 c1, sv d, iv w]⟩] (H5 o0 cs0 o1 cs1) 12 (.bool true) (H5 o0 cs0 o1 cs1) 12 := by
  have hr := recT_ok (P := Tryz.prog) (l := [(18, g18), (19, gStr fun l => .bool (shortS l)), (21, g21), (42, g42), (41, g41), (43, g43), (24, gStr fun l => iv (strE l)), (29, gSI dirE), (37, g1 fun a => withinV a 1 64), (27, g113), (44, g44), (45, g45), (46, g46), (40, g40), (47, g47)]) (by simp only [List.forall_mem_cons]; exact ⟨ok18, ok19, ok21, ok42, ok41, ok43, ok24, ok29, ok37, ok27, ok44, ok45, ok46, ok40, ok47, by simp⟩)
  have a14 : sc (fun x => x < 14) (.slice a m c) := ss _ (by decide)
  have a15 : sc (fun x => x < 15) (.slice a m c) := ss _ (by decide)
  have a16 : sc (fun x => x < 16) (.slice a m c) := ss _ (by decide)
  have a17 : sc (fun x => x < 17) (.slice a m c) := ss _ (by decide)
  have a18 : sc (fun x => x < 18) (.slice a m c) := ss _ (by decide)
  have b14 : sc (fun x => x < 14) (.slice a1 m1 c1) := ss1 _ (by decide)
  have b15 : sc (fun x => x < 15) (.slice a1 m1 c1) := ss1 _ (by decide)
  have b16 : sc (fun x => x < 16) (.slice a1 m1 c1) := ss1 _ (by decide)
  have b17 : sc (fun x => x < 17) (.slice a1 m1 c1) := ss1 _ (by decide)
  have b18 : sc (fun x => x < 18) (.slice a1 m1 c1) := ss1 _ (by decide)
  refine AC.pure Tryz.func5 rfl (by kernel_rfl) rfl [] rfl ?_
  refine E.seq ?_
  refine E.reg hr (by simp; rfl) ?_
  refine E.seq ?_
  refine E.seq ?_
  cases hsh : shortS l with
  | false =>
    refine E.reg hr (by simp [g18, gStr, hs, hsh, undefV]; rfl) ?_
    refine E.cond (by rfl) (fun h => ?_) (fun h => ?_)
    · refine E.seq ?_
      refine E.reg hr (by simp [g18]; rfl) ?_
      refine E.ret ?_
      exact pureK.ret rfl rfl (by simp) (by repeat first | exact sub_refl _ | refine sub_cons rfl ?_)
    · simp at h
  | true =>
  by_cases h9 : (9 : Int) < (m1 : Int)
  · refine E.reg hr (by simp [g18, gStr, hs, hsh, h9, undefV]; rfl) ?_
    refine E.cond (by rfl) (fun h => ?_) (fun h => ?_)
    · refine E.seq ?_
      refine E.reg hr (by simp [g18]; rfl) ?_
      refine E.ret ?_
      exact pureK.ret rfl rfl (by simp) (by repeat first | exact sub_refl _ | refine sub_cons rfl ?_)
    · simp at h
  by_cases h20 : (20 : Int) < (d.size : Int)
  · refine E.reg hr (by simp [g18, gStr, hs, hsh, h9, h20]; rfl) ?_
    refine E.cond (by rfl) (fun h => ?_) (fun h => ?_)
    · refine E.seq ?_
      refine E.reg hr (by simp [g18]; rfl) ?_
      refine E.ret ?_
      exact pureK.ret rfl rfl (by simp) (by repeat first | exact sub_refl _ | refine sub_cons rfl ?_)
    · simp at h
  refine E.reg hr (by simp [g18, gStr, hs, hsh, h9, h20]; rfl) ?_
  refine E.cond (by rfl) (fun h => ?_) (fun h => ?_)
  · simp at h
  refine E.skip ?_
  have hl9 : l.length ≤ 4096 := by
    unfold shortS at hsh
    simp at hsh
    omega
  have hs9 : sh.length ≤ 4096 := by omega
  have hi := hi (by omega)
  have hrow : ∀ (G : Heap) (b : Nat), hget G b = some (.ext (gcs l) 95 7) → rowGuns G b l.length = some l := fun G b hG => by
    unfold rowGuns rowOf
    rw [hG]
    simp [gunsOf_gcs, hl63]
  have hin : ∀ (G : Heap) (b : Nat), hget G b = some (.ext (sh.map iv) 3 1) → intsAt G ⟨b, 0, some 0⟩ sh.length = some sh := fun G b hG => by
    unfold intsAt
    simp [hG, List.take_of_length_le, intsOf_iv, show sh.length < 2147483648 by omega]
  have hpa : ∀ (G : Heap) (b : Nat) (L : List (Int × Int)) (n : Nat), hget G b = some (.ext (pcs L) 92 2) → n = L.length → pairsAt G ⟨b, 0, some 0⟩ n = some L := fun G b L n hG hn => by
    subst hn
    unfold pairsAt
    simp [hG, List.take_of_length_le, pairsOf_pcs]
  have hst8 : strE l = 0 → 1 ≤ l.length ∧ l.length ≤ 8 := strE_len
  by_cases hE : sigE l sh d w = 0
  · by_cases hF : encE l d w = 0
    · skip
      obtain ⟨hst, hshe, hd, hw⟩ := sigE_zero hE
      obtain ⟨W, rfl⟩ := Int.eq_ofNat_of_zero_le (show 0 ≤ w by omega)
      obtain ⟨h1, h8⟩ := hst8 hst
      have hl0 : l ≠ [] := fun e => by subst e; simp at h1
      have hw1 : 1 ≤ (W : Int) := hw.1
      have hw2 : (W : Int) ≤ 64 := hw.2
      have hshl : sh.length = l.length := (shE_zero hshe).1
      have hsn : sh ≠ [] := fun e => by subst e; simp at hshl; omega
      have hsa := sig_samp hst hshe d hw
      rw [Int.toNat_natCast] at hsa
      obtain ⟨r, hrr⟩ : ∃ r, r = sigN l sh d W l.length := ⟨_, rfl⟩
      rw [← hrr] at hsa
      have hrr := hrr.symm
      have hrl : r.length = W := by rw [← hrr]; simp
      obtain ⟨F, hFe⟩ : ∃ F, F = r.map sampB := ⟨_, rfl⟩
      have hFl : F.length = W := by rw [hFe]; simpa using hrl
      have hFe' := hFe.symm
      have hfl : ∀ (G : Heap) (b : Nat), hget G b = some (.ext (F.map fv) 98 1) → fltsAt G ⟨b, 0, some 0⟩ W = some F := fun G b hG => fltsAt_fv rfl (by simp [cellsA, hG, hFl]; exact List.take_of_length_le (by simp [hFl])) (by omega)
      have hir : ∀ (G : Heap) (b : Nat), hget G b = some (.ext (r.map iv) 3 1) → intsAt G ⟨b, 0, some 0⟩ W = some r := fun G b hG => by
        unfold intsAt
        simp [hG, List.take_of_length_le, hrl, intsOf_iv, show W < 2147483648 by omega]
      have hg45 : ∀ (G : Heap) (n : Nat), hget G 11 = some (.inp o1 cs1) → hget G 10 = some (.inp o0 cs0) → g45 [.agg ⟨[.slice a m c]⟩, .slice a1 m1 c1, .slice none 0 0, sv d, iv W] G n = some (.slice (some ⟨n, 0, some 0⟩) W 0, (n, .ext (r.map iv) 3 1) :: G, n + 1) := fun G n h11 h10 => by
        have h2 := hi G h11
        cases a1 with
        | none =>
          unfold intsW at h2
          split at h2
          · injection h2 with h2
            exact absurd h2.symm hsn
          · rename_i h3
            cases h3
          · cases h2
        | some ad =>
          have h2 : intsAt G ad m1 = some sh := h2
          simp [g45, hs G h10, h2, hst, hd, hshe, hw1, hw2, hrr, hrl]
      have hr3 : firstV [shE l sh, dirE d, withinV (W : Int) 1 64] = 0 := by
        have := hE
        unfold sigE at this
        rwa [if_pos hst] at this
      have hr4 : firstV [0, dirE d, withinV (W : Int) 1 64] = 0 := by
        have h3 := hF
        unfold encE at h3
        rwa [hst] at h3
      have hw3 : W ≤ 64 := by omega
      have hpe := fun (G : Heap) (b : Nat) h => hpa G b (encL l d W) W h (encL_length l d W).symm
      refine E.cut (Q5 [(6, iv (0 : Int)), (5, .slice (some ⟨14, 0, some 0⟩) W 0)] [(14, .ext (F.map fv) 98 1)] 15 (.slice a m c) (.slice a1 m1 c1) d (W : Int) o0 cs0 o1 cs1) ?_ ?_
      · refine E.drawC mixed hr [9] [1, 4, 9] [0, 1, 4, 9] (by kernel_rfl) (by simp [g21, hs, hl0, hl9, g42, hi, hsn, hs9, g41, strR, hrow, h1, hin, gSig, hE, hrr, hFe']; rfl) ?_
        exact Leads.ren [12, 13, 16] rfl rfl rfl ⟨rfl, rfl⟩ (by simp [Q5]) (by simp [Q5, r0, r1, rs, rs1, c0, c1s, a15, b15])
      refine E.cut (Q5 [(8, iv (0 : Int)), (7, .slice (some ⟨15, 0, some 0⟩) W 0), (6, iv (0 : Int)), (5, .slice (some ⟨14, 0, some 0⟩) W 0)] [(15, .ext (pcs (encL l d W)) 92 2), (14, .ext (F.map fv) 98 1)] 16 (.slice a m c) (.slice a1 m1 c1) d (W : Int) o0 cs0 o1 cs1) ?_ ?_
      · refine E.drawC mixed hr [6] [1, 6] [0, 1, 6] (by kernel_rfl) (by simp [Q5, g21, hs, hl0, hl9, g43, strR, hrow, h1, gEnc, hF]; rfl) ?_
        exact Leads.ren [12, 13, 14, 16] rfl rfl rfl ⟨rfl, rfl⟩ (by simp [Q5]) (by simp [Q5, r0, r1, rs, rs1, c0, c1s, a16, b16])
      refine E.seq ?_
      refine E.reg hr (by simp [Q5, gStr, hs]; rfl) ?_
      refine E.seq ?_
      refine E.drawC mixed hr [6, 7, 8] [3, 6, 7, 8] [2, 3, 6, 7, 8] (by kernel_rfl) (by simp [gSI, g113, intsAt, intsOf]; rfl) ?_
      refine E.seq ?_
      refine E.reg hr (by simp; rfl) ?_
      refine E.seq ?_
      refine E.reg hr (by simp; rfl) ?_
      refine E.cut (Q5 [(12, .slice none 0 0), (11, .slice none 0 0), (10, iv (0 : Int)), (9, iv (0 : Int)), (8, iv (0 : Int)), (7, .slice (some ⟨15, 0, some 0⟩) W 0), (6, iv (0 : Int)), (5, .slice (some ⟨14, 0, some 0⟩) W 0)] [(15, .ext (pcs (encL l d W)) 92 2), (14, .ext (F.map fv) 98 1)] 16 (.slice a m c) (.slice a1 m1 c1) d (W : Int) o0 cs0 o1 cs1) ?_ ?_
      · refine E.seq ?_
        refine E.reg hr (by simp [hst]; rfl) ?_
        refine E.cond (by rfl) (fun h => ?_) (fun h => ?_)
        rotate_left
        · simp at h
        refine E.drawC mixed hr [9, 10, 11] [3, 6, 9, 10, 11] [0, 2, 3, 6, 9, 10, 11] (by kernel_rfl) (by simp [g44, hs, hi, h1, h8, gSI, g113, intsAt, intsOf]; rfl) ?_
        exact Leads.ren [12, 13, 14, 15] rfl rfl rfl ⟨rfl, rfl⟩ (by simp [Q5, hr4, hr3]) (by simp [Q5, r0, r1, rs, rs1, c0, c1s, a16, b16])
      refine E.seq ?_
      refine E.seq ?_
      refine E.reg hr (by simp [Q5]; rfl) ?_
      refine E.cond (by rfl) (fun h => ?_) (fun h => ?_)
      rotate_left
      · simp at h
      refine E.reg hr (by simp [hg45]; rfl) ?_
      refine E.seq ?_
      refine E.seq ?_
      refine E.reg hr (by simp; rfl) ?_
      refine E.cond (by rfl) (fun h => ?_) (fun h => ?_)
      rotate_left
      · simp at h
      refine E.reg hr (by simp [g46, hs, hst, hd, hw1, hw2]; rfl) ?_
      refine E.seq ?_
      refine E.reg hr (by simp [g40, g47, hfl, hir, ← hFe, hsa, hpe, hw3]; rfl) ?_
      refine E.ret ?_
      exact pureK.ret rfl rfl (by simp) (by repeat first | exact sub_refl _ | refine sub_cons rfl ?_)
    · skip
      obtain ⟨hst, hshe, hd, hw⟩ := sigE_zero hE
      obtain ⟨W, rfl⟩ := Int.eq_ofNat_of_zero_le (show 0 ≤ w by omega)
      obtain ⟨h1, h8⟩ := hst8 hst
      have hl0 : l ≠ [] := fun e => by subst e; simp at h1
      have hw1 : 1 ≤ (W : Int) := hw.1
      have hw2 : (W : Int) ≤ 64 := hw.2
      have hshl : sh.length = l.length := (shE_zero hshe).1
      have hsn : sh ≠ [] := fun e => by subst e; simp at hshl; omega
      have hsa := sig_samp hst hshe d hw
      rw [Int.toNat_natCast] at hsa
      obtain ⟨r, hrr⟩ : ∃ r, r = sigN l sh d W l.length := ⟨_, rfl⟩
      rw [← hrr] at hsa
      have hrr := hrr.symm
      have hrl : r.length = W := by rw [← hrr]; simp
      obtain ⟨F, hFe⟩ : ∃ F, F = r.map sampB := ⟨_, rfl⟩
      have hFl : F.length = W := by rw [hFe]; simpa using hrl
      have hFe' := hFe.symm
      have hfl : ∀ (G : Heap) (b : Nat), hget G b = some (.ext (F.map fv) 98 1) → fltsAt G ⟨b, 0, some 0⟩ W = some F := fun G b hG => fltsAt_fv rfl (by simp [cellsA, hG, hFl]; exact List.take_of_length_le (by simp [hFl])) (by omega)
      have hir : ∀ (G : Heap) (b : Nat), hget G b = some (.ext (r.map iv) 3 1) → intsAt G ⟨b, 0, some 0⟩ W = some r := fun G b hG => by
        unfold intsAt
        simp [hG, List.take_of_length_le, hrl, intsOf_iv, show W < 2147483648 by omega]
      have hg45 : ∀ (G : Heap) (n : Nat), hget G 11 = some (.inp o1 cs1) → hget G 10 = some (.inp o0 cs0) → g45 [.agg ⟨[.slice a m c]⟩, .slice a1 m1 c1, .slice none 0 0, sv d, iv W] G n = some (.slice (some ⟨n, 0, some 0⟩) W 0, (n, .ext (r.map iv) 3 1) :: G, n + 1) := fun G n h11 h10 => by
        have h2 := hi G h11
        cases a1 with
        | none =>
          unfold intsW at h2
          split at h2
          · injection h2 with h2
            exact absurd h2.symm hsn
          · rename_i h3
            cases h3
          · cases h2
        | some ad =>
          have h2 : intsAt G ad m1 = some sh := h2
          simp [g45, hs G h10, h2, hst, hd, hshe, hw1, hw2, hrr, hrl]
      have hr3 : firstV [shE l sh, dirE d, withinV (W : Int) 1 64] = 0 := by
        have := hE
        unfold sigE at this
        rwa [if_pos hst] at this
      refine E.cut (Q5 [(6, iv (0 : Int)), (5, .slice (some ⟨14, 0, some 0⟩) W 0)] [(14, .ext (F.map fv) 98 1)] 15 (.slice a m c) (.slice a1 m1 c1) d (W : Int) o0 cs0 o1 cs1) ?_ ?_
      · refine E.drawC mixed hr [9] [1, 4, 9] [0, 1, 4, 9] (by kernel_rfl) (by simp [g21, hs, hl0, hl9, g42, hi, hsn, hs9, g41, strR, hrow, h1, hin, gSig, hE, hrr, hFe']; rfl) ?_
        exact Leads.ren [12, 13, 16] rfl rfl rfl ⟨rfl, rfl⟩ (by simp [Q5]) (by simp [Q5, r0, r1, rs, rs1, c0, c1s, a15, b15])
      refine E.cut (Q5 [(8, iv (encE l d (W : Int))), (7, .slice none 0 0), (6, iv (0 : Int)), (5, .slice (some ⟨14, 0, some 0⟩) W 0)] [(14, .ext (F.map fv) 98 1)] 15 (.slice a m c) (.slice a1 m1 c1) d (W : Int) o0 cs0 o1 cs1) ?_ ?_
      · refine E.drawC mixed hr [6] [1, 6] [0, 1, 6] (by kernel_rfl) (by simp [Q5, g21, hs, hl0, hl9, g43, strR, hrow, h1, gEnc, hF]; rfl) ?_
        exact Leads.ren [12, 13, 14] rfl rfl rfl ⟨rfl, rfl⟩ (by simp [Q5]) (by simp [Q5, r0, r1, rs, rs1, c0, c1s, a15, b15])
      refine E.seq ?_
      refine E.reg hr (by simp [Q5, gStr, hs]; rfl) ?_
      refine E.seq ?_
      refine E.drawC mixed hr [6, 7, 8] [3, 6, 7, 8] [2, 3, 6, 7, 8] (by kernel_rfl) (by simp [gSI, g113, intsAt, intsOf]; rfl) ?_
      refine E.seq ?_
      refine E.reg hr (by simp; rfl) ?_
      refine E.seq ?_
      refine E.reg hr (by simp; rfl) ?_
      refine E.cut (Q5 [(12, .slice none 0 0), (11, .slice none 0 0), (10, iv (encE l d (W : Int))), (9, iv (0 : Int)), (8, iv (encE l d (W : Int))), (7, .slice none 0 0), (6, iv (0 : Int)), (5, .slice (some ⟨14, 0, some 0⟩) W 0)] [(14, .ext (F.map fv) 98 1)] 15 (.slice a m c) (.slice a1 m1 c1) d (W : Int) o0 cs0 o1 cs1) ?_ ?_
      · refine E.seq ?_
        refine E.reg hr (by simp [hst]; rfl) ?_
        refine E.cond (by rfl) (fun h => ?_) (fun h => ?_)
        rotate_left
        · simp at h
        refine E.drawC mixed hr [9, 10, 11] [3, 6, 9, 10, 11] [0, 2, 3, 6, 9, 10, 11] (by kernel_rfl) (by simp [g44, hs, hi, h1, h8, gSI, g113, intsAt, intsOf]; rfl) ?_
        exact Leads.ren [12, 13, 14] rfl rfl rfl ⟨rfl, rfl⟩ (by simp [Q5, encE, hst, hr3]) (by simp [Q5, r0, r1, rs, rs1, c0, c1s, a15, b15])
      refine E.seq ?_
      refine E.seq ?_
      refine E.reg hr (by simp [Q5]; rfl) ?_
      refine E.cond (by rfl) (fun h => ?_) (fun h => ?_)
      rotate_left
      · simp at h
      refine E.reg hr (by simp [hg45]; rfl) ?_
      refine E.seq ?_
      refine E.seq ?_
      refine E.reg hr (by simp [hF]; rfl) ?_
      refine E.cond (by rfl) (fun h => ?_) (fun h => ?_)
      · simp at h
      refine E.skip ?_
      refine E.seq ?_
      refine E.reg hr (by simp [g40, g47, hfl, hir, ← hFe, hsa]; rfl) ?_
      refine E.ret ?_
      exact pureK.ret rfl rfl (by simp) (by repeat first | exact sub_refl _ | refine sub_cons rfl ?_)
  · by_cases hF : encE l d w = 0
    · skip
      obtain ⟨hst, hd, hw⟩ := encE_zero hF
      obtain ⟨W, rfl⟩ := Int.eq_ofNat_of_zero_le (show 0 ≤ w by omega)
      obtain ⟨h1, h8⟩ := hst8 hst
      have hl0 : l ≠ [] := fun e => by subst e; simp at h1
      have hw1 : 1 ≤ (W : Int) := hw.1
      have hw2 : (W : Int) ≤ 64 := hw.2
      have hr4 : firstV [0, dirE d, withinV (W : Int) 1 64] = 0 := by
        have h3 := hF
        unfold encE at h3
        rwa [hst] at h3
      have hw3 : W ≤ 64 := by omega
      have hpe := fun (G : Heap) (b : Nat) h => hpa G b (encL l d W) W h (encL_length l d W).symm
      refine E.cut (Q5 [(6, iv (sigE l sh d (W : Int))), (5, .slice none 0 0)] [] 14 (.slice a m c) (.slice a1 m1 c1) d (W : Int) o0 cs0 o1 cs1) ?_ ?_
      · by_cases hsn : sh = []
        · subst hsn
          refine E.drawC mixed hr [9] [1, 4, 9] [0, 1, 4, 9] (by kernel_rfl) (by simp [g21, hs, hl0, hl9, g42, hi, g41, strR, hrow, h1, intsAt, intsOf, gSig, hE]; rfl) ?_
          exact Leads.ren [12, 13] rfl rfl rfl ⟨rfl, rfl⟩ (by simp [Q5]) (by simp [Q5, r0, r1, rs, rs1, c0, c1s, a14, b14])
        · refine E.drawC mixed hr [9] [1, 4, 9] [0, 1, 4, 9] (by kernel_rfl) (by simp [g21, hs, hl0, hl9, g42, hi, hsn, hs9, g41, strR, hrow, h1, hin, gSig, hE]; rfl) ?_
          exact Leads.ren [12, 13] rfl rfl rfl ⟨rfl, rfl⟩ (by simp [Q5]) (by simp [Q5, r0, r1, rs, rs1, c0, c1s, a14, b14])
      refine E.cut (Q5 [(8, iv (0 : Int)), (7, .slice (some ⟨14, 0, some 0⟩) W 0), (6, iv (sigE l sh d (W : Int))), (5, .slice none 0 0)] [(14, .ext (pcs (encL l d W)) 92 2)] 15 (.slice a m c) (.slice a1 m1 c1) d (W : Int) o0 cs0 o1 cs1) ?_ ?_
      · refine E.drawC mixed hr [6] [1, 6] [0, 1, 6] (by kernel_rfl) (by simp [Q5, g21, hs, hl0, hl9, g43, strR, hrow, h1, gEnc, hF]; rfl) ?_
        exact Leads.ren [12, 13, 15] rfl rfl rfl ⟨rfl, rfl⟩ (by simp [Q5]) (by simp [Q5, r0, r1, rs, rs1, c0, c1s, a15, b15])
      refine E.seq ?_
      refine E.reg hr (by simp [Q5, gStr, hs]; rfl) ?_
      refine E.seq ?_
      refine E.drawC mixed hr [6, 7, 8] [3, 6, 7, 8] [2, 3, 6, 7, 8] (by kernel_rfl) (by simp [gSI, g113, intsAt, intsOf]; rfl) ?_
      refine E.seq ?_
      refine E.reg hr (by simp; rfl) ?_
      refine E.seq ?_
      refine E.reg hr (by simp; rfl) ?_
      refine E.cut (Q5 [(12, .slice none 0 0), (11, .slice none 0 0), (10, iv (0 : Int)), (9, iv (sigE l sh d (W : Int))), (8, iv (0 : Int)), (7, .slice (some ⟨14, 0, some 0⟩) W 0), (6, iv (sigE l sh d (W : Int))), (5, .slice none 0 0)] [(14, .ext (pcs (encL l d W)) 92 2)] 15 (.slice a m c) (.slice a1 m1 c1) d (W : Int) o0 cs0 o1 cs1) ?_ ?_
      · have he : sigE l sh d (W : Int) = firstV [shE l sh, dirE d, withinV (W : Int) 1 64] := by simp [sigE, hst]
        refine E.seq ?_
        refine E.reg hr (by simp [hst]; rfl) ?_
        refine E.cond (by rfl) (fun h => ?_) (fun h => ?_)
        rotate_left
        · simp at h
        refine E.drawC mixed hr [9, 10, 11] [3, 6, 9, 10, 11] [0, 2, 3, 6, 9, 10, 11] (by kernel_rfl) (by simp [g44, hs, hi, h1, h8, gSI, g113, intsAt, intsOf]; rfl) ?_
        exact Leads.ren [12, 13, 14] rfl rfl rfl ⟨rfl, rfl⟩ (by simp [Q5, hr4, he]) (by simp [Q5, r0, r1, rs, rs1, c0, c1s, a15, b15])
      refine E.seq ?_
      refine E.seq ?_
      refine E.reg hr (by simp [Q5, hE]; rfl) ?_
      refine E.cond (by rfl) (fun h => ?_) (fun h => ?_)
      · simp at h
      refine E.skip ?_
      refine E.seq ?_
      refine E.seq ?_
      refine E.reg hr (by simp; rfl) ?_
      refine E.cond (by rfl) (fun h => ?_) (fun h => ?_)
      rotate_left
      · simp at h
      refine E.reg hr (by simp [g46, hs, hst, hd, hw1, hw2]; rfl) ?_
      refine E.seq ?_
      refine E.reg hr (by simp [g40, g47, hE, hpe, hw3]; rfl) ?_
      refine E.ret ?_
      exact pureK.ret rfl rfl (by simp) (by repeat first | exact sub_refl _ | refine sub_cons rfl ?_)
    · skip
      refine E.cut (Q5 [(6, iv (sigE l sh d w)), (5, .slice none 0 0)] [] 14 (.slice a m c) (.slice a1 m1 c1) d w o0 cs0 o1 cs1) ?_ ?_
      · by_cases hl0 : l = []
        · subst hl0
          by_cases hsn : sh = []
          · subst hsn
            refine E.drawC mixed hr [9] [1, 4, 9] [0, 1, 4, 9] (by kernel_rfl) (by simp [g21, hs, g42, hi, g41, strR, intsAt, intsOf, gSig, hE]; rfl) ?_
            exact Leads.ren [12, 13] rfl rfl rfl ⟨rfl, rfl⟩ (by simp [Q5]) (by simp [Q5, r0, r1, rs, rs1, c0, c1s, a14, b14])
          · refine E.drawC mixed hr [9] [1, 4, 9] [0, 1, 4, 9] (by kernel_rfl) (by simp [g21, hs, g42, hi, hsn, hs9, g41, strR, hin, gSig, hE]; rfl) ?_
            exact Leads.ren [12, 13] rfl rfl rfl ⟨rfl, rfl⟩ (by simp [Q5]) (by simp [Q5, r0, r1, rs, rs1, c0, c1s, a14, b14])
        · have h1 : 1 ≤ l.length := List.length_pos_iff.2 hl0
          by_cases hsn : sh = []
          · subst hsn
            refine E.drawC mixed hr [9] [1, 4, 9] [0, 1, 4, 9] (by kernel_rfl) (by simp [g21, hs, hl0, hl9, g42, hi, g41, strR, hrow, h1, intsAt, intsOf, gSig, hE]; rfl) ?_
            exact Leads.ren [12, 13] rfl rfl rfl ⟨rfl, rfl⟩ (by simp [Q5]) (by simp [Q5, r0, r1, rs, rs1, c0, c1s, a14, b14])
          · refine E.drawC mixed hr [9] [1, 4, 9] [0, 1, 4, 9] (by kernel_rfl) (by simp [g21, hs, hl0, hl9, g42, hi, hsn, hs9, g41, strR, hrow, h1, hin, gSig, hE]; rfl) ?_
            exact Leads.ren [12, 13] rfl rfl rfl ⟨rfl, rfl⟩ (by simp [Q5]) (by simp [Q5, r0, r1, rs, rs1, c0, c1s, a14, b14])
      refine E.cut (Q5 [(8, iv (encE l d w)), (7, .slice none 0 0), (6, iv (sigE l sh d w)), (5, .slice none 0 0)] [] 14 (.slice a m c) (.slice a1 m1 c1) d w o0 cs0 o1 cs1) ?_ ?_
      · by_cases hl0 : l = []
        · subst hl0
          refine E.drawC mixed hr [6] [1, 6] [0, 1, 6] (by kernel_rfl) (by simp [Q5, g21, hs, g43, strR, gEnc, hF]; rfl) ?_
          exact Leads.ren [12, 13] rfl rfl rfl ⟨rfl, rfl⟩ (by simp [Q5]) (by simp [Q5, r0, r1, rs, rs1, c0, c1s, a14, b14])
        · have h1 : 1 ≤ l.length := List.length_pos_iff.2 hl0
          refine E.drawC mixed hr [6] [1, 6] [0, 1, 6] (by kernel_rfl) (by simp [Q5, g21, hs, hl0, hl9, g43, strR, hrow, h1, gEnc, hF]; rfl) ?_
          exact Leads.ren [12, 13] rfl rfl rfl ⟨rfl, rfl⟩ (by simp [Q5]) (by simp [Q5, r0, r1, rs, rs1, c0, c1s, a14, b14])
      refine E.seq ?_
      refine E.reg hr (by simp [Q5, gStr, hs]; rfl) ?_
      refine E.seq ?_
      refine E.drawC mixed hr [6, 7, 8] [3, 6, 7, 8] [2, 3, 6, 7, 8] (by kernel_rfl) (by simp [gSI, g113, intsAt, intsOf]; rfl) ?_
      refine E.seq ?_
      refine E.reg hr (by simp; rfl) ?_
      refine E.seq ?_
      refine E.reg hr (by simp; rfl) ?_
      refine E.cut (Q5 [(12, .slice none 0 0), (11, .slice none 0 0), (10, iv (encE l d w)), (9, iv (sigE l sh d w)), (8, iv (encE l d w)), (7, .slice none 0 0), (6, iv (sigE l sh d w)), (5, .slice none 0 0)] [] 14 (.slice a m c) (.slice a1 m1 c1) d w o0 cs0 o1 cs1) ?_ ?_
      · by_cases hst : strE l = 0
        · obtain ⟨h1, h8⟩ := hst8 hst
          have he : sigE l sh d w = firstV [shE l sh, dirE d, withinV w 1 64] := by simp [sigE, hst]
          refine E.seq ?_
          refine E.reg hr (by simp [hst]; rfl) ?_
          refine E.cond (by rfl) (fun h => ?_) (fun h => ?_)
          rotate_left
          · simp at h
          refine E.drawC mixed hr [9, 10, 11] [3, 6, 9, 10, 11] [0, 2, 3, 6, 9, 10, 11] (by kernel_rfl) (by simp [g44, hs, hi, h1, h8, gSI, g113, intsAt, intsOf]; rfl) ?_
          exact Leads.ren [12, 13] rfl rfl rfl ⟨rfl, rfl⟩ (by simp [Q5, encE, hst, he]) (by simp [Q5, r0, r1, rs, rs1, c0, c1s, a14, b14])
        · have he : sigE l sh d w = strE l := by simp [sigE, hst]
          refine E.seq ?_
          refine E.reg hr (by simp [hst]; rfl) ?_
          refine E.cond (by rfl) (fun h => ?_) (fun h => ?_)
          · simp at h
          refine E.skip ?_
          exact Leads.ren [12, 13] rfl rfl rfl ⟨rfl, rfl⟩ (by simp [Q5, he, encE]) (by simp [Q5, r0, r1, rs, rs1, c0, c1s, a14, b14])
      refine E.seq ?_
      refine E.seq ?_
      refine E.reg hr (by simp [Q5, hE]; rfl) ?_
      refine E.cond (by rfl) (fun h => ?_) (fun h => ?_)
      · simp at h
      refine E.skip ?_
      refine E.seq ?_
      refine E.seq ?_
      refine E.reg hr (by simp [hF]; rfl) ?_
      refine E.cond (by rfl) (fun h => ?_) (fun h => ?_)
      · simp at h
      refine E.skip ?_
      refine E.seq ?_
      refine E.reg hr (by simp [g40, g47, hE]; rfl) ?_
      refine E.ret ?_
      exact pureK.ret rfl rfl (by simp) (by repeat first | exact sub_refl _ | refine sub_cons rfl ?_)
end Go.Proofs.YtndlfijfjglkdaaGreatDoor
