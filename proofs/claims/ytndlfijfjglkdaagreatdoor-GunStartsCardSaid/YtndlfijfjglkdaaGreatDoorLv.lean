/-
The law GunStarts returns true for every string of guns and all steps of names that are handed in, and its arguments read afterwards as before. Conditions: those of the given row (the four laid variables hold what their text lays), tied by the given card.
-/
import Derived.Test.YtndlfijfjglkdaaGreatDoorGa
import Derived.Test.YtndlfijfjglkdaaGreatDoorFa
import Derived.Test.YtndlfijfjglkdaaGreatDoorGc
import Derived.Test.YtndlfijfjglkdaaGreatDoorGd
import Derived.Test.YtndlfijfjglkdaaGreatDoorGy
import Derived.Test.YtndlfijfjglkdaaGreatDoorGz
import Derived.Test.YtndlfijfjglkdaaGreatDoorQv
namespace Go.Proofs.YtndlfijfjglkdaaGreatDoor
open Go Go.Ab Go.Proofs Go.ChangeShapes Go.WideShapes Go.ChangeAt Go.RowKit
theorem cells73 : Tryz.prog.cellsOf 73 = 6 := by kernel_rfl
theorem cells3 : Tryz.prog.cellsOf 3 = 1 := by kernel_rfl
set_option maxRecDepth 100000 in
theorem open_line {H : Type} {enc : TypeId × Value → H} {W : World} {base : Nat} {v : Value} {d : DataW H} {p : List MemPlace} (hv : Value.okWide Tryz.prog W .any base 73 v) (h : DataW.Trod enc Tryz.prog W 0 (fun _ => true) true 73 v d p) :
    ∃ s f d p u e : Int, v = .agg ⟨lin s f d p u e⟩ := by
  obtain ⟨cs, rfl, hsz⟩ := okWide_struct Tryz.underlying73 hv
  rw [cells73] at hsz
  obtain ⟨fuel, hf⟩ := h
  obtain ⟨xs, m, rfl, hx, hl, hxl, hg⟩ := DataW.trod_struct Tryz.underlying73 hf
  obtain ⟨l⟩ := cs
  have key : ∀ i, i < 6 → ∃ n : Int, l[i]? = some (iv n) := by
    intro i hi
    have h1 := hg i
    have hfi : ∃ f : Field, (#[(⟨ "Start", 3, 0, false, "", "", 0⟩ : Field), ⟨ "First", 3, 1, false, "", "", 8⟩, ⟨ "Spacing", 3, 2, false, "", "", 16⟩, ⟨ "Points", 3, 3, false, "", "", 24⟩, ⟨ "Num", 3, 4, false, "", "", 32⟩, ⟨ "Den", 3, 5, false, "", "", 40⟩] : Array Field)[i]? = some f ∧ f.type = 3 ∧ f.offset = i := by
      match i, hi with
      | 0, _ | 1, _ | 2, _ | 3, _ | 4, _ | 5, _ => exact ⟨_, rfl, rfl, rfl⟩
    obtain ⟨f, hf1, hf2, hf3⟩ := hfi
    have h2 := h1 f hf1
    rw [hf2, hf3, cells3] at h2
    obtain ⟨x, hx⟩ : ∃ x, xs[i]? = some x := ⟨xs[i]'(by rw [hxl]; exact hi), by simp⟩
    rw [hx] at h2
    obtain ⟨n, hc, _, _⟩ := DataW.trod_int Tryz.underlying3 h2
    refine ⟨n, ?_⟩
    have := congrArg (·[0]?) hc
    simpa [List.getElem?_take, List.getElem?_drop, Value.cells] using this
  match l, hsz with
  | [a, b, c, d, e, f], _ =>
    obtain ⟨n0, h0⟩ := key 0 (by omega)
    obtain ⟨n1, h1⟩ := key 1 (by omega)
    obtain ⟨n2, h2⟩ := key 2 (by omega)
    obtain ⟨n3, h3⟩ := key 3 (by omega)
    obtain ⟨n4, h4⟩ := key 4 (by omega)
    obtain ⟨n5, h5⟩ := key 5 (by omega)
    simp at h0 h1 h2 h3 h4 h5
    subst h0 h1 h2 h3 h4 h5
    exact ⟨n0, n1, n2, n3, n4, n5, rfl⟩
namespace gunLines
set_option maxRecDepth 100000 in
theorem contract (H : Type) (enc : TypeId × Value → H) (W : World) (base : Nat) (args : Array Value) (ds gs : List (DataW H)) (before : List MemPlace)
    (hval : ∀ (j : Nat) t v, Tryz.f6.params[j]? = some t → args[j]? = some v → Value.okWide Tryz.prog W .any base t v)
    (hW : DataW.Whole enc Tryz.prog Tryz.f6.params.toList Rows.gunLinesSpec.vars false W args.toList ds gs before) (hL : laidMetH Tryz.prog Rows.gunLinesRow.laid W) :
    Calls Tryz.prog 6 args W fun e W' => ∃ v, e = .returned v ∧ Rows.gunLinesSpec.post enc Tryz.prog Tryz.f6 false true false false W args v W' := by
  have hW' := hW
  obtain ⟨p, q, hA0, hV, rfl, hfz, hnd⟩ := hW
  have hA : DataW.TrodAll enc Tryz.prog W 0 (fun _ => true) true Tryz.f6.params.toList args.toList ds p := hA0
  rw [Tryz.params6] at hA hval
  obtain ⟨v0, vs0, d0, ds0, p0, q0, hargs, rfl, rfl, h0, r0⟩ := trodAll_cons hA
  obtain ⟨rfl, rfl, rfl⟩ := trodAll_nil r0
  obtain rfl : args = #[v0] := by cases args; simp_all
  obtain ⟨s, f, d, p, u, e, rfl⟩ := open_line (hval 0 73 v0 rfl rfl) h0
  have hc := lawCalls (f := 6) (by kernel_rfl) (lies0 hL) (lies3 hL) [] (by simp) (args0 := [.agg ⟨lin s f d p u e⟩]) (args := #[.agg ⟨lin s f d p u e⟩]) (by simp) (by simp [denL, den]) (w6 s f d p u e)
  refine hc.mono fun e W' ⟨he, hb⟩ => ⟨_, he, ?_⟩
  refine lawPost ?_ rfl rfl rfl hW' hb
  intro t ht
  rw [Tryz.params6] at ht
  simp at ht
  subst ht
  exact ⟨by kernel_rfl, by rw [show Tryz.prog.types.size = 405 by kernel_rfl]; decide⟩
abbrev wit : Value := .agg #[iv 0, iv 0, iv 0, iv 0, iv 0, iv 0]
theorem reads (os : Os) {H : Type} (enc : TypeId × Value → H) : ∃ places, DataW.whole enc Tryz.prog ((laidWorld os).forCall (fun _ _ => 0) ⟨#[], #[wit], []⟩).memory Tryz.f6.params.toList Rows.gunLinesSpec.vars false #[wit].toList 8 = some ([.agg [.lit (.int .i64 0), .lit (.int .i64 0), .lit (.int .i64 0), .lit (.int .i64 0), .lit (.int .i64 0), .lit (.int .i64 0)]], [], places) :=
  ⟨[], by kernel_rfl⟩
set_option maxRecDepth 100000 in
theorem lifted (os : Os) (started : os.Started) (H : Type) (enc : TypeId × Value → H) (F : Stop.Interp) :
    ReturnsInHanded {} Tryz.checked os 6 .any ((OpenSpec.ofChange Rows.gunLinesSpec).preRow enc Tryz.prog Tryz.f6 Rows.gunLinesRow.domain false Rows.gunLinesRow.laid) (((OpenSpec.ofChange Rows.gunLinesSpec).at F).post enc Tryz.prog Tryz.f6 false true false false) := by
  obtain ⟨places, hx⟩ := reads os enc
  refine returnsInHanded_of_row (C := Tryz.checked) (s := OpenSpec.ofChange Rows.gunLinesSpec) own started (by kernel_rfl) Tryz.func6
    (witness_row_at (enc := enc) (C := Tryz.checked) false (laidWorld os) #[wit] rfl (by kernel_rfl) (by kernel_rfl) (by kernel_rfl)
      (OpenSpec.preRow_of_cond 8 hx (by kernel_rfl) (fun k hk => by cases hk) (by kernel_rfl) (laid_met os _))) ?_
  intro W base args ds gs before hval hW _ _ _ hL _ _
  exact contract H enc W base args ds gs before hval hW hL
end gunLines
end Go.Proofs.YtndlfijfjglkdaaGreatDoor

namespace Go.Proofs.YtndlfijfjglkdaaGreatDoor
open Go Go.Ab Go.Proofs Go.ChangeShapes Go.WideShapes Go.ChangeAt Go.RowKit
theorem leafs94 : leafs Tryz.prog 6 94 = some [.str, .int .i64, .int .i64, .int .i64, .int .i64, .int .i64, .int .i64] := by kernel_rfl
theorem fits_cons {a : Leaf} {bs : List Leaf} {r : List Value} (h : fitsL (a :: bs) r) : ∃ v vs, r = v :: vs ∧ a.fits v ∧ fitsL bs vs := by
  cases r with
  | nil => exact h.elim
  | cons v vs => exact ⟨v, vs, rfl, h.1, h.2⟩
theorem fits_nil {r : List Value} (h : fitsL [] r) : r = [] := by
  cases r with
  | nil => rfl
  | cons v vs => exact h.elim
theorem fits_gun {r : List Value} (h : fitsL [.str, .int .i64, .int .i64, .int .i64, .int .i64, .int .i64, .int .i64] r) : ∃ g : Gun, r = g.cells := by
  obtain ⟨_, _, rfl, ⟨s, rfl, _⟩, h1⟩ := fits_cons h
  obtain ⟨_, _, rfl, ⟨v, rfl, _⟩, h2⟩ := fits_cons h1
  obtain ⟨_, _, rfl, ⟨x, rfl, _⟩, h3⟩ := fits_cons h2
  obtain ⟨_, _, rfl, ⟨y, rfl, _⟩, h4⟩ := fits_cons h3
  obtain ⟨_, _, rfl, ⟨t, rfl, _⟩, h5⟩ := fits_cons h4
  obtain ⟨_, _, rfl, ⟨lo, rfl, _⟩, h6⟩ := fits_cons h5
  obtain ⟨_, _, rfl, ⟨hi, rfl, _⟩, h7⟩ := fits_cons h6
  obtain rfl := fits_nil h7
  exact ⟨⟨s, v, x, y, t, lo, hi⟩, rfl⟩
theorem fits_guns : ∀ rows : List (List Value), (∀ r ∈ rows, fitsL [.str, .int .i64, .int .i64, .int .i64, .int .i64, .int .i64, .int .i64] r) → ∃ l : List Gun, rows.flatten = gcs l ∧ l.length = rows.length
  | [], _ => ⟨[], rfl, rfl⟩
  | r :: rows, h => by
    obtain ⟨g, rfl⟩ := fits_gun (h r (List.mem_cons_self ..))
    obtain ⟨l, h1, h2⟩ := fits_guns rows fun r hr => h r (List.mem_cons_of_mem _ hr)
    exact ⟨g :: l, by rw [List.flatten_cons, h1]; rfl, by simp [h2]⟩
set_option maxRecDepth 100000 in
theorem open_str {H : Type} {enc : TypeId × Value → H} {W : World} {base : Nat} {v : Value} {d : DataW H} {p : List MemPlace} (hv : Value.okWide Tryz.prog W .any base 24 v) (h : DataW.Trod enc Tryz.prog W 0 (fun _ => true) true 24 v d p) :
    v = nilV ∨ ∃ (b o c : Nat) (l : List Gun), v = .agg ⟨[.slice (some ⟨b, o, none⟩) l.length c]⟩ ∧ l.length < 2 ^ 63 ∧ ∃ cs t fz, W.heap[b]? = some (.cells cs t fz) ∧ ∀ i, i < (gcs l).length → cs[o + i]? = (gcs l)[i]? := by
  rcases handed_str (d := 6) Tryz.underlying24 (f := ⟨"Guns", 22, 0, false, "", "", 0⟩) rfl rfl rfl (by kernel_rfl) (by kernel_rfl) (by kernel_rfl) Tryz.underlying22 leafs94 (by kernel_rfl) (by simp) hv h with rfl | ⟨b, o, len, cap, rows, rfl, h1, h2, h3, h4, cs, t, fz, hw, hc⟩
  · exact .inl rfl
  · obtain ⟨l, e1, e2⟩ := fits_guns rows h4
    have : len = l.length := by omega
    subst this
    rw [e1] at hc
    refine .inr ⟨b, o, cap, l, rfl, ?_, cs, t, fz, hw, hc⟩
    have : maxLen < 2 ^ 63 := by decide
    omega
end Go.Proofs.YtndlfijfjglkdaaGreatDoor

namespace Go.Proofs.YtndlfijfjglkdaaGreatDoor
open Go Go.Ab Go.Proofs Go.ChangeShapes Go.WideShapes Go.ChangeAt Go.RowKit
theorem leafs9 : leafs Tryz.prog 6 9 = some [.str] := by kernel_rfl
/-- a law over a string of guns and a handed list of lists of texts -/
theorem lawGS {f : FuncId} (he : enterable Tryz.prog f = true) {W : World} (h0 : Lies W 0 names0) (h3 : Lies W 3 tab3) {b0 o0 : Nat} {cs0 : List Value} {sl v0 v1 : Value} {l : List Gun} {P : List RD} (haf : afL cs0 = true) (hcs : ∃ c t fz, W.heap[b0]? = some (.cells c t fz) ∧ ∀ i, i < cs0.length → c[o0 + i]? = cs0[i]?)
    (hden : ∀ φ : Vl, φ.loc 10 = b0 → den φ (.agg ⟨[sl]⟩) = v0) (hstr : ∀ G : Heap, hget G 10 = some (.inp o0 cs0) → strAt G (.agg ⟨[sl]⟩) = some l) (hsl : ∀ p : Nat → Prop, p 10 → sc p sl) (hP : HandN W v1 P) (hf : ∀ r ∈ P, r.C ≤ maxLen ∧ ∀ z ∈ r.Z, Leaf.str.fits z)
    (wk : ∀ (H : Heap) (n : Nat) (u : Value), hget H 0 = some (.inp 0 names0) → hget H 3 = some (.inp 0 tab3) → strAt H (.agg ⟨[sl]⟩) = some l → StpV H u (P.map RD.txts) → AC Tryz.prog f [.agg ⟨[sl]⟩, u] H n (.bool true) H n) :
    Calls Tryz.prog f #[v0, v1] W fun e W' => e = .returned (.bool true) ∧ Below W.heap.size W W' := by
  have hz : ∃ c t fz, W.heap[0]? = some (.cells c t fz) := by
    obtain ⟨c, t, fz, e, _⟩ := h0
    exact ⟨c, t, fz, e⟩
  obtain ⟨vs, hvs⟩ : ∃ vs : List WV, (⟨b0, o0, cs0⟩ : WV) :: outW v1 P 12 (12 + P.length) :: P.map RD.view = vs := ⟨_, rfl⟩
  obtain ⟨ds, hds⟩ : ∃ ds, P.map RD.dead = ds := ⟨_, rfl⟩
  have hvl : vs.length = 2 + P.length := by rw [← hvs]; simp; omega
  have hdl : ds.length = P.length := by rw [← hds]; simp
  have hv0 : vs[0]? = some ⟨b0, o0, cs0⟩ := by rw [← hvs]; rfl
  have hv1 : vs[1]? = some (outW v1 P 12 (12 + P.length)) := by rw [← hvs]; rfl
  have hvP : ∀ (i : Nat) (r : RD), P[i]? = some r → vs[2 + i]? = some r.view := fun i r h => by
    rw [← hvs, show 2 + i = i + 1 + 1 by omega, List.getElem?_cons_succ, List.getElem?_cons_succ, List.getElem?_map, h]
    rfl
  have hdP : ∀ (i : Nat) (r : RD), P[i]? = some r → ds[i]? = some r.dead := fun i r h => by
    rw [← hds, List.getElem?_map, h]
    rfl
  have hlocP : ∀ (i : Nat) (r : RD), P[i]? = some r → (wvLoc 10 vs ds).loc (12 + i) = r.view.blk ∧ (wvLoc 10 vs ds).loc (12 + P.length + i) = r.dead := fun i r h => by
    refine ⟨?_, ?_⟩
    · have := wvLoc_view (N := 10) (ds := ds) (hvP i r h)
      rwa [show 10 + (2 + i) = 12 + i by omega] at this
    · have := wvLoc_dead (N := 10) (vs := vs) (hdP i r h)
      rwa [show 10 + vs.length + i = 12 + P.length + i by omega] at this
  have hcap : ∀ k, (wvLoc 10 vs ds).cap k = 0 := fun _ => rfl
  have hokP : ∀ r ∈ P, r.ok W := by
    rcases hP with ⟨_, rfl⟩ | ⟨_, _, _, _, _, _, h⟩
    · intro r hr; cases hr
    · exact h
  have hbase := baseN (P := Tryz.prog) (w := W) gsz (G := G0) (fun k b hk => by
    rw [hget_cons, hget_cons] at hk
    by_cases e3 : 3 = k
    · rw [if_pos e3] at hk
      injection hk with hk
      subst e3 hk
      refine ⟨by omega, scL_af _ _ af_tab3, rfl, fun φ hφ => ?_⟩
      obtain ⟨c, t, fz, e1, e2⟩ := h3
      refine ⟨c, t, fz, e1, fun i hi => ?_⟩
      rw [Nat.zero_add, denL_af _ _ af_tab3]; exact e2 i hi
    · rw [if_neg e3] at hk
      by_cases e0 : 0 = k
      · rw [if_pos e0] at hk
        injection hk with hk
        subst e0 hk
        refine ⟨by omega, scL_af _ _ af_names0, rfl, fun φ hφ => ?_⟩
        obtain ⟨c, t, fz, e1, e2⟩ := h0
        refine ⟨c, t, fz, e1, fun i hi => ?_⟩
        rw [Nat.zero_add, denL_af _ _ af_names0]; exact e2 i hi
      · rw [if_neg e0] at hk
        simp [hget] at hk) vs ds (fun u hu => by
    rw [← hvs] at hu
    rcases List.mem_cons.1 hu with rfl | hu
    · refine ⟨scL_af _ _ haf, ?_⟩
      obtain ⟨c, t, fz, e1, e2⟩ := hcs
      exact ⟨c, t, fz, e1, fun i hi => by rw [denL_af _ _ haf]; exact e2 i hi⟩
    · rcases List.mem_cons.1 hu with rfl | hu
      · exact outW_ok hP hz hlocP hcap fun i hi => ⟨by omega, by omega⟩
      · obtain ⟨r, hr, rfl⟩ := List.mem_map.1 hu
        exact view_ok hz (hokP r hr))
  obtain ⟨hB, hown⟩ := hbase
  have hG3 : hget G0 3 = some (.inp 0 tab3) := rfl
  have hG0 : hget G0 0 = some (.inp 0 names0) := rfl
  have q0 := wvH_low vs 10 G0 0 _ (by omega) hG0
  have q3 := wvH_low vs 10 G0 3 _ (by omega) hG3
  have q1 := hstr _ (by have := wvH_at (N := 10) vs G0 0 _ hv0; simpa using this)
  have q2 := absN_steps hP hf (H := wvH 10 vs G0) (on := 11) (vn := 12) (dn := 12 + P.length) (by have := wvH_at (N := 10) vs G0 1 _ hv1; simpa using this) (fun i r h => by
    have := wvH_at (N := 10) vs G0 (2 + i) _ (hvP i r h)
    rwa [show 10 + (2 + i) = 12 + i by omega] at this)
  have e0 := hden (wvLoc 10 vs ds) (by have := wvLoc_view (N := 10) (ds := ds) hv0; simpa using this)
  have e1 := absN_den hP (φ := wvLoc 10 vs ds) (on := 11) (by
    have := wvLoc_view (N := 10) (ds := ds) hv1
    rw [show 10 + 1 = 11 by omega] at this
    rw [this]
    unfold outW
    split <;> rfl)
  have hargs : #[v0, v1] = (denL (wvLoc 10 vs ds) [.agg ⟨[sl]⟩, absN v1 P 11]).toArray := by
    simp only [denL, e0, e1]
  rw [hargs]
  exact (wk _ _ _ q0 q3 q1 q2).calls he rfl hB ⟨⟨hsl _ (by omega), trivial⟩, absN_sc (by omega), trivial⟩ hown
theorem params10 : Tryz.f10.params = #[24, 122] := by kernel_rfl
theorem repG {W : World} (h0 : Lies W 0 names0) {v : Value} (h : v = nilV ∨ ∃ (b o c : Nat) (l : List Gun), v = .agg ⟨[.slice (some ⟨b, o, none⟩) l.length c]⟩ ∧ l.length < 2 ^ 63 ∧ ∃ cs t fz, W.heap[b]? = some (.cells cs t fz) ∧ ∀ i, i < (gcs l).length → cs[o + i]? = (gcs l)[i]?) :
    ∃ (b o : Nat) (cs : List Value) (sl : Value) (l : List Gun), afL cs = true ∧ (∃ c t fz, W.heap[b]? = some (.cells c t fz) ∧ ∀ i, i < cs.length → c[o + i]? = cs[i]?) ∧ (∀ φ : Vl, φ.loc 10 = b → den φ (.agg ⟨[sl]⟩) = v) ∧
      (∀ G : Heap, hget G 10 = some (.inp o cs) → strAt G (.agg ⟨[sl]⟩) = some l) ∧ (∀ p : Nat → Prop, p 10 → sc p sl) := by
  rcases h with rfl | ⟨b, o, c, l, rfl, hl, cs, t, fz, hw, hc⟩
  · obtain ⟨c, t, fz, e1, _⟩ := h0
    exact ⟨0, 0, [], .slice none 0 0, [], rfl, ⟨c, t, fz, e1, fun i hi => by simp at hi⟩, fun φ _ => by simp [den, denL], fun G _ => rfl, fun _ _ => trivial⟩
  · refine ⟨b, o, gcs l, .slice (some ⟨10, o, none⟩) l.length c, l, afL_gcs l, ⟨cs, t, fz, hw, hc⟩, fun φ hφ => by simp [den, denL, hφ], fun G hG => ?_, fun p hp => hp⟩
    unfold strAt gunsAt
    simp [hG, List.take_of_length_le, gunsOf_gcs, show l.length < 9223372036854775808 by omega]
theorem laid_met2 (os : Os) (a b : Value) : laidMet Tryz.prog laidAll ((laidWorld os).forCall (fun _ _ => 0) ⟨#[], #[a, b], []⟩).memory :=
  laidMet_of_run' 8 (by kernel_rfl) (by kernel_rfl)
namespace gunStarts
set_option maxRecDepth 100000 in
theorem contract (H : Type) (enc : TypeId × Value → H) (W : World) (base : Nat) (args : Array Value) (ds gs : List (DataW H)) (before : List MemPlace)
    (hval : ∀ (j : Nat) t v, Tryz.f10.params[j]? = some t → args[j]? = some v → Value.okWide Tryz.prog W .any base t v)
    (hW : DataW.Whole enc Tryz.prog Tryz.f10.params.toList Rows.gunStartsSpec.vars false W args.toList ds gs before) (hL : laidMetH Tryz.prog Rows.gunStartsRow.laid W) :
    Calls Tryz.prog 10 args W fun e W' => ∃ v, e = .returned v ∧ Rows.gunStartsSpec.post enc Tryz.prog Tryz.f10 false true false false W args v W' := by
  have hW' := hW
  obtain ⟨p, q, hA0, hV, rfl, hfz, hnd⟩ := hW
  have hA : DataW.TrodAll enc Tryz.prog W 0 (fun _ => true) true Tryz.f10.params.toList args.toList ds p := hA0
  rw [params10] at hA hval
  obtain ⟨v0, vs0, d0, ds0, p0, q0, hargs, rfl, rfl, h0, r0⟩ := trodAll_cons hA
  obtain ⟨v1, vs1, d1, ds1, p1, q1, rfl, rfl, rfl, h1, r1⟩ := trodAll_cons r0
  obtain ⟨rfl, rfl, rfl⟩ := trodAll_nil r1
  obtain rfl : args = #[v0, v1] := by cases args; simp_all
  obtain ⟨b0, o0, cs0, sl, l, a1, a2, a3, a4, a5⟩ := repG (lies0 hL) (open_str (hval 0 24 v0 rfl rfl) h0)
  obtain ⟨fuel, hf1⟩ := h1
  have hv1 := hval 1 122 v1 rfl rfl
  obtain ⟨sa, slen, scap, rfl⟩ : ∃ a len cap, v1 = .slice a len cap := okWide_slice (P := Tryz.prog) (w := W) (r := .any) (base := base) Tryz.underlying122 hv1
  obtain ⟨P, hP, hPf⟩ := open_rows (d := 6) (lf := .str) Tryz.underlying122 Tryz.underlying102 (by kernel_rfl) leafs9 (by kernel_rfl) hv1 hf1
  have hc : Calls Tryz.prog 10 #[v0, .slice sa slen scap] W fun e W' => e = .returned (.bool true) ∧ Below W.heap.size W W' :=
    lawGS (by kernel_rfl) (lies0 hL) (lies3 hL) a1 a2 a3 a4 a5 hP hPf fun _ _ _ g0 g3 hs hU => w10 g0 g3 hs hU
  refine hc.mono fun e W' ⟨he, hb⟩ => ⟨_, he, ?_⟩
  refine lawPost ?_ rfl rfl rfl hW' hb
  intro t ht
  rw [params10] at ht
  simp at ht
  rcases ht with rfl | rfl
  · exact ⟨by kernel_rfl, by rw [show Tryz.prog.types.size = 405 by kernel_rfl]; decide⟩
  · exact ⟨by kernel_rfl, by rw [show Tryz.prog.types.size = 405 by kernel_rfl]; decide⟩
abbrev wit1 : Value := .agg #[.slice none 0 0]
theorem reads (os : Os) {H : Type} (enc : TypeId × Value → H) : ∃ places, DataW.whole enc Tryz.prog ((laidWorld os).forCall (fun _ _ => 0) ⟨#[], #[wit1, .slice none 0 0], []⟩).memory Tryz.f10.params.toList Rows.gunStartsSpec.vars false #[wit1, .slice none 0 0].toList 8 = some ([.agg [.nil], .nil], [], places) :=
  ⟨[], by kernel_rfl⟩
set_option maxRecDepth 100000 in
theorem lifted (os : Os) (started : os.Started) (H : Type) (enc : TypeId × Value → H) (F : Stop.Interp) :
    ReturnsInHanded {} Tryz.checked os 10 .any ((OpenSpec.ofChange Rows.gunStartsSpec).preRow enc Tryz.prog Tryz.f10 Rows.gunStartsRow.domain false Rows.gunStartsRow.laid) (((OpenSpec.ofChange Rows.gunStartsSpec).at F).post enc Tryz.prog Tryz.f10 false true false false) := by
  obtain ⟨places, hx⟩ := reads os enc
  refine returnsInHanded_of_row (C := Tryz.checked) (s := OpenSpec.ofChange Rows.gunStartsSpec) own started (by kernel_rfl) Tryz.func10
    (witness_row_at (enc := enc) (C := Tryz.checked) false (laidWorld os) #[wit1, .slice none 0 0] rfl (by kernel_rfl) (by kernel_rfl) (by kernel_rfl)
      (OpenSpec.preRow_of_cond 8 hx (by kernel_rfl) (fun k hk => by cases hk) (by kernel_rfl) (laid_met2 os _ _))) ?_
  intro W base args ds gs before hval hW _ _ _ hL _ _
  exact contract H enc W base args ds gs before hval hW hL
end gunStarts
end Go.Proofs.YtndlfijfjglkdaaGreatDoor

namespace Go.Proofs.YtndlfijfjglkdaaGreatDoor
open Go Go.Ab Go.Proofs Go.ChangeShapes Go.WideShapes Go.ChangeAt Go.RowKit
namespace gunStarts
theorem fnum : Tryz.prog.funcNamed "moveout/moveoutlaw03.GunStarts" = some 10 := by kernel_rfl
theorem inst : Tryz.f10.isInstance Tryz.prog Rows.gunStartsRow.origin Rows.gunStartsRow.targs := of_decide_eq_true (by kernel_rfl)
theorem wrapper : Tryz.f10.isWrapper Tryz.prog Rows.gunStartsRow.wrapper Rows.gunStartsRow.mainSum := by unfold Func.isWrapper; first | (rw [if_pos (by decide +kernel)]; kernel_rfl) | (rw [if_neg (by decide +kernel)]; exact ⟨rfl, rfl⟩)
set_option maxRecDepth 100000 in
theorem said : Rows.GunStartsSaid :=
  OpenClaim.holds_of_cond 10 Tryz.f10 rfl rfl rfl rfl rfl rfl rfl ⟨rfl, rfl, rfl, rfl, rfl⟩ rfl rfl rfl rfl rfl fnum Tryz.func10 facts inst wrapper
    (fun os started H enc _ F => by rw [OpenClaim.pre_eq_preRow]; exact lifted os started H enc F)
theorem looks : true = Tryz.prog.looks [] := by kernel_rfl
theorem standIn : ∀ t, t = 24 ∨ t = 122 → Tryz.prog.wantsStandIn t = false := by
  rintro t (rfl | rfl) <;> kernel_rfl
theorem plain (f : FuncId) (fn : Func) (hf : Tryz.pinned.checked.prog.funcNamed "moveout/moveoutlaw03.GunStarts" = some f) (hfn : Tryz.pinned.checked.prog.funcs[f]? = some fn) :
    true = Tryz.pinned.checked.prog.looks [] ∧ ∀ (j : Nat) t, fn.params[j]? = some t → Tryz.pinned.checked.prog.wantsStandIn t = false := by
  obtain rfl : f = 10 := Option.some.inj (fnum.symm.trans hf) |>.symm
  obtain rfl : fn = Tryz.f10 := (Option.some.inj (Tryz.func10.symm.trans hfn)).symm
  refine ⟨looks, fun j t ht => ?_⟩
  rw [params10] at ht
  exact standIn t (by simpa using Array.mem_of_getElem? ht)
theorem wf : OpenClaim.wfByText (OpenSpec.ofChange Rows.gunStartsSpec) Rows.gunStartsRow = true := by kernel_rfl
theorem main : Tryz.prog.mainIs = some ("e00eecd8ca05e183972abfbf043f5ed2bc813bd519e3ebd189d9b51d2f935a9d" |> fun s => (true, s.toList)) := by kernel_rfl
theorem goes : false = Rows.gunStartsRow.goesBy Tryz.prog := by kernel_rfl
set_option maxRecDepth 100000 in
theorem card : Rows.GunStartsCardSaid :=
  Claim7.holds_tied_plain_at .later [] _ _ _ _ said (fun _ h => by cases h) wf (fun _ h => by cases h) gunStarts_row_tie rfl ⟨rfl, rfl⟩ main rfl plain goes
end gunStarts
end Go.Proofs.YtndlfijfjglkdaaGreatDoor
