/-
The law GunMoves returns true for every string of guns, every vector of two small numbers and every choice of a sound that are handed in, and its arguments read afterwards as before. Conditions: those of the given row (the four laid variables hold what their text lays), tied by the given card.
-/
import Derived.Test.YtndlfijfjglkdaaGreatDoorGf
import Derived.Test.YtndlfijfjglkdaaGreatDoorGr
import Derived.Test.YtndlfijfjglkdaaGreatDoorQm
namespace Go.Proofs.YtndlfijfjglkdaaGreatDoor
open Go Go.Ab Go.Proofs Go.ChangeShapes Go.WideShapes Go.ChangeAt Go.RowKit
theorem leafs117 : leafs Tryz.prog 6 117 = some (List.replicate 8 (.int .u8)) := by kernel_rfl
theorem fits_bytes : ∀ (n : Nat) (r : List Value), fitsL (List.replicate n (.int .u8)) r → ∃ ns : List Int, r = ns.map bv ∧ ns.length = n ∧ ∀ x ∈ ns, 0 ≤ x ∧ x ≤ 255
  | 0, [], _ => ⟨[], rfl, rfl, by simp⟩
  | n + 1, v :: r, h => by
    obtain ⟨⟨x, rfl, hx⟩, h⟩ := h
    obtain ⟨ns, rfl, h2, h3⟩ := fits_bytes n r h
    refine ⟨x :: ns, rfl, by simp [h2], fun y hy => ?_⟩
    rcases List.mem_cons.1 hy with rfl | hy
    · simp [Lit.wf, IntKind.min, IntKind.max, IntKind.signed, IntKind.bits] at hx
      omega
    · exact h3 y hy
  | 0, _ :: _, h => h.elim
  | _ + 1, [], h => h.elim
set_option maxRecDepth 100000 in
theorem open_bytes {H : Type} {enc : TypeId × Value → H} {W : World} {base : Nat} {v : Value} {d : DataW H} {p : List MemPlace} (hv : Value.okWide Tryz.prog W .any base 117 v) (h : DataW.Trod enc Tryz.prog W 0 (fun _ => true) true 117 v d p) :
    ∃ ns : List Int, v = .agg ⟨ns.map bv⟩ ∧ ns.length = 8 ∧ ∀ x ∈ ns, 0 ≤ x ∧ x ≤ 255 := by
  simp only [Value.okWide, Tryz.underlying117] at hv
  obtain ⟨cs, rfl, hsz, _⟩ := hv
  obtain ⟨fuel, hf⟩ := h
  obtain ⟨l⟩ := cs
  obtain ⟨ns, h1, h2, h3⟩ := fits_bytes 8 l (leafs_ok 6 117 _ fuel _ _ leafs117 hf)
  subst h1
  exact ⟨ns, rfl, h2, h3⟩
theorem laid_met3 (os : Os) (a b c : Value) : laidMet Tryz.prog laidAll ((laidWorld os).forCall (fun _ _ => 0) ⟨#[], #[a, b, c], []⟩).memory :=
  laidMet_of_run' 8 (by kernel_rfl) (by kernel_rfl)
theorem params9 : Tryz.f9.params = #[73, 24, 117] := by kernel_rfl
namespace gunReaches
set_option maxRecDepth 100000 in
theorem contract (H : Type) (enc : TypeId × Value → H) (W : World) (base : Nat) (args : Array Value) (ds gs : List (DataW H)) (before : List MemPlace)
    (hval : ∀ (j : Nat) t v, Tryz.f9.params[j]? = some t → args[j]? = some v → Value.okWide Tryz.prog W .any base t v)
    (hW : DataW.Whole enc Tryz.prog Tryz.f9.params.toList Rows.gunReachesSpec.vars false W args.toList ds gs before) (hL : laidMetH Tryz.prog Rows.gunReachesRow.laid W) :
    Calls Tryz.prog 9 args W fun e W' => ∃ v, e = .returned v ∧ Rows.gunReachesSpec.post enc Tryz.prog Tryz.f9 false true false false W args v W' := by
  have hW' := hW
  obtain ⟨p, q, hA0, hV, rfl, hfz, hnd⟩ := hW
  have hA : DataW.TrodAll enc Tryz.prog W 0 (fun _ => true) true Tryz.f9.params.toList args.toList ds p := hA0
  rw [params9] at hA hval
  obtain ⟨v0, vs0, d0, ds0, p0, q0, hargs, rfl, rfl, h0, r0⟩ := trodAll_cons hA
  obtain ⟨v1, vs1, d1, ds1, p1, q1, rfl, rfl, rfl, h1, r1⟩ := trodAll_cons r0
  obtain ⟨v2, vs2, d2, ds2, p2, q2, rfl, rfl, rfl, h2, r2⟩ := trodAll_cons r1
  obtain ⟨rfl, rfl, rfl⟩ := trodAll_nil r2
  obtain rfl : args = #[v0, v1, v2] := by cases args; simp_all
  obtain ⟨s, f, d, p, u, e, rfl⟩ := open_line (hval 0 73 v0 rfl rfl) h0
  obtain ⟨ns, rfl, hn8, hns⟩ := open_bytes (hval 2 117 v2 rfl rfl) h2
  have hc : Calls Tryz.prog 9 #[.agg ⟨lin s f d p u e⟩, v1, .agg ⟨ns.map bv⟩] W fun e W' => e = .returned (.bool true) ∧ Below W.heap.size W W' := by
    rcases open_str (hval 1 24 v1 rfl rfl) h1 with rfl | ⟨b, o, c, l, rfl, hl, cs, t, fz, hw, hcs⟩
    · exact lawCalls (f := 9) (by kernel_rfl) (lies0 hL) (lies3 hL) [] (by simp) (args0 := [.agg ⟨lin s f d p u e⟩, nilV, .agg ⟨ns.map bv⟩]) (args := #[.agg ⟨lin s f d p u e⟩, nilV, .agg ⟨ns.map bv⟩]) (by simp) (by simp [denL, den, denL_af _ _ (afL_bv ns)]) (w9n s f d p u e ns)
    · refine lawCalls (f := 9) (by kernel_rfl) (lies0 hL) (lies3 hL) [⟨b, o, gcs l⟩] ?_ (args0 := [.agg ⟨lin s f d p u e⟩, strV o l.length c, .agg ⟨ns.map bv⟩]) (args := #[.agg ⟨lin s f d p u e⟩, .agg ⟨[.slice (some ⟨b, o, none⟩) l.length c]⟩, .agg ⟨ns.map bv⟩]) (by simp) ?_ (w9 s f d p u e l o c ns hl hn8 hns)
      · intro v hv
        rw [List.mem_singleton] at hv
        subst hv
        refine ⟨by simp, cs, t, fz, hw, fun i hi => ?_⟩
        rw [denL_af _ _ (afL_gcs l)]
        exact hcs i hi
      · simp [denL, den, denL_af _ _ (afL_bv ns), wloc]
  refine hc.mono fun e W' ⟨he, hb⟩ => ⟨_, he, ?_⟩
  refine lawPost ?_ rfl rfl rfl hW' hb
  intro t ht
  rw [params9] at ht
  simp at ht
  rcases ht with rfl | rfl | rfl
  · exact ⟨by kernel_rfl, by rw [show Tryz.prog.types.size = 405 by kernel_rfl]; decide⟩
  · exact ⟨by kernel_rfl, by rw [show Tryz.prog.types.size = 405 by kernel_rfl]; decide⟩
  · exact ⟨by kernel_rfl, by rw [show Tryz.prog.types.size = 405 by kernel_rfl]; decide⟩
abbrev wit0 : Value := .agg #[iv 0, iv 0, iv 0, iv 0, iv 0, iv 0]
abbrev wit1 : Value := .agg #[.slice none 0 0]
abbrev wit2 : Value := .agg #[bv 0, bv 0, bv 0, bv 0, bv 0, bv 0, bv 0, bv 0]
abbrev z64 (H : Type) : DataW H := .lit (.int .i64 0)
abbrev z8 (H : Type) : DataW H := .lit (.int .u8 0)
theorem reads (os : Os) {H : Type} (enc : TypeId × Value → H) : ∃ places, DataW.whole enc Tryz.prog ((laidWorld os).forCall (fun _ _ => 0) ⟨#[], #[wit0, wit1, wit2], []⟩).memory Tryz.f9.params.toList Rows.gunReachesSpec.vars false #[wit0, wit1, wit2].toList 8 = some ([.agg [z64 H, z64 H, z64 H, z64 H, z64 H, z64 H], .agg [.nil], .agg [z8 H, z8 H, z8 H, z8 H, z8 H, z8 H, z8 H, z8 H]], [], places) :=
  ⟨[], by kernel_rfl⟩
set_option maxRecDepth 100000 in
theorem lifted (os : Os) (started : os.Started) (H : Type) (enc : TypeId × Value → H) (F : Stop.Interp) :
    ReturnsInHanded {} Tryz.checked os 9 .any ((OpenSpec.ofChange Rows.gunReachesSpec).preRow enc Tryz.prog Tryz.f9 Rows.gunReachesRow.domain false Rows.gunReachesRow.laid) (((OpenSpec.ofChange Rows.gunReachesSpec).at F).post enc Tryz.prog Tryz.f9 false true false false) := by
  obtain ⟨places, hx⟩ := reads os enc
  refine returnsInHanded_of_row (C := Tryz.checked) (s := OpenSpec.ofChange Rows.gunReachesSpec) own started (by kernel_rfl) Tryz.func9
    (witness_row_at (enc := enc) (C := Tryz.checked) false (laidWorld os) #[wit0, wit1, wit2] rfl (by kernel_rfl) (by kernel_rfl) (by kernel_rfl)
      (OpenSpec.preRow_of_cond 8 hx (by kernel_rfl) (fun k hk => by cases hk) (by kernel_rfl) (laid_met3 os _ _ _))) ?_
  intro W base args ds gs before hval hW _ _ _ hL _ _
  exact contract H enc W base args ds gs before hval hW hL
end gunReaches
end Go.Proofs.YtndlfijfjglkdaaGreatDoor

namespace Go.Proofs.YtndlfijfjglkdaaGreatDoor
open Go Go.Ab Go.Proofs Go.ChangeShapes Go.WideShapes Go.ChangeAt Go.RowKit
/-! ### handed vectors and handed numbers of a sound -/
theorem wf_i8 {n : Int} (h : (Lit.int .i8 n).wf = true) : -128 ≤ n ∧ n ≤ 127 := by
  simp [Lit.wf, IntKind.min, IntKind.max, IntKind.signed, IntKind.bits] at h
  omega
theorem wf_u8 {n : Int} (h : (Lit.int .u8 n).wf = true) : 0 ≤ n ∧ n ≤ 255 := by
  simp [Lit.wf, IntKind.min, IntKind.max, IntKind.signed, IntKind.bits] at h
  omega
theorem leafs83 : leafs Tryz.prog 6 83 = some [.int .i8, .int .i8] := by kernel_rfl
theorem leafs5 : leafs Tryz.prog 6 5 = some [.int .u8] := by kernel_rfl
set_option maxRecDepth 100000 in
theorem open_by {H : Type} {enc : TypeId × Value → H} {W : World} {base : Nat} {v : Value} {d : DataW H} {p : List MemPlace} (hv : Value.okWide Tryz.prog W .any base 83 v) (h : DataW.Trod enc Tryz.prog W 0 (fun _ => true) true 83 v d p) :
    ∃ bx bY : Int, v = .agg ⟨[iv8 bx, iv8 bY]⟩ ∧ (-128 ≤ bx ∧ bx ≤ 127) ∧ (-128 ≤ bY ∧ bY ≤ 127) := by
  simp only [Value.okWide, Tryz.underlying83] at hv
  obtain ⟨cs, rfl, _⟩ := hv
  obtain ⟨fuel, hf⟩ := h
  have hl := leafs_ok 6 83 _ fuel _ (d, p) leafs83 hf
  obtain ⟨cl⟩ := cs
  have hl : fitsL [.int .i8, .int .i8] cl := by simpa [Value.cells] using hl
  obtain ⟨_, _, rfl, ⟨x, rfl, hx⟩, h1⟩ := fits_cons hl
  obtain ⟨_, _, rfl, ⟨y, rfl, hy⟩, h2⟩ := fits_cons h1
  obtain rfl := fits_nil h2
  exact ⟨x, y, rfl, wf_i8 hx, wf_i8 hy⟩
theorem fits_u8s : ∀ rows : List (List Value), (∀ r ∈ rows, fitsL [.int .u8] r) → ∃ ns : List Int, rows.flatten = ns.map bv ∧ ns.length = rows.length ∧ ∀ x ∈ ns, 0 ≤ x ∧ x ≤ 255
  | [], _ => ⟨[], rfl, rfl, by simp⟩
  | r :: rows, h => by
    obtain ⟨_, _, e1, ⟨n, rfl, hn⟩, h1⟩ := fits_cons (h r (List.mem_cons_self ..))
    obtain rfl := fits_nil h1
    obtain ⟨ns, h2, h3, h4⟩ := fits_u8s rows fun r hr => h r (List.mem_cons_of_mem _ hr)
    refine ⟨n :: ns, by rw [List.flatten_cons, h2, e1]; rfl, by simp [h3], fun x hx => ?_⟩
    rcases List.mem_cons.1 hx with rfl | hx
    · exact wf_u8 hn
    · exact h4 x hx
set_option maxRecDepth 100000 in
theorem open_heard {H : Type} {enc : TypeId × Value → H} {W : World} {base : Nat} {v : Value} {d : DataW H} {p : List MemPlace} (hv : Value.okWide Tryz.prog W .any base 86 v) (h : DataW.Trod enc Tryz.prog W 0 (fun _ => true) true 86 v d p) :
    ∃ (s : Value) (nd nw : Int), v = .agg ⟨[s, bv nd, bv nw]⟩ ∧ (0 ≤ nd ∧ nd ≤ 255) ∧ (0 ≤ nw ∧ nw ≤ 255) ∧
      (s = .slice none 0 0 ∨ ∃ (b o c : Nat) (ns : List Int), s = .slice (some ⟨b, o, none⟩) ns.length c ∧ ns.length ≤ maxLen ∧ (∀ x ∈ ns, 0 ≤ x ∧ x ≤ 255) ∧ ∃ cs t fz, W.heap[b]? = some (.cells cs t fz) ∧ ∀ i, i < (ns.map bv).length → cs[o + i]? = (ns.map bv)[i]?) := by
  unfold Value.okWide at hv
  rw [Tryz.underlying86] at hv
  obtain ⟨cs, rfl, hsz, ts, hts, _, hrow⟩ := hv
  rw [show Tryz.prog.cellTypes Tryz.prog.depth 86 = some [84, 5, 5] by kernel_rfl] at hts
  injection hts with hts; subst hts
  rw [show Tryz.prog.cellsOf 86 = 3 by kernel_rfl] at hsz
  obtain ⟨l⟩ := cs
  match l, hsz with
  | [v0, v1, v2], _ =>
    obtain ⟨u', h2, h3⟩ := hrow 0 v0 rfl
    obtain rfl : 84 = u' := by simpa using h2
    obtain ⟨fuel, h⟩ := h
    obtain ⟨xs, m, rfl, _, hlen, hxl, hel⟩ := DataW.trod_struct Tryz.underlying86 h
    have key : ∀ j (f : Field), (match Tryz.prog.underlying 86 with | some (.struct fs) => fs[j]? | _ => none) = some f → ∃ y, DataW.trod enc Tryz.prog W 0 (fun _ => true) true m f.type (([v0, v1, v2].drop f.offset).take (Tryz.prog.cellsOf f.type)) = some y := fun j f hf => by
      rw [Tryz.underlying86] at hf
      have h4 := hel j f hf
      have hpos := (Array.getElem?_eq_some_iff.1 hf).1
      obtain ⟨y, hy⟩ : ∃ y, xs[j]? = some y := ⟨xs[j]'(by omega), by simp⟩
      rw [hy] at h4
      exact ⟨y, by simpa [Value.cells] using h4⟩
    obtain ⟨y0, k0⟩ := key 0 _ (by rw [Tryz.underlying86]; rfl)
    obtain ⟨y1, k1⟩ := key 1 _ (by rw [Tryz.underlying86]; rfl)
    obtain ⟨y2, k2⟩ := key 2 _ (by rw [Tryz.underlying86]; rfl)
    have e0 : (([v0, v1, v2].drop 0).take (Tryz.prog.cellsOf 84)) = [v0] := by kernel_rfl
    have e1 : (([v0, v1, v2].drop 1).take (Tryz.prog.cellsOf 5)) = [v1] := by kernel_rfl
    have e2 : (([v0, v1, v2].drop 2).take (Tryz.prog.cellsOf 5)) = [v2] := by kernel_rfl
    have k0' : DataW.trod enc Tryz.prog W 0 (fun _ => true) true m 84 [v0] = some y0 := by rw [← e0]; exact k0
    have l1 : fitsL [.int .u8] [v1] := by rw [← e1]; exact leafs_ok 6 5 _ m _ y1 leafs5 k1
    have l2 : fitsL [.int .u8] [v2] := by rw [← e2]; exact leafs_ok 6 5 _ m _ y2 leafs5 k2
    obtain ⟨⟨nd, rfl, hnd⟩, _⟩ := l1
    obtain ⟨⟨nw, rfl, hnw⟩, _⟩ := l2
    refine ⟨v0, nd, nw, rfl, wf_u8 hnd, wf_u8 hnw, ?_⟩
    rcases handed_slice (d := 6) Tryz.underlying84 leafs5 (by kernel_rfl) (by simp) h3 k0' with h0 | ⟨b, o, len, cap, rows, e, h5, h6, h7, h8, cs, t, fz, hw, hc⟩
    · exact .inl h0
    · obtain ⟨ns, f1, f2, f3⟩ := fits_u8s rows h8
      have : len = ns.length := by omega
      subst this
      rw [f1] at hc
      exact .inr ⟨b, o, cap, ns, e, by omega, f3, cs, t, fz, hw, hc⟩
end Go.Proofs.YtndlfijfjglkdaaGreatDoor

namespace Go.Proofs.YtndlfijfjglkdaaGreatDoor
open Go Go.Ab Go.Proofs Go.ChangeShapes Go.WideShapes Go.ChangeAt Go.RowKit
abbrev B7n (o1 : Nat) (cs1 : List Value) : Heap := [(11, .inp o1 cs1), (10, .inp 0 []), (3, .inp 0 tab3), (0, .inp 0 names0)]
set_option maxRecDepth 100000 in
theorem w7n (bx bY : Int) (a1 : Option Addr) (m1 c1 : Nat) (nd nw : Int) (o1 : Nat) (cs1 : List Value) :
    AC Tryz.prog 7 [nilV, .agg ⟨[iv8 bx, iv8 bY]⟩, .agg ⟨[.slice a1 m1 c1, bv nd, bv nw]⟩] (B7n o1 cs1) 12 (.bool true) (B7n o1 cs1) 12 := by
  have hr := recT_ok (P := Tryz.prog) (l := [(18, g18), (52, gStr fun l => .bool (validB l))]) (by simp only [List.forall_mem_cons]; exact ⟨ok18, ok52, by simp⟩)
  refine AC.pure Tryz.func7 rfl (by kernel_rfl) rfl vs7 rfl ?_
  refine E.seq ?_
  refine E.reg hr (by simp; rfl) ?_ -- region 0
  refine E.seq ?_
  refine E.seq ?_
  refine E.reg hr (by simp [g18, gStr, strAt, validB, strE, undefV]; rfl) ?_ -- region 1
  refine E.cond (by rfl) (fun h => ?_) (fun h => ?_)
  · refine E.seq ?_
    refine E.reg hr (by simp [g18]; rfl) ?_ -- region 2
    refine E.ret ?_
    exact pureK.ret rfl rfl (by simp) (by repeat first | exact sub_refl _ | refine sub_cons rfl ?_)
  · simp at h
theorem renL_u8 (ρ : Nat → Nat) (l : List Int) : renL ρ (l.map bv) = l.map bv := by
  rw [renL_eq, List.map_map]
  rfl
theorem repU {W : World} (h0 : Lies W 0 names0) {s : Value} (h : s = .slice none 0 0 ∨ ∃ (b o c : Nat) (ns : List Int), s = .slice (some ⟨b, o, none⟩) ns.length c ∧ ns.length ≤ maxLen ∧ (∀ x ∈ ns, 0 ≤ x ∧ x ≤ 255) ∧ ∃ cs t fz, W.heap[b]? = some (.cells cs t fz) ∧ ∀ i, i < (ns.map bv).length → cs[o + i]? = (ns.map bv)[i]?) :
    (∃ (b o : Nat) (cs : List Value) (a : Option Addr) (m c : Nat) (ns : List Int), afL cs = true ∧ (∃ c t fz, W.heap[b]? = some (.cells c t fz) ∧ ∀ i, i < cs.length → c[o + i]? = cs[i]?) ∧ (∀ φ : Vl, φ.loc 11 = b → den φ (.slice a m c) = s) ∧
      (ns.length < 2147483648 → ∀ G : Heap, hget G 11 = some (.inp o cs) → u8W G (.slice a m c) = some ns) ∧ (∀ x ∈ ns, 0 ≤ x ∧ x ≤ 255) ∧ (∀ ρ, renL ρ cs = cs) ∧ (∀ p : Nat → Prop, p 11 → sc p (.slice a m c)) ∧ m = ns.length) := by
  rcases h with rfl | ⟨b, o, c, ns, rfl, hl, hb, cs, t, fz, hw, hc⟩
  · obtain ⟨c, t, fz, e1, _⟩ := h0
    exact ⟨0, 0, [], none, 0, 0, [], rfl, ⟨c, t, fz, e1, fun i hi => by simp at hi⟩, fun φ _ => by simp [den], fun _ G _ => rfl, by simp, fun _ => rfl, fun _ _ => trivial, rfl⟩
  · refine ⟨b, o, ns.map bv, some ⟨11, o, none⟩, ns.length, c, ns, names_u8 ns, ⟨cs, t, fz, hw, hc⟩, fun φ hφ => by simp [den, hφ], fun h31 G hG => ?_, hb, fun ρ => renL_u8 ρ ns, fun p hp => hp, rfl⟩
    unfold u8W
    simp [hG, List.take_of_length_le, u8Of_bv, h31]
theorem params7 : Tryz.f7.params = #[24, 83, 86] := by kernel_rfl
namespace gunMoves
set_option maxRecDepth 100000 in
theorem contract (H : Type) (enc : TypeId × Value → H) (W : World) (base : Nat) (args : Array Value) (ds gs : List (DataW H)) (before : List MemPlace)
    (hval : ∀ (j : Nat) t v, Tryz.f7.params[j]? = some t → args[j]? = some v → Value.okWide Tryz.prog W .any base t v)
    (hW : DataW.Whole enc Tryz.prog Tryz.f7.params.toList Rows.gunMovesSpec.vars false W args.toList ds gs before) (hL : laidMetH Tryz.prog Rows.gunMovesRow.laid W) :
    Calls Tryz.prog 7 args W fun e W' => ∃ v, e = .returned v ∧ Rows.gunMovesSpec.post enc Tryz.prog Tryz.f7 false true false false W args v W' := by
  have hW' := hW
  obtain ⟨p, q, hA0, hV, rfl, hfz, hnd⟩ := hW
  have hA : DataW.TrodAll enc Tryz.prog W 0 (fun _ => true) true Tryz.f7.params.toList args.toList ds p := hA0
  rw [params7] at hA hval
  obtain ⟨v0, vs0, d0, ds0, p0, q0, hargs, rfl, rfl, h0, r0⟩ := trodAll_cons hA
  obtain ⟨v1, vs1, d1, ds1, p1, q1, rfl, rfl, rfl, h1, r1⟩ := trodAll_cons r0
  obtain ⟨v2, vs2, d2, ds2, p2, q2, rfl, rfl, rfl, h2, r2⟩ := trodAll_cons r1
  obtain ⟨rfl, rfl, rfl⟩ := trodAll_nil r2
  obtain rfl : args = #[v0, v1, v2] := by cases args; simp_all
  obtain ⟨bx, bY, rfl, hbx, hby⟩ := open_by (hval 1 83 v1 rfl rfl) h1
  obtain ⟨s, nd, nw, rfl, hnd', hnw, hs⟩ := open_heard (hval 2 86 v2 rfl rfl) h2
  obtain ⟨b1, o1, cs1, a, m, c1, ns, a1, a2, a3, a4, a5, a6, a7, a8⟩ := repU (lies0 hL) hs
  have hc : Calls Tryz.prog 7 #[v0, .agg ⟨[iv8 bx, iv8 bY]⟩, .agg ⟨[s, bv nd, bv nw]⟩] W fun e W' => e = .returned (.bool true) ∧ Below W.heap.size W W' := by
    rcases open_str (hval 0 24 v0 rfl rfl) h0 with rfl | ⟨b, o, c, l, rfl, hl, cs, t, fz, hw, hcs⟩
    · obtain ⟨cc, ct, cz, ce, _⟩ := lies0 hL
      refine lawCalls (f := 7) (by kernel_rfl) (lies0 hL) (lies3 hL) [⟨0, 0, []⟩, ⟨b1, o1, cs1⟩] ?_ (args0 := [nilV, .agg ⟨[iv8 bx, iv8 bY]⟩, .agg ⟨[.slice a m c1, bv nd, bv nw]⟩]) (args := #[nilV, .agg ⟨[iv8 bx, iv8 bY]⟩, .agg ⟨[s, bv nd, bv nw]⟩]) ?_ ?_ (w7n bx bY a m c1 nd nw o1 cs1)
      · intro v hv
        rcases List.mem_cons.1 hv with rfl | hv
        · exact ⟨trivial, cc, ct, cz, ce, fun i hi => by simp at hi⟩
        · rw [List.mem_singleton] at hv
          subst hv
          refine ⟨scL_af _ _ a1, ?_⟩
          obtain ⟨c, t, fz, e1, e2⟩ := a2
          exact ⟨c, t, fz, e1, fun i hi => by rw [denL_af _ _ a1]; exact e2 i hi⟩
      · exact ⟨⟨trivial, trivial⟩, ⟨trivial, trivial, trivial⟩, ⟨a7 _ (by simp), trivial, trivial, trivial⟩, trivial⟩
      · have e := a3 (wloc [⟨0, 0, []⟩, ⟨b1, o1, cs1⟩]) rfl
        simp only [denL, den] at e ⊢
        rw [e]
    · have hw7 := w7 l bx bY a m c1 ns nd nw o c o1 cs1 hl hbx hby hnd' hnw a5 (fun h8 => a4 (by omega)) (fun _ => a6 _) (fun p => scL_af p _ a1)
      refine lawCalls (f := 7) (by kernel_rfl) (lies0 hL) (lies3 hL) [⟨b, o, gcs l⟩, ⟨b1, o1, cs1⟩] ?_ (args0 := [strV o l.length c, .agg ⟨[iv8 bx, iv8 bY]⟩, .agg ⟨[.slice a m c1, bv nd, bv nw]⟩]) (args := #[.agg ⟨[.slice (some ⟨b, o, none⟩) l.length c]⟩, .agg ⟨[iv8 bx, iv8 bY]⟩, .agg ⟨[s, bv nd, bv nw]⟩]) ?_ ?_ hw7
      · intro v hv
        rcases List.mem_cons.1 hv with rfl | hv
        · exact ⟨scL_gcs _ l, cs, t, fz, hw, fun i hi => by rw [denL_af _ _ (afL_gcs l)]; exact hcs i hi⟩
        · rw [List.mem_singleton] at hv
          subst hv
          refine ⟨scL_af _ _ a1, ?_⟩
          obtain ⟨c, t, fz, e1, e2⟩ := a2
          exact ⟨c, t, fz, e1, fun i hi => by rw [denL_af _ _ a1]; exact e2 i hi⟩
      · exact ⟨⟨show 10 < _ by simp, trivial⟩, ⟨trivial, trivial, trivial⟩, ⟨a7 _ (by simp), trivial, trivial, trivial⟩, trivial⟩
      · have e := a3 (wloc [⟨b, o, gcs l⟩, ⟨b1, o1, cs1⟩]) rfl
        simp only [denL, den] at e ⊢
        rw [e]
        rfl
  refine hc.mono fun e W' ⟨he, hb⟩ => ⟨_, he, ?_⟩
  refine lawPost ?_ rfl rfl rfl hW' hb
  intro t ht
  rw [params7] at ht
  simp at ht
  rcases ht with rfl | rfl | rfl
  · exact ⟨by kernel_rfl, by rw [show Tryz.prog.types.size = 405 by kernel_rfl]; decide⟩
  · exact ⟨by kernel_rfl, by rw [show Tryz.prog.types.size = 405 by kernel_rfl]; decide⟩
  · exact ⟨by kernel_rfl, by rw [show Tryz.prog.types.size = 405 by kernel_rfl]; decide⟩
abbrev wit : Array Value := #[.agg #[.slice none 0 0], .agg #[iv8 0, iv8 0], .agg #[.slice none 0 0, bv 0, bv 0]]
theorem reads (os : Os) {H : Type} (enc : TypeId × Value → H) : ∃ ds places, DataW.whole enc Tryz.prog ((laidWorld os).forCall (fun _ _ => 0) ⟨#[], wit, []⟩).memory Tryz.f7.params.toList Rows.gunMovesSpec.vars false wit.toList 8 = some (ds, [], places) :=
  ⟨[.agg [.nil], .agg [.lit (.int .i8 0), .lit (.int .i8 0)], .agg [.nil, .lit (.int .u8 0), .lit (.int .u8 0)]], [], by kernel_rfl⟩
set_option maxRecDepth 100000 in
theorem lifted (os : Os) (started : os.Started) (H : Type) (enc : TypeId × Value → H) (F : Stop.Interp) :
    ReturnsInHanded {} Tryz.checked os 7 .any ((OpenSpec.ofChange Rows.gunMovesSpec).preRow enc Tryz.prog Tryz.f7 Rows.gunMovesRow.domain false Rows.gunMovesRow.laid) (((OpenSpec.ofChange Rows.gunMovesSpec).at F).post enc Tryz.prog Tryz.f7 false true false false) := by
  obtain ⟨ds, places, hx⟩ := reads os enc
  refine returnsInHanded_of_row (C := Tryz.checked) (s := OpenSpec.ofChange Rows.gunMovesSpec) own started (by kernel_rfl) Tryz.func7
    (witness_row_at (enc := enc) (C := Tryz.checked) false (laidWorld os) wit rfl (by kernel_rfl) (by kernel_rfl) (by kernel_rfl)
      (OpenSpec.preRow_of_cond 8 hx (by kernel_rfl) (fun k hk => by cases hk) (by kernel_rfl) (laid_met3 os _ _ _))) ?_
  intro W base args ds gs before hval hW _ _ _ hL _ _
  exact contract H enc W base args ds gs before hval hW hL
end gunMoves
end Go.Proofs.YtndlfijfjglkdaaGreatDoor

namespace Go.Proofs.YtndlfijfjglkdaaGreatDoor
open Go Go.Ab Go.Proofs Go.ChangeShapes Go.WideShapes Go.ChangeAt Go.RowKit
namespace gunMoves
theorem fnum : Tryz.prog.funcNamed "moveout/moveoutlaw03.GunMoves" = some 7 := by kernel_rfl
theorem inst : Tryz.f7.isInstance Tryz.prog Rows.gunMovesRow.origin Rows.gunMovesRow.targs := of_decide_eq_true (by kernel_rfl)
theorem wrapper : Tryz.f7.isWrapper Tryz.prog Rows.gunMovesRow.wrapper Rows.gunMovesRow.mainSum := by unfold Func.isWrapper; first | (rw [if_pos (by decide +kernel)]; kernel_rfl) | (rw [if_neg (by decide +kernel)]; exact ⟨rfl, rfl⟩)
set_option maxRecDepth 100000 in
theorem said : Rows.GunMovesSaid :=
  OpenClaim.holds_of_cond 7 Tryz.f7 rfl rfl rfl rfl rfl rfl rfl ⟨rfl, rfl, rfl, rfl, rfl⟩ rfl rfl rfl rfl rfl fnum Tryz.func7 facts inst wrapper
    (fun os started H enc _ F => by rw [OpenClaim.pre_eq_preRow]; exact lifted os started H enc F)
theorem looks : true = Tryz.prog.looks [] := by kernel_rfl
theorem standIn : ∀ t, t = 24 ∨ t = 83 ∨ t = 86 → Tryz.prog.wantsStandIn t = false := by
  rintro t (rfl | rfl | rfl) <;> kernel_rfl
theorem plain (f : FuncId) (fn : Func) (hf : Tryz.pinned.checked.prog.funcNamed "moveout/moveoutlaw03.GunMoves" = some f) (hfn : Tryz.pinned.checked.prog.funcs[f]? = some fn) :
    true = Tryz.pinned.checked.prog.looks [] ∧ ∀ (j : Nat) t, fn.params[j]? = some t → Tryz.pinned.checked.prog.wantsStandIn t = false := by
  obtain rfl : f = 7 := Option.some.inj (fnum.symm.trans hf) |>.symm
  obtain rfl : fn = Tryz.f7 := (Option.some.inj (Tryz.func7.symm.trans hfn)).symm
  refine ⟨looks, fun j t ht => ?_⟩
  rw [params7] at ht
  exact standIn t (by simpa using Array.mem_of_getElem? ht)
theorem wf : OpenClaim.wfByText (OpenSpec.ofChange Rows.gunMovesSpec) Rows.gunMovesRow = true := by kernel_rfl
theorem main : Tryz.prog.mainIs = some ("e00eecd8ca05e183972abfbf043f5ed2bc813bd519e3ebd189d9b51d2f935a9d" |> fun s => (true, s.toList)) := by kernel_rfl
theorem goes : false = Rows.gunMovesRow.goesBy Tryz.prog := by kernel_rfl
set_option maxRecDepth 100000 in
theorem card : Rows.GunMovesCardSaid :=
  Claim7.holds_tied_plain_at .later [] _ _ _ _ said (fun _ h => by cases h) wf (fun _ h => by cases h) gunMoves_row_tie rfl ⟨rfl, rfl⟩ main rfl plain goes
end gunMoves
end Go.Proofs.YtndlfijfjglkdaaGreatDoor
