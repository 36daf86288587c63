/-
The law GunSignatures returns true for every string of guns, all shifts, every direction and every width that are handed in, and its arguments read afterwards as before. Conditions: those of the given row (the four laid variables hold what their text lays), tied by the given card.
-/
import Derived.Test.YtndlfijfjglkdaaGreatDoorGf
import Derived.Test.YtndlfijfjglkdaaGreatDoorGu
import Derived.Test.YtndlfijfjglkdaaGreatDoorQu
namespace Go.Proofs.YtndlfijfjglkdaaGreatDoor
open Go Go.Ab Go.Proofs Go.ChangeShapes Go.WideShapes Go.ChangeAt Go.RowKit
theorem leafs117 : leafs Tryz.prog 6 117 = some (List.replicate 8 (.int .u8)) := by kernel_rfl
theorem fits_bytes : ∀ (n : Nat) (r : List Value), fitsL (List.replicate n (.int .u8)) r → ∃ ns : List Int, r = ns.map bv ∧ ns.length = n ∧ ∀ x ∈ ns, 0 ≤ x ∧ x ≤ 255
  | 0, [], _ => ⟨[], rfl, rfl, by simp⟩
  | n + 1, v :: r, h => by
    obtain ⟨⟨x, rfl, hx⟩, h⟩ := h
    obtain ⟨ns, rfl, h2, h3⟩ := fits_bytes n r h
    refine ⟨x :: ns, rfl, by simp [h2], fun y hy => ?_⟩
    rcases List.mem_cons.1 hy with rfl | hy
    · simp [Lit.wf, IntKind.min, IntKind.max, IntKind.signed, IntKind.bits] at hx
      omega
    · exact h3 y hy
  | 0, _ :: _, h => h.elim
  | _ + 1, [], h => h.elim
set_option maxRecDepth 100000 in
theorem open_bytes {H : Type} {enc : TypeId × Value → H} {W : World} {base : Nat} {v : Value} {d : DataW H} {p : List MemPlace} (hv : Value.okWide Tryz.prog W .any base 117 v) (h : DataW.Trod enc Tryz.prog W 0 (fun _ => true) true 117 v d p) :
    ∃ ns : List Int, v = .agg ⟨ns.map bv⟩ ∧ ns.length = 8 ∧ ∀ x ∈ ns, 0 ≤ x ∧ x ≤ 255 := by
  simp only [Value.okWide, Tryz.underlying117] at hv
  obtain ⟨cs, rfl, hsz, _⟩ := hv
  obtain ⟨fuel, hf⟩ := h
  obtain ⟨l⟩ := cs
  obtain ⟨ns, h1, h2, h3⟩ := fits_bytes 8 l (leafs_ok 6 117 _ fuel _ _ leafs117 hf)
  subst h1
  exact ⟨ns, rfl, h2, h3⟩
theorem laid_met3 (os : Os) (a b c : Value) : laidMet Tryz.prog laidAll ((laidWorld os).forCall (fun _ _ => 0) ⟨#[], #[a, b, c], []⟩).memory :=
  laidMet_of_run' 8 (by kernel_rfl) (by kernel_rfl)
theorem params9 : Tryz.f9.params = #[73, 24, 117] := by kernel_rfl
namespace gunReaches
set_option maxRecDepth 100000 in
theorem contract (H : Type) (enc : TypeId × Value → H) (W : World) (base : Nat) (args : Array Value) (ds gs : List (DataW H)) (before : List MemPlace)
    (hval : ∀ (j : Nat) t v, Tryz.f9.params[j]? = some t → args[j]? = some v → Value.okWide Tryz.prog W .any base t v)
    (hW : DataW.Whole enc Tryz.prog Tryz.f9.params.toList Rows.gunReachesSpec.vars false W args.toList ds gs before) (hL : laidMetH Tryz.prog Rows.gunReachesRow.laid W) :
    Calls Tryz.prog 9 args W fun e W' => ∃ v, e = .returned v ∧ Rows.gunReachesSpec.post enc Tryz.prog Tryz.f9 false true false false W args v W' := by
  have hW' := hW
  obtain ⟨p, q, hA0, hV, rfl, hfz, hnd⟩ := hW
  have hA : DataW.TrodAll enc Tryz.prog W 0 (fun _ => true) true Tryz.f9.params.toList args.toList ds p := hA0
  rw [params9] at hA hval
  obtain ⟨v0, vs0, d0, ds0, p0, q0, hargs, rfl, rfl, h0, r0⟩ := trodAll_cons hA
  obtain ⟨v1, vs1, d1, ds1, p1, q1, rfl, rfl, rfl, h1, r1⟩ := trodAll_cons r0
  obtain ⟨v2, vs2, d2, ds2, p2, q2, rfl, rfl, rfl, h2, r2⟩ := trodAll_cons r1
  obtain ⟨rfl, rfl, rfl⟩ := trodAll_nil r2
  obtain rfl : args = #[v0, v1, v2] := by cases args; simp_all
  obtain ⟨s, f, d, p, u, e, rfl⟩ := open_line (hval 0 73 v0 rfl rfl) h0
  obtain ⟨ns, rfl, hn8, hns⟩ := open_bytes (hval 2 117 v2 rfl rfl) h2
  have hc : Calls Tryz.prog 9 #[.agg ⟨lin s f d p u e⟩, v1, .agg ⟨ns.map bv⟩] W fun e W' => e = .returned (.bool true) ∧ Below W.heap.size W W' := by
    rcases open_str (hval 1 24 v1 rfl rfl) h1 with rfl | ⟨b, o, c, l, rfl, hl, cs, t, fz, hw, hcs⟩
    · exact lawCalls (f := 9) (by kernel_rfl) (lies0 hL) (lies3 hL) [] (by simp) (args0 := [.agg ⟨lin s f d p u e⟩, nilV, .agg ⟨ns.map bv⟩]) (args := #[.agg ⟨lin s f d p u e⟩, nilV, .agg ⟨ns.map bv⟩]) (by simp) (by simp [denL, den, denL_af _ _ (afL_bv ns)]) (w9n s f d p u e ns)
    · refine lawCalls (f := 9) (by kernel_rfl) (lies0 hL) (lies3 hL) [⟨b, o, gcs l⟩] ?_ (args0 := [.agg ⟨lin s f d p u e⟩, strV o l.length c, .agg ⟨ns.map bv⟩]) (args := #[.agg ⟨lin s f d p u e⟩, .agg ⟨[.slice (some ⟨b, o, none⟩) l.length c]⟩, .agg ⟨ns.map bv⟩]) (by simp) ?_ (w9 s f d p u e l o c ns hl hn8 hns)
      · intro v hv
        rw [List.mem_singleton] at hv
        subst hv
        refine ⟨by simp, cs, t, fz, hw, fun i hi => ?_⟩
        rw [denL_af _ _ (afL_gcs l)]
        exact hcs i hi
      · simp [denL, den, denL_af _ _ (afL_bv ns), wloc]
  refine hc.mono fun e W' ⟨he, hb⟩ => ⟨_, he, ?_⟩
  refine lawPost ?_ rfl rfl rfl hW' hb
  intro t ht
  rw [params9] at ht
  simp at ht
  rcases ht with rfl | rfl | rfl
  · exact ⟨by kernel_rfl, by rw [show Tryz.prog.types.size = 405 by kernel_rfl]; decide⟩
  · exact ⟨by kernel_rfl, by rw [show Tryz.prog.types.size = 405 by kernel_rfl]; decide⟩
  · exact ⟨by kernel_rfl, by rw [show Tryz.prog.types.size = 405 by kernel_rfl]; decide⟩
abbrev wit0 : Value := .agg #[iv 0, iv 0, iv 0, iv 0, iv 0, iv 0]
abbrev wit1 : Value := .agg #[.slice none 0 0]
abbrev wit2 : Value := .agg #[bv 0, bv 0, bv 0, bv 0, bv 0, bv 0, bv 0, bv 0]
abbrev z64 (H : Type) : DataW H := .lit (.int .i64 0)
abbrev z8 (H : Type) : DataW H := .lit (.int .u8 0)
theorem reads (os : Os) {H : Type} (enc : TypeId × Value → H) : ∃ places, DataW.whole enc Tryz.prog ((laidWorld os).forCall (fun _ _ => 0) ⟨#[], #[wit0, wit1, wit2], []⟩).memory Tryz.f9.params.toList Rows.gunReachesSpec.vars false #[wit0, wit1, wit2].toList 8 = some ([.agg [z64 H, z64 H, z64 H, z64 H, z64 H, z64 H], .agg [.nil], .agg [z8 H, z8 H, z8 H, z8 H, z8 H, z8 H, z8 H, z8 H]], [], places) :=
  ⟨[], by kernel_rfl⟩
set_option maxRecDepth 100000 in
theorem lifted (os : Os) (started : os.Started) (H : Type) (enc : TypeId × Value → H) (F : Stop.Interp) :
    ReturnsInHanded {} Tryz.checked os 9 .any ((OpenSpec.ofChange Rows.gunReachesSpec).preRow enc Tryz.prog Tryz.f9 Rows.gunReachesRow.domain false Rows.gunReachesRow.laid) (((OpenSpec.ofChange Rows.gunReachesSpec).at F).post enc Tryz.prog Tryz.f9 false true false false) := by
  obtain ⟨places, hx⟩ := reads os enc
  refine returnsInHanded_of_row (C := Tryz.checked) (s := OpenSpec.ofChange Rows.gunReachesSpec) own started (by kernel_rfl) Tryz.func9
    (witness_row_at (enc := enc) (C := Tryz.checked) false (laidWorld os) #[wit0, wit1, wit2] rfl (by kernel_rfl) (by kernel_rfl) (by kernel_rfl)
      (OpenSpec.preRow_of_cond 8 hx (by kernel_rfl) (fun k hk => by cases hk) (by kernel_rfl) (laid_met3 os _ _ _))) ?_
  intro W base args ds gs before hval hW _ _ _ hL _ _
  exact contract H enc W base args ds gs before hval hW hL
end gunReaches
end Go.Proofs.YtndlfijfjglkdaaGreatDoor

namespace Go.Proofs.YtndlfijfjglkdaaGreatDoor
open Go Go.Ab Go.Proofs Go.ChangeShapes Go.WideShapes Go.ChangeAt Go.RowKit
theorem leafs3 : leafs Tryz.prog 6 3 = some [.int .i64] := by kernel_rfl
theorem leafs9 : leafs Tryz.prog 6 9 = some [.str] := by kernel_rfl
theorem fits_ints : ∀ rows : List (List Value), (∀ r ∈ rows, fitsL [.int .i64] r) → ∃ ns : List Int, rows.flatten = ns.map iv ∧ ns.length = rows.length
  | [], _ => ⟨[], rfl, rfl⟩
  | r :: rows, h => by
    obtain ⟨_, _, e1, ⟨n, rfl, hn⟩, h1⟩ := fits_cons (h r (List.mem_cons_self ..))
    obtain rfl := fits_nil h1
    obtain ⟨ns, h2, h3⟩ := fits_ints rows fun r hr => h r (List.mem_cons_of_mem _ hr)
    exact ⟨n :: ns, by rw [List.flatten_cons, h2, e1]; rfl, by simp [h3]⟩
abbrev Ints (W : World) (s : Value) : Prop := s = .slice none 0 0 ∨ ∃ (b o c : Nat) (ns : List Int), s = .slice (some ⟨b, o, none⟩) ns.length c ∧ ∃ cs t fz, W.heap[b]? = some (.cells cs t fz) ∧ ∀ i, i < (ns.map iv).length → cs[o + i]? = (ns.map iv)[i]?
set_option maxRecDepth 100000 in
theorem open_sound {H : Type} {enc : TypeId × Value → H} {W : World} {base : Nat} {v : Value} {d : DataW H} {p : List MemPlace} (hv : Value.okWide Tryz.prog W .any base 61 v) (h : DataW.Trod enc Tryz.prog W 0 (fun _ => true) true 61 v d p) :
    ∃ (s : Value) (st : ByteArray) (w : Int), v = .agg ⟨[s, sv st, iv w]⟩ ∧ Ints W s := by
  unfold Value.okWide at hv
  rw [Tryz.underlying61] at hv
  obtain ⟨cs, rfl, hsz, ts, hts, _, hrow⟩ := hv
  rw [show Tryz.prog.cellTypes Tryz.prog.depth 61 = some [45, 9, 3] by kernel_rfl] at hts
  injection hts with hts; subst hts
  rw [show Tryz.prog.cellsOf 61 = 3 by kernel_rfl] at hsz
  obtain ⟨l⟩ := cs
  match l, hsz with
  | [v0, v1, v2], _ =>
    obtain ⟨u', h2, h3⟩ := hrow 0 v0 rfl
    obtain rfl : 45 = u' := by simpa using h2
    obtain ⟨fuel, h⟩ := h
    obtain ⟨xs, m, rfl, _, hlen, hxl, hel⟩ := DataW.trod_struct Tryz.underlying61 h
    have key : ∀ j (f : Field), (match Tryz.prog.underlying 61 with | some (.struct fs) => fs[j]? | _ => none) = some f → ∃ y, DataW.trod enc Tryz.prog W 0 (fun _ => true) true m f.type (([v0, v1, v2].drop f.offset).take (Tryz.prog.cellsOf f.type)) = some y := fun j f hf => by
      rw [Tryz.underlying61] at hf
      have h4 := hel j f hf
      have hpos := (Array.getElem?_eq_some_iff.1 hf).1
      obtain ⟨y, hy⟩ : ∃ y, xs[j]? = some y := ⟨xs[j]'(by omega), by simp⟩
      rw [hy] at h4
      exact ⟨y, by simpa [Value.cells] using h4⟩
    obtain ⟨y0, k0⟩ := key 0 _ (by rw [Tryz.underlying61]; rfl)
    obtain ⟨y1, k1⟩ := key 1 _ (by rw [Tryz.underlying61]; rfl)
    obtain ⟨y2, k2⟩ := key 2 _ (by rw [Tryz.underlying61]; rfl)
    have e0 : (([v0, v1, v2].drop 0).take (Tryz.prog.cellsOf 45)) = [v0] := by kernel_rfl
    have e1 : (([v0, v1, v2].drop 1).take (Tryz.prog.cellsOf 9)) = [v1] := by kernel_rfl
    have e2 : (([v0, v1, v2].drop 2).take (Tryz.prog.cellsOf 3)) = [v2] := by kernel_rfl
    have k0' : DataW.trod enc Tryz.prog W 0 (fun _ => true) true m 45 [v0] = some y0 := by rw [← e0]; exact k0
    have l1 : fitsL [.str] [v1] := by rw [← e1]; exact leafs_ok 6 9 _ m _ y1 leafs9 k1
    have l2 : fitsL [.int .i64] [v2] := by rw [← e2]; exact leafs_ok 6 3 _ m _ y2 leafs3 k2
    obtain ⟨⟨st, rfl, _⟩, _⟩ := l1
    obtain ⟨⟨w, rfl, _⟩, _⟩ := l2
    refine ⟨v0, st, w, rfl, ?_⟩
    rcases handed_slice (d := 6) Tryz.underlying45 leafs3 (by kernel_rfl) (by simp) h3 k0' with h0 | ⟨b, o, len, cap, rows, e, h5, h6, h7, h8, cs, t, fz, hw, hc⟩
    · exact .inl h0
    · obtain ⟨ns, f1, f2⟩ := fits_ints rows h8
      have : len = ns.length := by omega
      subst this
      rw [f1] at hc
      exact .inr ⟨b, o, cap, ns, e, cs, t, fz, hw, hc⟩
theorem repI {W : World} (h0 : Lies W 0 names0) {s : Value} (h : Ints W s) :
    ∃ (b o : Nat) (cs : List Value) (a : Option Addr) (m c : Nat) (ns : List Int), afL cs = true ∧ (∃ c t fz, W.heap[b]? = some (.cells c t fz) ∧ ∀ i, i < cs.length → c[o + i]? = cs[i]?) ∧ (∀ φ : Vl, φ.loc 11 = b → den φ (.slice a m c) = s) ∧
      (ns.length < 2147483648 → ∀ G : Heap, hget G 11 = some (.inp o cs) → intsW G (.slice a m c) = some ns) ∧ (∀ ρ, renL ρ cs = cs) ∧ (∀ olds, ren (rnm 12 olds) (.slice a m c) = .slice a m c) ∧ (∀ p : Nat → Prop, p 11 → sc p (.slice a m c)) ∧ m = ns.length := by
  rcases h with rfl | ⟨b, o, c, ns, rfl, cs, t, fz, hw, hc⟩
  · obtain ⟨c, t, fz, e1, _⟩ := h0
    exact ⟨0, 0, [], none, 0, 0, [], rfl, ⟨c, t, fz, e1, fun i hi => by simp at hi⟩, fun φ _ => by simp [den], fun _ G _ => rfl, fun _ => rfl, fun _ => rfl, fun _ _ => trivial, rfl⟩
  · refine ⟨b, o, ns.map iv, some ⟨11, o, none⟩, ns.length, c, ns, afL_iv ns, ⟨cs, t, fz, hw, hc⟩, fun φ hφ => by simp [den, hφ], fun h31 G hG => ?_, fun ρ => renL_iv ρ ns, fun olds => by simp [ren, rnm], fun p hp => hp, rfl⟩
    unfold intsW intsAt
    simp [hG, List.take_of_length_le, intsOf_iv, h31]
/-- a handed string of guns, as one view of two shows it -/
theorem repS2 {W : World} (h0 : Lies W 0 names0) {v : Value} (h : v = nilV ∨ ∃ (b o c : Nat) (l : List Gun), v = .agg ⟨[.slice (some ⟨b, o, none⟩) l.length c]⟩ ∧ l.length < 2 ^ 63 ∧ ∃ cs t fz, W.heap[b]? = some (.cells cs t fz) ∧ ∀ i, i < (gcs l).length → cs[o + i]? = (gcs l)[i]?) :
    ∃ (b o : Nat) (cs : List Value) (a : Option Addr) (m c : Nat) (l : List Gun), afL cs = true ∧ (∃ c t fz, W.heap[b]? = some (.cells c t fz) ∧ ∀ i, i < cs.length → c[o + i]? = cs[i]?) ∧ (∀ φ : Vl, φ.loc 10 = b → den φ (.agg ⟨[.slice a m c]⟩) = v) ∧
      (∀ G : Heap, hget G 10 = some (.inp o cs) → strAt G (.agg ⟨[.slice a m c]⟩) = some l) ∧ l.length < 2 ^ 63 ∧ (∀ ρ, renL ρ cs = cs) ∧ (∀ olds, ren (rnm 12 olds) (.slice a m c) = .slice a m c) ∧ (∀ p : Nat → Prop, p 10 → sc p (.slice a m c)) ∧ m = l.length := by
  rcases h with rfl | ⟨b, o, c, l, rfl, hl, cs, t, fz, hw, hc⟩
  · obtain ⟨c, t, fz, e1, _⟩ := h0
    exact ⟨0, 0, [], none, 0, 0, [], rfl, ⟨c, t, fz, e1, fun i hi => by simp at hi⟩, fun φ _ => by simp [den, denL], fun G _ => rfl, by simp, fun _ => rfl, fun _ => rfl, fun _ _ => trivial, rfl⟩
  · refine ⟨b, o, gcs l, some ⟨10, o, none⟩, l.length, c, l, afL_gcs l, ⟨cs, t, fz, hw, hc⟩, fun φ hφ => by simp [den, denL, hφ], fun G hG => ?_, hl, fun ρ => renL_gcs ρ l, fun olds => by simp [ren, rnm], fun p hp => hp, rfl⟩
    unfold strAt gunsAt
    simp [hG, List.take_of_length_le, gunsOf_gcs, show l.length < 9223372036854775808 by omega]
theorem laid_met2 (os : Os) (a b : Value) : laidMet Tryz.prog laidAll ((laidWorld os).forCall (fun _ _ => 0) ⟨#[], #[a, b], []⟩).memory :=
  laidMet_of_run' 8 (by kernel_rfl) (by kernel_rfl)
theorem params5 : Tryz.f5.params = #[24, 61] := by kernel_rfl
namespace gunSignatures
set_option maxRecDepth 100000 in
theorem contract (H : Type) (enc : TypeId × Value → H) (W : World) (base : Nat) (args : Array Value) (ds gs : List (DataW H)) (before : List MemPlace)
    (hval : ∀ (j : Nat) t v, Tryz.f5.params[j]? = some t → args[j]? = some v → Value.okWide Tryz.prog W .any base t v)
    (hW : DataW.Whole enc Tryz.prog Tryz.f5.params.toList Rows.gunSignaturesSpec.vars false W args.toList ds gs before) (hL : laidMetH Tryz.prog Rows.gunSignaturesRow.laid W) :
    Calls Tryz.prog 5 args W fun e W' => ∃ v, e = .returned v ∧ Rows.gunSignaturesSpec.post enc Tryz.prog Tryz.f5 false true false false W args v W' := by
  have hW' := hW
  obtain ⟨p, q, hA0, hV, rfl, hfz, hnd⟩ := hW
  have hA : DataW.TrodAll enc Tryz.prog W 0 (fun _ => true) true Tryz.f5.params.toList args.toList ds p := hA0
  rw [params5] at hA hval
  obtain ⟨v0, vs0, d0, ds0, p0, q0, hargs, rfl, rfl, h0, r0⟩ := trodAll_cons hA
  obtain ⟨v1, vs1, d1, ds1, p1, q1, rfl, rfl, rfl, h1, r1⟩ := trodAll_cons r0
  obtain ⟨rfl, rfl, rfl⟩ := trodAll_nil r1
  obtain rfl : args = #[v0, v1] := by cases args; simp_all
  obtain ⟨b0, o0, cs0, a, m, c, l, a1, a2, a3, a4, a5, a6, a7, a8, _⟩ := repS2 (lies0 hL) (open_str (hval 0 24 v0 rfl rfl) h0)
  obtain ⟨s, st, w, rfl, hs⟩ := open_sound (hval 1 61 v1 rfl rfl) h1
  obtain ⟨b1, o1, cs1, e, m1, c1, sh, e1, e2, e3, e4, e5, e6, e7, e8⟩ := repI (lies0 hL) hs
  have hw := w5 a m c l e m1 c1 sh st w o0 cs0 o1 cs1 a4 a5 e8 e4 (fun _ => a6 _) (fun _ => e5 _) a7 e6 (fun p => scL_af p _ a1) (fun p => scL_af p _ e1) a8 e7
  have hc : Calls Tryz.prog 5 #[v0, .agg ⟨[s, sv st, iv w]⟩] W fun e W' => e = .returned (.bool true) ∧ Below W.heap.size W W' := by
    refine lawCalls (f := 5) (by kernel_rfl) (lies0 hL) (lies3 hL) [⟨b0, o0, cs0⟩, ⟨b1, o1, cs1⟩] ?_ (args0 := [.agg ⟨[.slice a m c]⟩, .agg ⟨[.slice e m1 c1, sv st, iv w]⟩]) (args := #[v0, .agg ⟨[s, sv st, iv w]⟩]) ?_ ?_ hw
    · intro v hv
      rcases List.mem_cons.1 hv with rfl | hv
      · refine ⟨scL_af _ _ a1, ?_⟩
        obtain ⟨c, t, fz, g1, g2⟩ := a2
        exact ⟨c, t, fz, g1, fun i hi => by rw [denL_af _ _ a1]; exact g2 i hi⟩
      · rw [List.mem_singleton] at hv
        subst hv
        refine ⟨scL_af _ _ e1, ?_⟩
        obtain ⟨c, t, fz, g1, g2⟩ := e2
        exact ⟨c, t, fz, g1, fun i hi => by rw [denL_af _ _ e1]; exact g2 i hi⟩
    · exact ⟨⟨a8 _ (by simp), trivial⟩, ⟨e7 _ (by simp), trivial, trivial, trivial⟩, trivial⟩
    · have f1 := a3 (wloc [⟨b0, o0, cs0⟩, ⟨b1, o1, cs1⟩]) rfl
      have f2 := e3 (wloc [⟨b0, o0, cs0⟩, ⟨b1, o1, cs1⟩]) rfl
      simp only [denL, den] at f1 f2 ⊢
      rw [f1, f2]
  refine hc.mono fun e W' ⟨he, hb⟩ => ⟨_, he, ?_⟩
  refine lawPost ?_ rfl rfl rfl hW' hb
  intro t ht
  rw [params5] at ht
  simp at ht
  rcases ht with rfl | rfl
  · exact ⟨by kernel_rfl, by rw [show Tryz.prog.types.size = 405 by kernel_rfl]; decide⟩
  · exact ⟨by kernel_rfl, by rw [show Tryz.prog.types.size = 405 by kernel_rfl]; decide⟩
abbrev wit : Array Value := #[.agg #[.slice none 0 0], .agg #[.slice none 0 0, sv ⟨#[]⟩, iv 0]]
theorem reads (os : Os) {H : Type} (enc : TypeId × Value → H) : ∃ ds places, DataW.whole enc Tryz.prog ((laidWorld os).forCall (fun _ _ => 0) ⟨#[], wit, []⟩).memory Tryz.f5.params.toList Rows.gunSignaturesSpec.vars false wit.toList 8 = some (ds, [], places) :=
  ⟨[.agg [.nil], .agg [.nil, .lit (.string []), .lit (.int .i64 0)]], [], by kernel_rfl⟩
set_option maxRecDepth 100000 in
theorem lifted (os : Os) (started : os.Started) (H : Type) (enc : TypeId × Value → H) (F : Stop.Interp) :
    ReturnsInHanded {} Tryz.checked os 5 .any ((OpenSpec.ofChange Rows.gunSignaturesSpec).preRow enc Tryz.prog Tryz.f5 Rows.gunSignaturesRow.domain false Rows.gunSignaturesRow.laid) (((OpenSpec.ofChange Rows.gunSignaturesSpec).at F).post enc Tryz.prog Tryz.f5 false true false false) := by
  obtain ⟨ds, places, hx⟩ := reads os enc
  refine returnsInHanded_of_row (C := Tryz.checked) (s := OpenSpec.ofChange Rows.gunSignaturesSpec) own started (by kernel_rfl) Tryz.func5
    (witness_row_at (enc := enc) (C := Tryz.checked) false (laidWorld os) wit rfl (by kernel_rfl) (by kernel_rfl) (by kernel_rfl)
      (OpenSpec.preRow_of_cond 8 hx (by kernel_rfl) (fun k hk => by cases hk) (by kernel_rfl) (laid_met2 os _ _))) ?_
  intro W base args ds gs before hval hW _ _ _ hL _ _
  exact contract H enc W base args ds gs before hval hW hL
end gunSignatures
end Go.Proofs.YtndlfijfjglkdaaGreatDoor

namespace Go.Proofs.YtndlfijfjglkdaaGreatDoor
open Go Go.Ab Go.Proofs Go.ChangeShapes Go.WideShapes Go.ChangeAt Go.RowKit
namespace gunSignatures
theorem fnum : Tryz.prog.funcNamed "moveout/moveoutlaw03.GunSignatures" = some 5 := by kernel_rfl
theorem inst : Tryz.f5.isInstance Tryz.prog Rows.gunSignaturesRow.origin Rows.gunSignaturesRow.targs := of_decide_eq_true (by kernel_rfl)
theorem wrapper : Tryz.f5.isWrapper Tryz.prog Rows.gunSignaturesRow.wrapper Rows.gunSignaturesRow.mainSum := by unfold Func.isWrapper; first | (rw [if_pos (by decide +kernel)]; kernel_rfl) | (rw [if_neg (by decide +kernel)]; exact ⟨rfl, rfl⟩)
set_option maxRecDepth 100000 in
theorem said : Rows.GunSignaturesSaid :=
  OpenClaim.holds_of_cond 5 Tryz.f5 rfl rfl rfl rfl rfl rfl rfl ⟨rfl, rfl, rfl, rfl, rfl⟩ rfl rfl rfl rfl rfl fnum Tryz.func5 facts inst wrapper
    (fun os started H enc _ F => by rw [OpenClaim.pre_eq_preRow]; exact lifted os started H enc F)
theorem looks : true = Tryz.prog.looks [] := by kernel_rfl
theorem standIn : ∀ t, t = 24 ∨ t = 61 → Tryz.prog.wantsStandIn t = false := by
  rintro t (rfl | rfl) <;> kernel_rfl
theorem plain (f : FuncId) (fn : Func) (hf : Tryz.pinned.checked.prog.funcNamed "moveout/moveoutlaw03.GunSignatures" = some f) (hfn : Tryz.pinned.checked.prog.funcs[f]? = some fn) :
    true = Tryz.pinned.checked.prog.looks [] ∧ ∀ (j : Nat) t, fn.params[j]? = some t → Tryz.pinned.checked.prog.wantsStandIn t = false := by
  obtain rfl : f = 5 := Option.some.inj (fnum.symm.trans hf) |>.symm
  obtain rfl : fn = Tryz.f5 := (Option.some.inj (Tryz.func5.symm.trans hfn)).symm
  refine ⟨looks, fun j t ht => ?_⟩
  rw [params5] at ht
  exact standIn t (by simpa using Array.mem_of_getElem? ht)
theorem wf : OpenClaim.wfByText (OpenSpec.ofChange Rows.gunSignaturesSpec) Rows.gunSignaturesRow = true := by kernel_rfl
theorem main : Tryz.prog.mainIs = some ("e00eecd8ca05e183972abfbf043f5ed2bc813bd519e3ebd189d9b51d2f935a9d" |> fun s => (true, s.toList)) := by kernel_rfl
theorem goes : false = Rows.gunSignaturesRow.goesBy Tryz.prog := by kernel_rfl
set_option maxRecDepth 100000 in
theorem card : Rows.GunSignaturesCardSaid :=
  Claim7.holds_tied_plain_at .later [] _ _ _ _ said (fun _ h => by cases h) wf (fun _ h => by cases h) gunSignatures_row_tie rfl ⟨rfl, rfl⟩ main rfl plain goes
end gunSignatures
end Go.Proofs.YtndlfijfjglkdaaGreatDoor
