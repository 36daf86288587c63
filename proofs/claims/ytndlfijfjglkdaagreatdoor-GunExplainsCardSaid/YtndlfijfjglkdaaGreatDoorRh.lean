/-
The law GunExplains returns true for every string of guns, every direction and every list of samples that are handed in, and its arguments read afterwards as before. Conditions: those of the given row (the four laid variables hold what their text lays), tied by the given card.
-/
import Derived.Test.YtndlfijfjglkdaaGreatDoorRe
import Derived.Test.YtndlfijfjglkdaaGreatDoorRg
import Derived.Test.YtndlfijfjglkdaaGreatDoorFa
import Derived.Test.YtndlfijfjglkdaaGreatDoorPa
namespace Go.Proofs.YtndlfijfjglkdaaGreatDoor
open Go Go.Ab Go.Proofs Go.ChangeShapes Go.WideShapes Go.ChangeAt Go.RowKit
theorem repG {W : World} (h0 : Lies W 0 names0) {v : Value} (h : v = nilV ∨ ∃ (b o c : Nat) (l : List Gun), v = .agg ⟨[.slice (some ⟨b, o, none⟩) l.length c]⟩ ∧ l.length < 2 ^ 63 ∧ ∃ cs t fz, W.heap[b]? = some (.cells cs t fz) ∧ ∀ i, i < (gcs l).length → cs[o + i]? = (gcs l)[i]?) :
   ∃ (b o : Nat) (cs : List Value) (sl : Value) (l : List Gun), afL cs = true ∧ (∃ c t fz, W.heap[b]? = some (.cells c t fz) ∧ ∀ i, i < cs.length → c[o + i]? = cs[i]?) ∧ (∀ φ : Vl, φ.loc 10 = b → den φ (.agg ⟨[sl]⟩) = v) ∧
     (∀ G : Heap, hget G 10 = some (.inp o cs) → strAt G (.agg ⟨[sl]⟩) = some l) ∧ (∀ p : Nat → Prop, p 10 → sc p sl) := by
 rcases h with rfl | ⟨b, o, c, l, rfl, hl, cs, t, fz, hw, hc⟩
 · obtain ⟨c, t, fz, e1, _⟩ := h0
   exact ⟨0, 0, [], .slice none 0 0, [], rfl, ⟨c, t, fz, e1, fun i hi => by simp at hi⟩, fun φ _ => by simp [den, denL], fun G _ => rfl, fun _ _ => trivial⟩
 · refine ⟨b, o, gcs l, .slice (some ⟨10, o, none⟩) l.length c, l, afL_gcs l, ⟨cs, t, fz, hw, hc⟩, fun φ hφ => by simp [den, denL, hφ], fun G hG => ?_, fun p hp => hp⟩
   unfold strAt gunsAt
   simp [hG, List.take_of_length_le, gunsOf_gcs, show l.length < 9223372036854775808 by omega]
end Go.Proofs.YtndlfijfjglkdaaGreatDoor

namespace Go.Proofs.YtndlfijfjglkdaaGreatDoor
open Go Go.Ab Go.Proofs Go.ChangeShapes Go.WideShapes Go.ChangeAt Go.RowKit
theorem leafs98 : leafs Tryz.prog 6 98 = some [.flt .f32] := by kernel_rfl
theorem fits_flts : ∀ rows : List (List Value), (∀ r ∈ rows, fitsL [.flt .f32] r) → ∃ fs : List Nat, rows.flatten = fs.map fl ∧ fs.length = rows.length
 | [], _ => ⟨[], rfl, rfl⟩
 | r :: rows, h => by
   obtain ⟨_, _, e1, ⟨b, rfl⟩, h1⟩ := fits_cons (h r (List.mem_cons_self ..))
   obtain rfl := fits_nil h1
   obtain ⟨fs, h2, h3⟩ := fits_flts rows fun r hr => h r (List.mem_cons_of_mem _ hr)
   exact ⟨b :: fs, by rw [List.flatten_cons, h2, e1]; rfl, by simp [h3]⟩
theorem afL_fl : ∀ fs : List Nat, afL (fs.map fl) = true
 | [] => rfl
 | _ :: fs => by simp only [List.map_cons, afL, af, Bool.true_and]; exact afL_fl fs
theorem fltV_inp {H : Heap} {k o c : Nat} {fs : List Nat} (h : hget H k = some (.inp o (fs.map fl))) (hl : fs.length < 2147483648) : fltV H (.slice (some ⟨k, o, none⟩) fs.length c) = some fs := by
 have e : (fs.map fl).length = fs.length := List.length_map ..
 have hc : cellsA H k o (fs.map fl).length = some (fs.map fl) := by
   rw [cellsA_eq, h]
   simp only [Option.bind_some, cellsB]
   simp
   exact List.take_of_length_le (by simp)
 have := listV_mk (dec := decFl) (H := H) (a := ⟨k, o, none⟩) (c := c) (cs := fs.map fl) (l := fs) rfl hc e hl (fun i v hv => by
   rw [List.getElem?_map] at hv
   cases hx : fs[i]? with
   | none => rw [hx] at hv; cases hv
   | some b => rw [hx] at hv; injection hv with hv; subst hv; rfl)
 exact this
theorem repF {W : World} (h0 : Lies W 0 names0) {s : Value} (h : s = .slice none 0 0 ∨ ∃ (b o c : Nat) (fs : List Nat), s = .slice (some ⟨b, o, none⟩) fs.length c ∧ ∃ cs t fz, W.heap[b]? = some (.cells cs t fz) ∧ ∀ i, i < (fs.map fl).length → cs[o + i]? = (fs.map fl)[i]?) :
   ∃ (b o : Nat) (cs : List Value) (a : Option Addr) (c : Nat) (fs : List Nat), afL cs = true ∧ (∃ c t fz, W.heap[b]? = some (.cells c t fz) ∧ ∀ i, i < cs.length → c[o + i]? = cs[i]?) ∧ (∀ φ : Vl, φ.loc 11 = b → den φ (.slice a fs.length c) = s) ∧
     (fs.length < 2147483648 → ∀ G : Heap, hget G 11 = some (.inp o cs) → fltV G (.slice a fs.length c) = some fs) ∧ (∀ p : Nat → Prop, p 11 → sc p (.slice a fs.length c)) := by
 rcases h with rfl | ⟨b, o, c, fs, rfl, cs, t, fz, hw, hc⟩
 · obtain ⟨c, t, fz, e1, _⟩ := h0
   exact ⟨0, 0, [], none, 0, [], rfl, ⟨c, t, fz, e1, fun i hi => by simp at hi⟩, fun φ _ => by simp [den], fun _ G _ => rfl, fun _ _ => trivial⟩
 · exact ⟨b, o, fs.map fl, some ⟨11, o, none⟩, c, fs, afL_fl fs, ⟨cs, t, fz, hw, hc⟩, fun φ hφ => by simp [den, hφ], fun h31 G hG => fltV_inp hG h31, fun p hp => hp⟩
theorem lawS2 {f : FuncId} (he : enterable Tryz.prog f = true) {W : World} (h0 : Lies W 0 names0) (h3 : Lies W 3 tab3) {b0 o0 b1 o1 : Nat} {cs0 cs1 : List Value} {sl v0 : Value} {us ws : List Value} {l : List Gun} (haf : afL cs0 = true) (hcs : ∃ c t fz, W.heap[b0]? = some (.cells c t fz) ∧ ∀ i, i < cs0.length → c[o0 + i]? = cs0[i]?) (haf1 : afL cs1 = true) (hcs1 : ∃ c t fz, W.heap[b1]? = some (.cells c t fz) ∧ ∀ i, i < cs1.length → c[o1 + i]? = cs1[i]?)
   (hden : ∀ φ : Vl, φ.loc 10 = b0 → den φ (.agg ⟨[sl]⟩) = v0) (hstr : ∀ G : Heap, hget G 10 = some (.inp o0 cs0) → strAt G (.agg ⟨[sl]⟩) = some l) (hsl : ∀ p : Nat → Prop, p 10 → sc p sl) (hden1 : ∀ φ : Vl, φ.loc 11 = b1 → denL φ us = ws) (hsc1 : ∀ p : Nat → Prop, p 11 → scL p us)
   (wk : ∀ H : Heap, hget H 0 = some (.inp 0 names0) → hget H 3 = some (.inp 0 tab3) → strAt H (.agg ⟨[sl]⟩) = some l → hget H 11 = some (.inp o1 cs1) → AC Tryz.prog f (.agg ⟨[sl]⟩ :: us) H 12 (.bool true) H 12) :
   Calls Tryz.prog f (v0 :: ws).toArray W fun e W' => e = .returned (.bool true) ∧ Below W.heap.size W W' := by
 refine lawCalls he h0 h3 [⟨b0, o0, cs0⟩, ⟨b1, o1, cs1⟩] ?_ (args0 := .agg ⟨[sl]⟩ :: us) ?_ ?_ (wk _ rfl rfl (hstr _ rfl) rfl)
 · intro v hv
   rcases List.mem_cons.1 hv with rfl | hv
   · refine ⟨scL_af _ _ haf, ?_⟩
     obtain ⟨c, t, fz, e1, e2⟩ := hcs
     exact ⟨c, t, fz, e1, fun i hi => by rw [denL_af _ _ haf]; exact e2 i hi⟩
   · rw [List.mem_singleton] at hv
     subst hv
     refine ⟨scL_af _ _ haf1, ?_⟩
     obtain ⟨c, t, fz, e1, e2⟩ := hcs1
     exact ⟨c, t, fz, e1, fun i hi => by rw [denL_af _ _ haf1]; exact e2 i hi⟩
 · exact ⟨⟨hsl _ (by simp), trivial⟩, hsc1 _ (by simp)⟩
 · simp only [denL, hden (wloc [⟨b0, o0, cs0⟩, ⟨b1, o1, cs1⟩]) rfl, hden1 (wloc [⟨b0, o0, cs0⟩, ⟨b1, o1, cs1⟩]) rfl]
theorem laid_met3d (os : Os) (a b c : Value) : laidMet Tryz.prog laidAll ((laidWorld os).forCall (fun _ _ => 0) ⟨#[], #[a, b, c], []⟩).memory :=
 laidMet_of_run' 8 (by kernel_rfl) (by kernel_rfl)
theorem params12 : Tryz.f12.params = #[24, 9, 52] := by kernel_rfl
namespace gunExplains
set_option maxRecDepth 100000 in
theorem open_flts {H : Type} {enc : TypeId × Value → H} {W : World} {base : Nat} {v : Value} {d : DataW H} {p : List MemPlace} (hv : Value.okWide Tryz.prog W .any base 52 v) (h : DataW.Trod enc Tryz.prog W 0 (fun _ => true) true 52 v d p) :
   v = .slice none 0 0 ∨ ∃ (b o c : Nat) (fs : List Nat), v = .slice (some ⟨b, o, none⟩) fs.length c ∧ ∃ cs t fz, W.heap[b]? = some (.cells cs t fz) ∧ ∀ i, i < (fs.map fl).length → cs[o + i]? = (fs.map fl)[i]? := by
 obtain ⟨sa, slen, scap, rfl⟩ : ∃ a len cap, v = .slice a len cap := okWide_slice (P := Tryz.prog) (w := W) (r := .any) (base := base) Tryz.underlying52 hv
 obtain ⟨fuel, hf⟩ := h
 rcases handed_slice (d := 6) Tryz.underlying52 leafs98 (by kernel_rfl) (by simp) hv hf with h0 | ⟨b, o, len, cap, rows, e, h5, h6, h7, h8, cs, t, fz, hw, hc⟩
 · exact .inl h0
 · obtain ⟨fs, f1, f2⟩ := fits_flts rows h8
   have : len = fs.length := by omega
   subst this
   rw [f1] at hc
   exact .inr ⟨b, o, cap, fs, e, cs, t, fz, hw, hc⟩
set_option maxRecDepth 100000 in
theorem contract (H : Type) (enc : TypeId × Value → H) (W : World) (base : Nat) (args : Array Value) (ds gs : List (DataW H)) (before : List MemPlace)
   (hval : ∀ (j : Nat) t v, Tryz.f12.params[j]? = some t → args[j]? = some v → Value.okWide Tryz.prog W .any base t v)
   (hW : DataW.Whole enc Tryz.prog Tryz.f12.params.toList Rows.gunExplainsSpec.vars false W args.toList ds gs before) (hL : laidMetH Tryz.prog Rows.gunExplainsRow.laid W) :
   Calls Tryz.prog 12 args W fun e W' => ∃ v, e = .returned v ∧ Rows.gunExplainsSpec.post enc Tryz.prog Tryz.f12 false true false false W args v W' := by
 have hW' := hW
 obtain ⟨p, q, hA0, hV, rfl, hfz, hnd⟩ := hW
 have hA : DataW.TrodAll enc Tryz.prog W 0 (fun _ => true) true Tryz.f12.params.toList args.toList ds p := hA0
 rw [params12] at hA hval
 obtain ⟨v0, vs0, d0, ds0, p0, q0, hargs, rfl, rfl, h0, r0⟩ := trodAll_cons hA
 obtain ⟨v1, vs1, d1, ds1, p1, q1, rfl, rfl, rfl, h1, r1⟩ := trodAll_cons r0
 obtain ⟨v2, vs2, d2, ds2, p2, q2, rfl, rfl, rfl, h2, r2⟩ := trodAll_cons r1
 obtain ⟨rfl, rfl, rfl⟩ := trodAll_nil r2
 obtain rfl : args = #[v0, v1, v2] := by cases args; simp_all
 obtain ⟨b0, o0, cs0, sl, l, a1, a2, a3, a4, a5⟩ := repG (lies0 hL) (open_str (hval 0 24 v0 rfl rfl) h0)
 obtain ⟨s, rfl⟩ : ∃ s, v1 = .string s := okWide_string (P := Tryz.prog) Tryz.underlying9 (hval 1 9 v1 rfl rfl)
 obtain ⟨b1, o1, cs1, a, c, fs, e1, e2, e3, e4, e5⟩ := repF (lies0 hL) (open_flts (hval 2 52 v2 rfl rfl) h2)
 have hc : Calls Tryz.prog 12 #[v0, .string s, v2] W fun e W' => e = .returned (.bool true) ∧ Below W.heap.size W W' := by
   refine lawS2 (f := 12) (by kernel_rfl) (lies0 hL) (lies3 hL) (ws := [sv s, v2]) (us := [sv s, .slice a fs.length c]) a1 a2 e1 e2 a3 a4 a5 (fun φ hφ => by simp only [denL, e3 φ hφ]; rfl) (fun p hp => ⟨trivial, e5 p hp, trivial⟩) fun H g0 g3 hs hH => ?_
   by_cases hgo : goOn l s fs.length
   · have hlt : fs.length < 2147483648 := by have := hgo.2.2.2; omega
     exact w12m g0 g3 hs (e4 hlt H hH) hgo
   · exact w12e g0 g3 hs hgo
 refine hc.mono fun e W' ⟨he, hb⟩ => ⟨_, he, ?_⟩
 refine lawPost ?_ rfl rfl rfl hW' hb
 intro t ht
 rw [params12] at ht
 simp at ht
 rcases ht with rfl | rfl | rfl
 · exact ⟨by kernel_rfl, by rw [show Tryz.prog.types.size = 405 by kernel_rfl]; decide⟩
 · exact ⟨by kernel_rfl, by rw [show Tryz.prog.types.size = 405 by kernel_rfl]; decide⟩
 · exact ⟨by kernel_rfl, by rw [show Tryz.prog.types.size = 405 by kernel_rfl]; decide⟩
abbrev wit : Array Value := #[.agg #[.slice none 0 0], sv ⟨#[]⟩, .slice none 0 0]
theorem reads (os : Os) {H : Type} (enc : TypeId × Value → H) : ∃ ds places, DataW.whole enc Tryz.prog ((laidWorld os).forCall (fun _ _ => 0) ⟨#[], wit, []⟩).memory Tryz.f12.params.toList Rows.gunExplainsSpec.vars false wit.toList 8 = some (ds, [], places) :=
 ⟨[.agg [.nil], .lit (.string []), .nil], [], by kernel_rfl⟩
set_option maxRecDepth 100000 in
theorem lifted (os : Os) (started : os.Started) (H : Type) (enc : TypeId × Value → H) (F : Stop.Interp) :
   ReturnsInHanded {} Tryz.checked os 12 .any ((OpenSpec.ofChange Rows.gunExplainsSpec).preRow enc Tryz.prog Tryz.f12 Rows.gunExplainsRow.domain false Rows.gunExplainsRow.laid) (((OpenSpec.ofChange Rows.gunExplainsSpec).at F).post enc Tryz.prog Tryz.f12 false true false false) := by
 obtain ⟨ds, places, hx⟩ := reads os enc
 refine returnsInHanded_of_row (C := Tryz.checked) (s := OpenSpec.ofChange Rows.gunExplainsSpec) own started (by kernel_rfl) Tryz.func12
   (witness_row_at (enc := enc) (C := Tryz.checked) false (laidWorld os) wit rfl (by kernel_rfl) (by kernel_rfl) (by kernel_rfl)
     (OpenSpec.preRow_of_cond 8 hx (by kernel_rfl) (fun k hk => by cases hk) (by kernel_rfl) (laid_met3d os _ _ _))) ?_
 intro W base args ds gs before hval hW _ _ _ hL _ _
 exact contract H enc W base args ds gs before hval hW hL
end gunExplains
end Go.Proofs.YtndlfijfjglkdaaGreatDoor

namespace Go.Proofs.YtndlfijfjglkdaaGreatDoor
open Go
namespace gunExplains
theorem jf0 : OpenClaim.wf (OpenSpec.ofChange Rows.gunExplainsSpec) Rows.gunExplainsRow = true := by kernel_rfl
theorem jf1 : laidOutB Tryz.prog = true := jfp1
theorem jf2 : mapsRowed Tryz.prog = true := jfp2
theorem jf3 : Tryz.f12.params.all (Tryz.prog.readableRec ·) = true := by kernel_rfl
theorem jf4 : namedTie Tryz.prog Rows.gunExplainsRow.named Rows.gunExplainsSpec.vars = true := by kernel_rfl
theorem jf5 : (Rows.gunExplainsRow.stops == []) = true := by kernel_rfl
theorem jf6 : (Tryz.prog.stops == []) = true := jfp6
theorem jf7 : (Rows.gunExplainsRow.knobs == []) = true := by kernel_rfl
theorem jf8 : (Tryz.prog.stopKnobs == []) = true := jfp8
theorem jf9 : (Rows.gunExplainsRow.inPlace == Tryz.prog.inPlace 12) = true := by kernel_rfl
theorem jf10 : (Rows.gunExplainsRow.unfollowed == Tryz.prog.unfollowed 12) = true := by kernel_rfl
theorem jf11 : (Rows.gunExplainsRow.recurses == Tryz.prog.recurses 12) = true := by kernel_rfl
theorem jf12 : (Rows.gunExplainsRow.named == Tryz.prog.varsNamed 12) = true := by kernel_rfl
theorem jf13 : (Rows.gunExplainsRow.maps == (Tryz.f12.params.toList ++ Rows.gunExplainsSpec.plain.varTypes Tryz.prog).any (Tryz.prog.mapsRec ·)) = true := by kernel_rfl
theorem jf14 : (Rows.gunExplainsRow.ifaces == (Tryz.f12.params.toList ++ Rows.gunExplainsSpec.plain.varTypes Tryz.prog).any (Tryz.prog.ifacesRec ·)) = true := by kernel_rfl
theorem jf15 : (Rows.gunExplainsRow.mapsOut == Tryz.prog.mapsAmong Tryz.f12.resultTypes.toList) = true := by kernel_rfl
theorem jf16 : (Rows.gunExplainsRow.loops == (Tryz.f12.params.toList ++ Rows.gunExplainsSpec.plain.varTypes Tryz.prog).any (Tryz.prog.loopsFrom ·)) = true := by kernel_rfl
theorem jf17 : (Rows.gunExplainsRow.wideKeys == (Tryz.f12.params.toList ++ Rows.gunExplainsSpec.plain.varTypes Tryz.prog ++ Tryz.f12.resultTypes.toList).any (Tryz.prog.wideKeysFrom ·)) = true := by kernel_rfl
theorem jf18 : Rows.gunExplainsSpec.vars.all (Tryz.prog.varReadable ·) = true := by kernel_rfl
theorem jf19 : Tryz.f12.resultTypes.all (fun t => Tryz.prog.readableRec t && decide (t < Tryz.prog.types.size)) = true := by kernel_rfl
theorem jf20 : (Rows.gunExplainsRow.ifacesOut == Tryz.f12.resultTypes.toList.any (Tryz.prog.ifacesRec ·)) = true := by kernel_rfl
theorem jf21 : (Rows.gunExplainsRow.loopsOut == Tryz.f12.resultTypes.toList.any (Tryz.prog.loopsFrom ·)) = true := by kernel_rfl
theorem jf22 : (Rows.gunExplainsRow.plainKeys == Tryz.prog.plainKeys) = true := jfp22
theorem jf23 : Rows.gunExplainsRow.shortTexts.isNone = true := by kernel_rfl
theorem jf24 : Tryz.prog.stopsHeard = true := jfp24
theorem jf25 : Tryz.prog.mayEnter = true := jfp25
theorem jf26 : (Rows.gunExplainsRow.lifted == Tryz.prog.liftsFinal) = true := jfp26
theorem jf27 : (Tryz.prog.make == some Rows.gunExplainsRow.make) = true := jfp27
theorem jf28 : (Rows.gunExplainsRow.kinds == (if Rows.gunExplainsRow.domain.isEmpty then [] else Tryz.f12.params.toList.map fun t => match Tryz.prog.underlying t with | some (.int k) => some k | _ => none)) = true := by kernel_rfl
theorem jf29 : (Rows.gunExplainsRow.pinned == Rows.gunExplainsRow.pinnedBy) = true := by kernel_rfl
theorem jf30 : (Rows.gunExplainsRow.veiled == (Tryz.f12.params.toList ++ Rows.gunExplainsSpec.plain.varTypes Tryz.prog ++ Tryz.f12.resultTypes.toList).any (Tryz.prog.veiledRec ·)) = true := by kernel_rfl
theorem jf31 : OpenClaim.veiledFits Rows.gunExplainsRow Tryz.prog Tryz.f12.params.toList (Tryz.f12.params.toList ++ Rows.gunExplainsSpec.plain.varTypes Tryz.prog ++ Tryz.f12.resultTypes.toList) = true := by kernel_rfl
set_option maxRecDepth 100000 in
theorem facts : joinedFacts Tryz.prog 12 Tryz.f12 Rows.gunExplainsSpec Rows.gunExplainsRow = true := by
 unfold joinedFacts
 exact (and2 (and2 (and2 (and2 (and2 (and2 (and2 (and2 (and2 (and2 (and2 (and2 (and2 (and2 (and2 (and2 (and2 (and2 (and2 (and2 (and2 (and2 (and2 (and2 (and2 (and2 (and2 (and2 (and2 (and2 (and2 jf0 jf1) jf2) jf3) jf4) jf5) jf6) jf7) jf8) jf9) jf10) jf11) jf12) jf13) jf14) jf15) jf16) jf17) jf18) jf19) jf20) jf21) jf22) jf23) jf24) jf25) jf26) jf27) jf28) jf29) jf30) jf31)
end gunExplains
end Go.Proofs.YtndlfijfjglkdaaGreatDoor

namespace Go.Proofs.YtndlfijfjglkdaaGreatDoor
open Go Go.Ab Go.Proofs Go.ChangeShapes Go.WideShapes Go.ChangeAt Go.RowKit
namespace gunExplains
theorem fnum : Tryz.prog.funcNamed "moveout/moveoutlaw03.GunExplains" = some 12 := by kernel_rfl
theorem inst : Tryz.f12.isInstance Tryz.prog Rows.gunExplainsRow.origin Rows.gunExplainsRow.targs := of_decide_eq_true (by kernel_rfl)
theorem wrapper : Tryz.f12.isWrapper Tryz.prog Rows.gunExplainsRow.wrapper Rows.gunExplainsRow.mainSum := by unfold Func.isWrapper; first | (rw [if_pos (by decide +kernel)]; kernel_rfl) | (rw [if_neg (by decide +kernel)]; exact ⟨rfl, rfl⟩)
set_option maxRecDepth 100000 in
theorem said : Rows.GunExplainsSaid :=
 OpenClaim.holds_of_cond 12 Tryz.f12 rfl rfl rfl rfl rfl rfl rfl ⟨rfl, rfl, rfl, rfl, rfl⟩ rfl rfl rfl rfl rfl fnum Tryz.func12 facts inst wrapper
   (fun os started H enc _ F => by rw [OpenClaim.pre_eq_preRow]; exact lifted os started H enc F)
theorem looks : true = Tryz.prog.looks [] := by kernel_rfl
theorem standIn : ∀ t, t = 24 ∨ t = 9 ∨ t = 52 → Tryz.prog.wantsStandIn t = false := by
 rintro t (rfl | rfl | rfl) <;> kernel_rfl
theorem plain (f : FuncId) (fn : Func) (hf : Tryz.pinned.checked.prog.funcNamed "moveout/moveoutlaw03.GunExplains" = some f) (hfn : Tryz.pinned.checked.prog.funcs[f]? = some fn) :
   true = Tryz.pinned.checked.prog.looks [] ∧ ∀ (j : Nat) t, fn.params[j]? = some t → Tryz.pinned.checked.prog.wantsStandIn t = false := by
 obtain rfl : f = 12 := Option.some.inj (fnum.symm.trans hf) |>.symm
 obtain rfl : fn = Tryz.f12 := (Option.some.inj (Tryz.func12.symm.trans hfn)).symm
 refine ⟨looks, fun j t ht => ?_⟩
 rw [params12] at ht
 exact standIn t (by simpa using Array.mem_of_getElem? ht)
theorem wf : OpenClaim.wfByText (OpenSpec.ofChange Rows.gunExplainsSpec) Rows.gunExplainsRow = true := by kernel_rfl
theorem main : Tryz.prog.mainIs = some ("e00eecd8ca05e183972abfbf043f5ed2bc813bd519e3ebd189d9b51d2f935a9d" |> fun s => (true, s.toList)) := by kernel_rfl
theorem goes : false = Rows.gunExplainsRow.goesBy Tryz.prog := by kernel_rfl
set_option maxRecDepth 100000 in
theorem card : Rows.GunExplainsCardSaid :=
 Claim7.holds_tied_plain_at .later [] _ _ _ _ said (fun _ h => by cases h) wf (fun _ h => by cases h) gunExplains_row_tie rfl ⟨rfl, rfl⟩ main rfl plain goes
end gunExplains
end Go.Proofs.YtndlfijfjglkdaaGreatDoor
