/-
The law VelocityBack returns true for all picks and texts that are handed in, and its arguments read afterwards as before. Conditions: those of the given row (the seven laid variables hold what their text lays), tied by the given card.
-/
import Derived.Test.YtkongcnmkiihjaaGreatDoorYc
import Derived.Test.YtkongcnmkiihjaaGreatDoorFa
import Derived.Test.YtkongcnmkiihjaaGreatDoorYd
import Derived.Test.YtkongcnmkiihjaaGreatDoorAh
import Derived.Test.YtkongcnmkiihjaaGreatDoorYt
import Derived.Test.YtkongcnmkiihjaaGreatDoorQf
namespace Go.Proofs.YtkongcnmkiihjaaGreatDoor
open Go Go.Ab Go.Proofs Go.ChangeShapes Go.WideShapes Go.ChangeAt Go.RowKit
set_option maxRecDepth 100000 in
/-- a handed whole number from 0 on -/
theorem open_nat {H : Type} {enc : TypeId × Value → H} {W : World} {base : Nat} {t : TypeId} {k : IntKind} {v : Value} {d : DataW H} {p : List MemPlace} (ht : Tryz.prog.underlying t = some (.int k)) (hk : k.min = 0) (hv : Value.okWide Tryz.prog W .any base t v)
    (h : DataW.Trod enc Tryz.prog W 0 (fun _ => true) true t v d p) : ∃ n : Nat, v = .int k (n : Int) ∧ (n : Int) ≤ k.max := by
  obtain ⟨n, rfl⟩ := okWide_int (P := Tryz.prog) ht hv
  obtain ⟨fuel, hf⟩ := h
  obtain ⟨m, hc, _, hw⟩ := DataW.trod_int ht hf
  simp only [Value.cells, List.cons.injEq, Value.int.injEq, true_and, and_true] at hc
  subst hc
  simp only [Lit.wf, Bool.and_eq_true, decide_eq_true_eq, hk] at hw
  exact ⟨n.toNat, by rw [Int.toNat_of_nonneg hw.1], by rw [Int.toNat_of_nonneg hw.1]; exact hw.2⟩
theorem params5 : Tryz.f5.params = #[55, 56, 55] := by kernel_rfl
theorem tysize : Tryz.prog.types.size = 353 := by kernel_rfl
namespace velocityHyperbolas
set_option maxRecDepth 100000 in
theorem contract (H : Type) (enc : TypeId × Value → H) (W : World) (base : Nat) (args : Array Value) (ds gs : List (DataW H)) (before : List MemPlace)
    (hval : ∀ (j : Nat) t v, Tryz.f5.params[j]? = some t → args[j]? = some v → Value.okWide Tryz.prog W .any base t v)
    (hW : DataW.Whole enc Tryz.prog Tryz.f5.params.toList Rows.velocityHyperbolasSpec.vars false W args.toList ds gs before) (hL : laidMetH Tryz.prog Rows.velocityHyperbolasRow.laid W) :
    Calls Tryz.prog 5 args W fun e W' => ∃ v, e = .returned v ∧ Rows.velocityHyperbolasSpec.post enc Tryz.prog Tryz.f5 false true false false W args v W' := by
  have hW' := hW
  obtain ⟨p, q, hA0, hV, rfl, hfz, hnd⟩ := hW
  have hA : DataW.TrodAll enc Tryz.prog W 0 (fun _ => true) true Tryz.f5.params.toList args.toList ds p := hA0
  rw [params5] at hA hval
  obtain ⟨v0, vs0, d0, ds0, p0, q0, hargs, rfl, rfl, h0, r0⟩ := trodAll_cons hA
  obtain ⟨v1, vs1, d1, ds1, p1, q1, rfl, rfl, rfl, h1, r1⟩ := trodAll_cons r0
  obtain ⟨v2, vs2, d2, ds2, p2, q2, rfl, rfl, rfl, h2, r2⟩ := trodAll_cons r1
  obtain ⟨rfl, rfl, rfl⟩ := trodAll_nil r2
  obtain rfl : args = #[v0, v1, v2] := by cases args; simp_all
  obtain ⟨t, rfl, ht⟩ := open_nat Tryz.underlying55 (by decide) (hval 0 55 v0 rfl rfl) h0
  obtain ⟨x, rfl, hx⟩ := open_nat Tryz.underlying56 (by decide) (hval 1 56 v1 rfl rfl) h1
  obtain ⟨v, rfl, hv⟩ := open_nat Tryz.underlying55 (by decide) (hval 2 55 v2 rfl rfl) h2
  have e16 : IntKind.max .u16 = 65535 := by decide
  have e32 : IntKind.max .u32 = 4294967295 := by decide
  rw [e16] at ht hv
  rw [e32] at hx
  have hc := lawCalls (f := 5) (by kernel_rfl) (lies0 hL) (lies1 hL) [] (by simp) (args0 := [.int .u16 t, .int .u32 x, .int .u16 v]) (args := #[.int .u16 t, .int .u32 x, .int .u16 v]) (by simp) (by simp [denL, den]) (w5 t x v (by omega) (by omega) (by omega))
  refine hc.mono fun e W' ⟨he, hb⟩ => ⟨_, he, ?_⟩
  refine lawPost ?_ rfl rfl rfl hW' hb
  intro t ht
  rw [params5] at ht
  simp at ht
  rw [tysize]
  rcases ht with rfl | rfl | rfl
  · exact ⟨by kernel_rfl, by decide⟩
  · exact ⟨by kernel_rfl, by decide⟩
  · exact ⟨by kernel_rfl, by decide⟩
theorem reads (os : Os) {H : Type} (enc : TypeId × Value → H) : ∃ places, DataW.whole enc Tryz.prog ((laidWorld os).forCall (fun _ _ => 0) ⟨#[], #[.int .u16 0, .int .u32 0, .int .u16 0], []⟩).memory Tryz.f5.params.toList Rows.velocityHyperbolasSpec.vars false #[.int .u16 0, .int .u32 0, .int .u16 0].toList 8 = some ([.lit (.int .u16 0), .lit (.int .u32 0), .lit (.int .u16 0)], [], places) :=
  ⟨[], by kernel_rfl⟩
set_option maxRecDepth 100000 in
theorem lifted (os : Os) (started : os.Started) (H : Type) (enc : TypeId × Value → H) (F : Stop.Interp) :
    ReturnsInHanded {} Tryz.checked os 5 .any ((OpenSpec.ofChange Rows.velocityHyperbolasSpec).preRow enc Tryz.prog Tryz.f5 Rows.velocityHyperbolasRow.domain false Rows.velocityHyperbolasRow.laid) (((OpenSpec.ofChange Rows.velocityHyperbolasSpec).at F).post enc Tryz.prog Tryz.f5 false true false false) := by
  obtain ⟨places, hx⟩ := reads os enc
  refine returnsInHanded_of_row (C := Tryz.checked) (s := OpenSpec.ofChange Rows.velocityHyperbolasSpec) own started (by kernel_rfl) Tryz.func5
    (witness_row_at (enc := enc) (C := Tryz.checked) false (laidWorld os) #[.int .u16 0, .int .u32 0, .int .u16 0] rfl (by kernel_rfl) (by kernel_rfl) (by kernel_rfl)
      (OpenSpec.preRow_of_cond 8 hx (by kernel_rfl) (fun k hk => by cases hk) (by kernel_rfl) (laid_met3 os _ _ _))) ?_
  intro W base args ds gs before hval hW _ _ _ hL _ _
  exact contract H enc W base args ds gs before hval hW hL
end velocityHyperbolas
end Go.Proofs.YtkongcnmkiihjaaGreatDoor

namespace Go.Proofs.YtkongcnmkiihjaaGreatDoor
open Go Go.Ab Go.Proofs Go.ChangeShapes Go.WideShapes Go.ChangeAt Go.RowKit
theorem fits_cons {l : Leaf} {ls : List Leaf} {r : List Value} (h : fitsL (l :: ls) r) : ∃ v vs, r = v :: vs ∧ l.fits v ∧ fitsL ls vs := by
  cases r with
  | nil => exact h.elim
  | cons v vs => exact ⟨v, vs, rfl, h.1, h.2⟩
theorem fits_nil {r : List Value} (h : fitsL [] r) : r = [] := by
  cases r with
  | nil => rfl
  | cons v vs => exact h.elim
theorem leafs3 : leafs Tryz.prog 6 3 = some [.int .i64] := by kernel_rfl
theorem leafs23 : leafs Tryz.prog 6 23 = some [.int .i64, .int .i64, .int .i64] := by kernel_rfl
theorem fits_ints : ∀ rows : List (List Value), (∀ r ∈ rows, fitsL [.int .i64] r) → ∃ ns : List Int, rows.flatten = ns.map iv ∧ ns.length = rows.length
  | [], _ => ⟨[], rfl, rfl⟩
  | r :: rows, h => by
    obtain ⟨_, _, e1, ⟨n, rfl, hn⟩, h1⟩ := fits_cons (h r (List.mem_cons_self ..))
    obtain rfl := fits_nil h1
    obtain ⟨ns, h2, h3⟩ := fits_ints rows fun r hr => h r (List.mem_cons_of_mem _ hr)
    exact ⟨n :: ns, by rw [List.flatten_cons, h2, e1]; rfl, by simp [h3]⟩
set_option maxRecDepth 100000 in
theorem open_move {H : Type} {enc : TypeId × Value → H} {W : World} {base : Nat} {v : Value} {d : DataW H} {p : List MemPlace} (hv : Value.okWide Tryz.prog W .any base 23 v) (h : DataW.Trod enc Tryz.prog W 0 (fun _ => true) true 23 v d p) :
    ∃ x y z : Int, v = .agg ⟨[iv x, iv y, iv z]⟩ := by
  obtain ⟨cs, rfl, _⟩ := okWide_struct Tryz.underlying23 hv
  obtain ⟨fuel, hf⟩ := h
  have hl := leafs_ok 6 23 _ fuel _ (d, p) leafs23 hf
  obtain ⟨cl⟩ := cs
  have hl : fitsL [.int .i64, .int .i64, .int .i64] cl := by simpa [Value.cells] using hl
  obtain ⟨_, _, rfl, ⟨x, rfl, _⟩, h1⟩ := fits_cons hl
  obtain ⟨_, _, rfl, ⟨y, rfl, _⟩, h2⟩ := fits_cons h1
  obtain ⟨_, _, rfl, ⟨z, rfl, _⟩, h3⟩ := fits_cons h2
  obtain rfl := fits_nil h3
  exact ⟨x, y, z, rfl⟩
set_option maxRecDepth 100000 in
theorem open_set {H : Type} {enc : TypeId × Value → H} {W : World} {base : Nat} {v : Value} {d : DataW H} {p : List MemPlace} (hv : Value.okWide Tryz.prog W .any base 26 v) (h : DataW.Trod enc Tryz.prog W 0 (fun _ => true) true 26 v d p) :
    ∃ (sl : Value) (w s e : Int), v = setA sl w s e ∧
      (sl = .slice none 0 0 ∨ ∃ (b o c : Nat) (ns : List Int), sl = .slice (some ⟨b, o, none⟩) ns.length c ∧ ns.length ≤ maxLen ∧ ∃ cs t fz, W.heap[b]? = some (.cells cs t fz) ∧ ∀ i, i < (ns.map iv).length → cs[o + i]? = (ns.map iv)[i]?) := by
  unfold Value.okWide at hv
  rw [Tryz.underlying26] at hv
  obtain ⟨cs, rfl, hsz, ts, hts, _, hrow⟩ := hv
  rw [show Tryz.prog.cellTypes Tryz.prog.depth 26 = some [24, 3, 3, 3] by kernel_rfl] at hts
  injection hts with hts; subst hts
  rw [show Tryz.prog.cellsOf 26 = 4 by kernel_rfl] at hsz
  obtain ⟨l⟩ := cs
  match l, hsz with
  | [v0, v1, v2, v3], _ =>
    obtain ⟨u', h2, h3⟩ := hrow 0 v0 rfl
    obtain rfl : 24 = u' := by simpa using h2
    obtain ⟨fuel, h⟩ := h
    obtain ⟨xs, m, rfl, _, hlen, hxl, hel⟩ := DataW.trod_struct Tryz.underlying26 h
    have key : ∀ j (f : Field), (match Tryz.prog.underlying 26 with | some (.struct fs) => fs[j]? | _ => none) = some f → ∃ y, DataW.trod enc Tryz.prog W 0 (fun _ => true) true m f.type (([v0, v1, v2, v3].drop f.offset).take (Tryz.prog.cellsOf f.type)) = some y := fun j f hf => by
      rw [Tryz.underlying26] at hf
      have h4 := hel j f hf
      have hpos := (Array.getElem?_eq_some_iff.1 hf).1
      obtain ⟨y, hy⟩ : ∃ y, xs[j]? = some y := ⟨xs[j]'(by omega), by simp⟩
      rw [hy] at h4
      exact ⟨y, by simpa [Value.cells] using h4⟩
    obtain ⟨y0, k0⟩ := key 0 _ (by rw [Tryz.underlying26]; rfl)
    obtain ⟨y1, k1⟩ := key 1 _ (by rw [Tryz.underlying26]; rfl)
    obtain ⟨y2, k2⟩ := key 2 _ (by rw [Tryz.underlying26]; rfl)
    obtain ⟨y3, k3⟩ := key 3 _ (by rw [Tryz.underlying26]; rfl)
    have e0 : (([v0, v1, v2, v3].drop 0).take (Tryz.prog.cellsOf 24)) = [v0] := by kernel_rfl
    have e1 : (([v0, v1, v2, v3].drop 1).take (Tryz.prog.cellsOf 3)) = [v1] := by kernel_rfl
    have e2 : (([v0, v1, v2, v3].drop 2).take (Tryz.prog.cellsOf 3)) = [v2] := by kernel_rfl
    have e3 : (([v0, v1, v2, v3].drop 3).take (Tryz.prog.cellsOf 3)) = [v3] := by kernel_rfl
    have k0' : DataW.trod enc Tryz.prog W 0 (fun _ => true) true m 24 [v0] = some y0 := by rw [← e0]; exact k0
    have l1 : fitsL [.int .i64] [v1] := by rw [← e1]; exact leafs_ok 6 3 _ m _ y1 leafs3 k1
    have l2 : fitsL [.int .i64] [v2] := by rw [← e2]; exact leafs_ok 6 3 _ m _ y2 leafs3 k2
    have l3 : fitsL [.int .i64] [v3] := by rw [← e3]; exact leafs_ok 6 3 _ m _ y3 leafs3 k3
    obtain ⟨⟨n1, rfl, _⟩, _⟩ := l1
    obtain ⟨⟨n2, rfl, _⟩, _⟩ := l2
    obtain ⟨⟨n3, rfl, _⟩, _⟩ := l3
    refine ⟨v0, n1, n2, n3, rfl, ?_⟩
    rcases handed_slice (d := 6) Tryz.underlying24 leafs3 (by kernel_rfl) (by simp) h3 k0' with h0 | ⟨b, o, len, cap, rows, e, h5, h6, h7, h8, cs, t, fz, hw, hc⟩
    · exact .inl h0
    · obtain ⟨ns, f1, f2⟩ := fits_ints rows h8
      have : len = ns.length := by omega
      subst this
      rw [f1] at hc
      exact .inr ⟨b, o, cap, ns, e, by omega, cs, t, fz, hw, hc⟩
theorem params3 : Tryz.f3.params = #[23, 26] := by kernel_rfl
namespace velocityMoved
set_option maxRecDepth 100000 in
theorem contract (H : Type) (enc : TypeId × Value → H) (W : World) (base : Nat) (args : Array Value) (ds gs : List (DataW H)) (before : List MemPlace)
    (hval : ∀ (j : Nat) t v, Tryz.f3.params[j]? = some t → args[j]? = some v → Value.okWide Tryz.prog W .any base t v)
    (hW : DataW.Whole enc Tryz.prog Tryz.f3.params.toList Rows.velocityMovedSpec.vars false W args.toList ds gs before) (hL : laidMetH Tryz.prog Rows.velocityMovedRow.laid W) :
    Calls Tryz.prog 3 args W fun e W' => ∃ v, e = .returned v ∧ Rows.velocityMovedSpec.post enc Tryz.prog Tryz.f3 false true false false W args v W' := by
  have hW' := hW
  obtain ⟨p, q, hA0, hV, rfl, hfz, hnd⟩ := hW
  have hA : DataW.TrodAll enc Tryz.prog W 0 (fun _ => true) true Tryz.f3.params.toList args.toList ds p := hA0
  rw [params3] at hA hval
  obtain ⟨v0, vs0, d0, ds0, p0, q0, hargs, rfl, rfl, h0, r0⟩ := trodAll_cons hA
  obtain ⟨v1, vs1, d1, ds1, p1, q1, rfl, rfl, rfl, h1, r1⟩ := trodAll_cons r0
  obtain ⟨rfl, rfl, rfl⟩ := trodAll_nil r1
  obtain rfl : args = #[v0, v1] := by cases args; simp_all
  obtain ⟨t, q', x, rfl⟩ := open_move (hval 0 23 v0 rfl rfl) h0
  obtain ⟨sl, w, s, e, rfl, hsl⟩ := open_set (hval 1 26 v1 rfl rfl) h1
  have hc : Calls Tryz.prog 3 #[.agg ⟨[iv t, iv q', iv x]⟩, setA sl w s e] W fun e W' => e = .returned (.bool true) ∧ Below W.heap.size W W' := by
    rcases hsl with rfl | ⟨b, o, c, ns, rfl, hmax, cs, ty, fz, hw, hcs⟩
    · exact lawCalls (f := 3) (by kernel_rfl) (lies0 hL) (lies1 hL) [] (by simp) (args0 := [.agg ⟨[iv t, iv q', iv x]⟩, setA (.slice none 0 0) w s e]) (by simp [scL, sc]) (by simp [denL, den]) (w3n t q' x w s e)
    · by_cases hne : ns = []
      · subst hne
        refine lawCalls (f := 3) (by kernel_rfl) (lies0 hL) (lies1 hL) [⟨b, o, []⟩] ?_ (args0 := [.agg ⟨[iv t, iv q', iv x]⟩, setA (.slice (some ⟨9, o, none⟩) 0 c) w s e]) ?_ ?_ (w3e o c t q' x w s e)
        · intro v hv
          rw [List.mem_singleton] at hv
          subst hv
          exact ⟨trivial, cs, ty, fz, hw, fun i hi => by simp at hi⟩
        · simp [scL, sc]
        · simp [denL, den, wloc]
      · refine lawCalls (f := 3) (by kernel_rfl) (lies0 hL) (lies1 hL) [⟨b, o, ns.map iv⟩] ?_ (args0 := [.agg ⟨[iv t, iv q', iv x]⟩, setA (.slice (some ⟨9, o, none⟩) ns.length c) w s e]) ?_ ?_ (w3 ns o c hne t q' x w s e)
        · intro v hv
          rw [List.mem_singleton] at hv
          subst hv
          exact ⟨scL_af _ _ (afL_iv ns), cs, ty, fz, hw, fun i hi => by rw [denL_af _ _ (afL_iv ns)]; exact hcs i hi⟩
        · simp [scL, sc]
        · simp [denL, den, wloc]
  refine hc.mono fun e W' ⟨he, hb⟩ => ⟨_, he, ?_⟩
  refine lawPost ?_ rfl rfl rfl hW' hb
  intro t ht
  rw [params3] at ht
  simp at ht
  rw [tysize]
  rcases ht with rfl | rfl
  · exact ⟨by kernel_rfl, by decide⟩
  · exact ⟨by kernel_rfl, by decide⟩
abbrev witM : Value := .agg #[iv 0, iv 0, iv 0]
abbrev witS : Value := .agg #[.slice none 0 0, iv 0, iv 0, iv 0]
theorem reads (os : Os) {H : Type} (enc : TypeId × Value → H) : ∃ places, DataW.whole enc Tryz.prog ((laidWorld os).forCall (fun _ _ => 0) ⟨#[], #[witM, witS], []⟩).memory Tryz.f3.params.toList Rows.velocityMovedSpec.vars false #[witM, witS].toList 8 = some ([.agg [.lit (.int .i64 0), .lit (.int .i64 0), .lit (.int .i64 0)], .agg [.nil, .lit (.int .i64 0), .lit (.int .i64 0), .lit (.int .i64 0)]], [], places) :=
  ⟨[], by kernel_rfl⟩
set_option maxRecDepth 100000 in
theorem lifted (os : Os) (started : os.Started) (H : Type) (enc : TypeId × Value → H) (F : Stop.Interp) :
    ReturnsInHanded {} Tryz.checked os 3 .any ((OpenSpec.ofChange Rows.velocityMovedSpec).preRow enc Tryz.prog Tryz.f3 Rows.velocityMovedRow.domain false Rows.velocityMovedRow.laid) (((OpenSpec.ofChange Rows.velocityMovedSpec).at F).post enc Tryz.prog Tryz.f3 false true false false) := by
  obtain ⟨places, hx⟩ := reads os enc
  refine returnsInHanded_of_row (C := Tryz.checked) (s := OpenSpec.ofChange Rows.velocityMovedSpec) own started (by kernel_rfl) Tryz.func3
    (witness_row_at (enc := enc) (C := Tryz.checked) false (laidWorld os) #[witM, witS] rfl (by kernel_rfl) (by kernel_rfl) (by kernel_rfl)
      (OpenSpec.preRow_of_cond 8 hx (by kernel_rfl) (fun k hk => by cases hk) (by kernel_rfl) (laid_met2 os _ _))) ?_
  intro W base args ds gs before hval hW _ _ _ hL _ _
  exact contract H enc W base args ds gs before hval hW hL
end velocityMoved
end Go.Proofs.YtkongcnmkiihjaaGreatDoor

namespace Go.Proofs.YtkongcnmkiihjaaGreatDoor
open Go Go.Ab Go.Proofs Go.ChangeShapes Go.WideShapes Go.ChangeAt Go.RowKit
theorem leafs100 : leafs Tryz.prog 6 100 = some [.int .i64, .int .i64, .int .i64] := by kernel_rfl
theorem fits_pks : ∀ rows : List (List Value), (∀ r ∈ rows, fitsL [.int .i64, .int .i64, .int .i64] r) → ∃ l : List Pk, rows.flatten = pcs l ∧ l.length = rows.length
  | [], _ => ⟨[], rfl, rfl⟩
  | r :: rows, h => by
    obtain ⟨_, _, e1, ⟨t, rfl, _⟩, h1⟩ := fits_cons (h r (List.mem_cons_self ..))
    obtain ⟨_, _, rfl, ⟨q, rfl, _⟩, h2⟩ := fits_cons h1
    obtain ⟨_, _, rfl, ⟨e, rfl, _⟩, h3⟩ := fits_cons h2
    obtain rfl := fits_nil h3
    obtain ⟨l, h4, h5⟩ := fits_pks rows fun r hr => h r (List.mem_cons_of_mem _ hr)
    exact ⟨⟨t, q, e⟩ :: l, by rw [List.flatten_cons, h4, e1]; rfl, by simp [h5]⟩
/-- a handed slice, as the walks take it -/
def HandS (W : World) (v : Value) (n : Nat) (cs : List Value) : Prop := ∃ (b o c : Nat), v = .slice (some ⟨b, o, none⟩) n c ∧ ∃ k t fz, W.heap[b]? = some (.cells k t fz) ∧ ∀ i, i < cs.length → k[o + i]? = cs[i]?
set_option maxRecDepth 100000 in
theorem open_pks {H : Type} {enc : TypeId × Value → H} {W : World} {base : Nat} {v : Value} {d : DataW H} {p : List MemPlace} (hv : Value.okWide Tryz.prog W .any base 72 v) (h : DataW.Trod enc Tryz.prog W 0 (fun _ => true) true 72 v d p) :
    v = .slice none 0 0 ∨ ∃ l : List Pk, HandS W v l.length (pcs l) := by
  simp only [Value.okWide, Tryz.underlying72] at hv
  obtain ⟨a, len, cap, rfl⟩ : ∃ a len cap, v = .slice a len cap := okWide_slice (P := Tryz.prog) (w := W) (r := .any) (base := base) Tryz.underlying72 (by simp only [Value.okWide, Tryz.underlying72]; exact hv)
  obtain ⟨fuel, hf⟩ := h
  rcases handed_slice (d := 6) Tryz.underlying72 leafs100 (by kernel_rfl) (by simp) hv (fuel := fuel) (x := (d, p)) hf with h0 | ⟨b, o, len', cap', rows, e, h1, h2, h3, h4, cs, t, fz, hw, hc⟩
  · exact .inl h0
  · obtain ⟨l, e1, e2⟩ := fits_pks rows h4
    have : len' = l.length := by omega
    subst this
    rw [e1] at hc
    exact .inr ⟨l, b, o, cap', e, cs, t, fz, hw, hc⟩
abbrev laidTx : List (String × DataW Unit) := Rows.velocityTextsRow.laid
theorem gPowT : (Tryz.prog.globals[3]?).map (·.type) = some 320 := by kernel_rfl
def TabAt (w : World) (g : Nat) (cs : List Value) : Prop := ∃ t fz, w.heap[g]? = some (.cells cs.toArray t fz)
theorem tab3T {W : World} (h : laidMetH Tryz.prog laidTx W) : TabAt W 3 powV := by
  have h1 : laidMet Tryz.prog [("internal/strconv.uint64pow10", Rows.laid_internal_strconv_uint64pow10)] W := laidMetH.filter (fun x => x.1 == "internal/strconv.uint64pow10") h
  obtain ⟨ps, ⟨g', t', cs, fuel, p, q, hg', ht', hvar, hd, _, _⟩, _⟩ := h1
  obtain rfl := Option.some.inj (gPow.symm.trans hg')
  obtain rfl := Option.some.inj (gPowT.symm.trans ht')
  have hc := cells_of_ints (zs := Lib.pow10Tab) (k := .u64) Tryz.underlying320 Tryz.underlying297 (by kernel_rfl) (by kernel_rfl) hd
  unfold World.var? at hvar
  rw [gPow] at hvar
  simp only [Option.bind_some] at hvar
  split at hvar
  · rename_i c t fz hw
    injection hvar with hvar
    subst hvar
    refine ⟨t, fz, ?_⟩
    rw [hw]
    congr 2
    exact Array.toList_inj.1 (hc.trans (by kernel_rfl))
  · cases hvar
theorem lies1T {W : World} (h : laidMetH Tryz.prog laidTx W) : Lies W 1 rangesV := by
  have h1 : laidMet Tryz.prog [("moveout/trace.ranges", Rows.laid_moveout_trace_ranges)] W := laidMetH.filter (fun x => x.1 == "moveout/trace.ranges") h
  obtain ⟨ps, ⟨g', t', cs, fuel, p, q, hg', ht', hvar, hd, _, _⟩, _⟩ := h1
  obtain rfl := Option.some.inj (gRanges.symm.trans hg')
  obtain rfl := Option.some.inj (gRangesT.symm.trans ht')
  have hc := cells_of_pairs (zs := ranges8) Tryz.underlying298 Tryz.underlying76 Tryz.underlying3 (by kernel_rfl) (by kernel_rfl) (by kernel_rfl) hd
  have hn : rangesV = ranges8.flatMap fun z => [Value.int .i64 z.1, Value.int .i64 z.2] := by kernel_rfl
  exact lies_of (by simp [rangesV]) fun i hi => by
    rw [World.var?_cell gRanges hvar i, ← Array.getElem?_toList, hc, hn]
theorem lies0T {W : World} (h : laidMetH Tryz.prog laidTx W) : Lies W 0 freeV := by
  have h1 : laidMet Tryz.prog [("moveout/velocity.free", Rows.laid_moveout_velocity_free)] W := laidMetH.filter (fun x => x.1 == "moveout/velocity.free") h
  obtain ⟨ps, ⟨g', t', cs, fuel, p, q, hg', ht', hvar, hd, _, _⟩, _⟩ := h1
  obtain rfl := Option.some.inj (gFree.symm.trans hg')
  obtain rfl := Option.some.inj (gFreeT.symm.trans ht')
  obtain ⟨⟨d0, p0⟩, ⟨d1, p1⟩, n, hx, hl, h0, h1⟩ := trod_struct2 Tryz.underlying45 hd
  simp only [Prod.mk.injEq, Rows.laid_moveout_velocity_free, DataW.agg.injEq, List.cons.injEq, and_true] at hx
  obtain ⟨⟨e0, e1⟩, _⟩ := hx
  subst e0 e1
  obtain ⟨z0, hc0, hz0, _⟩ := DataW.trod_int Tryz.underlying3 h0
  obtain ⟨z1, hc1, hz1, _⟩ := DataW.trod_int Tryz.underlying3 h1
  simp only [Prod.mk.injEq, DataW.lit.injEq, Lit.int.injEq, true_and] at hz0 hz1
  obtain ⟨rfl, _⟩ := hz0
  obtain ⟨rfl, _⟩ := hz1
  exact lies_of (by simp [freeV]) fun i hi => by
    rw [World.var?_cell gFree hvar i, ← Array.getElem?_toList]
    match i, hi with
    | 0, _ =>
      have := congrArg (·[0]?) hc0
      simpa [freeV, List.getElem?_take, List.getElem?_drop, show Tryz.prog.cellsOf 3 = 1 by kernel_rfl] using this
    | 1, _ =>
      have := congrArg (·[0]?) hc1
      simpa [freeV, List.getElem?_take, List.getElem?_drop, show Tryz.prog.cellsOf 3 = 1 by kernel_rfl] using this
theorem baseT {w : World} (h0 : Lies w 0 freeV) (h1x : Lies w 1 rangesV) (h3 : TabAt w 3 powV) (vs : List WView)
    (hv : ∀ v ∈ vs, scL (· < 9 + vs.length) v.cs ∧ ∃ c t fz, w.heap[v.blk]? = some (.cells c t fz) ∧ ∀ i, i < v.cs.length → c[v.off + i]? = (denL (wloc vs) v.cs)[i]?) :
    Base Tryz.prog (· < 9 + vs.length) (wloc vs) (9 + vs.length) (hget (wviewH 9 vs GL)) w [] act0 ∧ ∀ k b, hget (wviewH 9 vs GL) k = some b → b.own = false := by
  have hH : ∀ k b, hget (wviewH 9 vs GL) k = some b → (k = 3 ∧ b = .tab powV) ∨ (k = 1 ∧ b = .inp 0 rangesV) ∨ (k = 0 ∧ b = .inp 0 freeV) ∨ ∃ v, vs[k - 9]? = some v ∧ 9 ≤ k ∧ b = .inp v.off v.cs := fun k b hk => by
    rcases hget_wviewH vs GL k b (by simp) hk with ⟨_, h2⟩ | h
    · rw [hget_cons, hget_cons, hget_cons] at h2
      by_cases e3 : 3 = k
      · rw [if_pos e3] at h2; injection h2 with h2; exact .inl ⟨e3.symm, h2.symm⟩
      · rw [if_neg e3] at h2
        by_cases e1x : 1 = k
        · rw [if_pos e1x] at h2; injection h2 with h2; exact .inr (.inl ⟨e1x.symm, h2.symm⟩)
        · rw [if_neg e1x] at h2
          by_cases e0 : 0 = k
          · rw [if_pos e0] at h2; injection h2 with h2; exact .inr (.inr (.inl ⟨e0.symm, h2.symm⟩))
          · rw [if_neg e0] at h2; simp [hget] at h2
    · exact .inr (.inr (.inr h))
  have hown : ∀ k b, hget (wviewH 9 vs GL) k = some b → b.own = false := fun k b hk => by
    rcases hH k b hk with ⟨_, rfl⟩ | ⟨_, rfl⟩ | ⟨_, rfl⟩ | ⟨v, _, _, rfl⟩ <;> rfl
  have hl : ∀ k, k < 9 → (wloc vs).loc k = k := fun k hk => by simp only [wloc]; rw [if_pos hk]
  refine ⟨⟨⟨fun k b hk => ?_, fun k b k' b' h1 _ _ ho => (by rw [hown k b h1] at ho; cases ho), fun g hg => ?_⟩, fun _ h => h, fun g hg => ?_, ?_, fun k b hk => ?_, fun t v hv => by simp [lk] at hv, fun t v hv => by simp [lk] at hv⟩, hown⟩
  · rcases hH k b hk with ⟨rfl, rfl⟩ | ⟨rfl, rfl⟩ | ⟨rfl, rfl⟩ | ⟨v, h1, h2, rfl⟩
    · obtain ⟨t, fz, e1⟩ := h3
      rw [hl 3 (by omega)]
      refine ⟨t, fz, ?_⟩
      rw [denL_af _ _ af_powV]
      exact e1
    · obtain ⟨c, t, fz, e1, e2⟩ := h1x
      rw [hl 1 (by omega)]
      refine ⟨c, t, fz, e1, fun i hi => ?_⟩
      rw [Nat.zero_add, denL_af _ _ af_rangesV]; exact e2 i hi
    · obtain ⟨c, t, fz, e1, e2⟩ := h0
      rw [hl 0 (by omega)]
      refine ⟨c, t, fz, e1, fun i hi => ?_⟩
      rw [Nat.zero_add, denL_af _ _ af_freeV]; exact e2 i hi
    · obtain ⟨_, c, t, fz, e1, e2⟩ := hv v (List.mem_of_getElem? h1)
      have : (wloc vs).loc k = v.blk := by simp only [wloc]; rw [if_neg (by omega), h1]
      rw [this]
      exact ⟨c, t, fz, e1, e2⟩
  · rw [gsz] at hg; exact hl g hg
  · rw [gsz] at hg; omega
  · rw [gsz]; omega
  · rcases hH k b hk with ⟨rfl, rfl⟩ | ⟨rfl, rfl⟩ | ⟨rfl, rfl⟩ | ⟨v, h1, h2, rfl⟩
    · exact ⟨by omega, scL_af _ _ af_powV⟩
    · exact ⟨by omega, scL_af _ _ af_rangesV⟩
    · exact ⟨by omega, scL_af _ _ af_freeV⟩
    · have := (List.getElem?_eq_some_iff.1 h1).1
      exact ⟨by omega, (hv v (List.mem_of_getElem? h1)).1⟩
theorem lawCallsT {f : FuncId} (he : enterable Tryz.prog f = true) {w : World} (h0 : Lies w 0 freeV) (h1x : Lies w 1 rangesV) (h3 : TabAt w 3 powV) (vs : List WView)
    (hv : ∀ v ∈ vs, scL (· < 9 + vs.length) v.cs ∧ ∃ c t fz, w.heap[v.blk]? = some (.cells c t fz) ∧ ∀ i, i < v.cs.length → c[v.off + i]? = (denL (wloc vs) v.cs)[i]?)
    {args0 : List Value} (hsc : scL (· < 9 + vs.length) args0) {args : Array Value} (hargs : args = (denL (wloc vs) args0).toArray) {H' : Heap} {n' : Nat} (h : AC Tryz.prog f args0 (wviewH 9 vs GL) (9 + vs.length) (.bool true) H' n') :
    Calls Tryz.prog f args w fun e w' => e = .returned (.bool true) ∧ Below w.heap.size w w' := by
  obtain ⟨hB, hown⟩ := baseT h0 h1x h3 vs hv
  rw [hargs]
  exact h.calls he rfl hB hsc hown
/-- a law over picks and a text: of the walks over the forms of the picks the calls -/
theorem lawPS {f : FuncId} (he : enterable Tryz.prog f = true) {W : World} (h0 : Lies W 0 freeV) (h1x : Lies W 1 rangesV) (h3 : TabAt W 3 powV) {v0 : Value} (s : List UInt8)
    (hv0 : v0 = .slice none 0 0 ∨ ∃ l : List Pk, HandS W v0 l.length (pcs l))
    (wn : ∃ H n, AC Tryz.prog f [.slice none 0 0, sL s] GL 9 (.bool true) H n)
    (wi : ∀ (l : List Pk) (o c : Nat), ∃ H n, AC Tryz.prog f [inpP 9 o l.length c, sL s] ((9, .inp o (pcs l)) :: GL) 10 (.bool true) H n) :
    Calls Tryz.prog f #[v0, sL s] W fun e W' => e = .returned (.bool true) ∧ Below W.heap.size W W' := by
  rcases hv0 with rfl | ⟨l, b, o, c, rfl, cs, t, fz, hw, hc⟩
  · obtain ⟨H, n, h⟩ := wn
    exact lawCallsT he h0 h1x h3 [] (by simp) (args0 := [.slice none 0 0, sL s]) (by simp [scL, sc]) (by simp [denL, den]) h
  · obtain ⟨H, n, h⟩ := wi l o c
    refine lawCallsT he h0 h1x h3 [⟨b, o, pcs l⟩] ?_ (args0 := [inpP 9 o l.length c, sL s]) ?_ ?_ h
    · intro v hv
      rw [List.mem_singleton] at hv
      subst hv
      exact ⟨scL_af _ _ (afL_pcs l), cs, t, fz, hw, fun i hi => by rw [denL_af _ _ (afL_pcs l)]; exact hc i hi⟩
    · simp [scL, sc]
    · simp [denL, den, wloc]
def litV : Nat → DataW Unit → List Value
  | _, .lit (.int k z) => [.int k z]
  | n + 1, .agg l => l.flatMap (litV n)
  | _, _ => []
noncomputable def laidWorldT (os : Os) : World :=
  { World.holding Tryz.prog os ⟨#[], #[], []⟩ with heap := (((((((World.holding Tryz.prog os ⟨#[], #[], []⟩).heap.modify 0 (layIn freeV)).modify 1 (layIn rangesV)).modify 3 (layIn tab3)).modify 7 (layIn tab7)).modify 8 (layIn tab8)).modify 5 (layIn (litV 3 Rows.laid_unicode_utf8_first))).modify 6 (layIn (litV 3 Rows.laid_unicode_utf8_acceptRanges)) }
theorem laid_metT (os : Os) (a b : Value) : laidMet Tryz.prog laidTx ((laidWorldT os).forCall (fun _ _ => 0) ⟨#[], #[a, b], []⟩).memory :=
  laidMet_of_run' 8 (by kernel_rfl) (by kernel_rfl)
end Go.Proofs.YtkongcnmkiihjaaGreatDoor

namespace Go.Proofs.YtkongcnmkiihjaaGreatDoor
open Go Go.Ab Go.Proofs Go.ChangeShapes Go.WideShapes Go.ChangeAt Go.RowKit
theorem w14skn (s : List UInt8) (hs : ¬ s.length ≤ 200) : AC Tryz.prog 14 [.slice none 0 0, sL s] GL 9 (.bool true) GL 9 := by
  have hr := ok14
  have h1I : (200 : Int) < (s.length : Int) := by omega
  refine AC.pure Tryz.func14 rfl (by kernel_rfl) rfl [] rfl ?_
  refine E.seq ?_
  refine E.reg hr (by simp; rfl) ?_
  refine E.seq ?_
  refine E.seq ?_
  refine E.reg hr (by simp [g15, g44, g50, pksR, pksE_nil, h1I]; rfl) ?_
  refine E.cond (t := true) (by rfl) (fun _ => ?_) (fun h => by cases h)
  refine E.seq ?_
  refine E.reg hr (by simp [g15]; rfl) ?_
  refine E.ret ?_
  exact pureK.ret rfl rfl (by simp) (by repeat first | exact sub_refl _ | refine sub_cons rfl ?_)
theorem w14ski (l : List Pk) (o c : Nat) (s : List UInt8) (hs : shortK l.length = false ∨ pksE l ≠ 0 ∨ ¬ s.length ≤ 200) : AC Tryz.prog 14 [inpP 9 o l.length c, sL s] ((9, .inp o (pcs l)) :: GL) 10 (.bool true) ((9, .inp o (pcs l)) :: GL) 10 := by
  have hr := ok14
  refine AC.pure Tryz.func14 rfl (by kernel_rfl) rfl [] rfl ?_
  refine E.seq ?_
  refine E.reg hr (by simp; rfl) ?_
  refine E.seq ?_
  refine E.seq ?_
  refine E.regL hr { fr := [(34, .bool true)], sz := 118, H := ((9, .inp o (pcs l)) :: GL), n := 10, marks := [], vs := [] } ?_ ?_
  · cases hk : shortK l.length with
    | false =>
      refine ⟨_, by simp [g15, g44, flat, hk]; rfl, ?_⟩
      exact .less rfl rfl rfl (by simp) (by simp)
    | true =>
      have h65 : l.length ≤ 65 := by simp only [shortK, Bool.or_eq_true, decide_eq_true_eq] at hk; omega
      have hl' : l.length < 9223372036854775808 := by omega
      have ht : List.take (l.length * 3) (pcs l) = pcs l := List.take_of_length_le (by simp)
      by_cases he : pksE l = 0
      · have h1I : (200 : Int) < (s.length : Int) := by
          rcases hs with h | h | h
          · rw [hk] at h; cases h
          · exact absurd he h
          · omega
        refine ⟨_, by simp [g15, g44, g50, flat, hk, pksR, pksAt, ht, pksOf_pcs, hl', he, h1I]; rfl, ?_⟩
        exact .less rfl rfl rfl (by simp) (by simp)
      · refine ⟨_, by simp [g15, g44, g50, flat, hk, pksR, pksAt, ht, pksOf_pcs, hl', he]; rfl, ?_⟩
        exact .less rfl rfl rfl (by simp) (by simp)
  refine E.cond (t := true) (by rfl) (fun _ => ?_) (fun h => by cases h)
  refine E.seq ?_
  refine E.reg hr (by simp [g15]; rfl) ?_
  refine E.ret ?_
  exact pureK.ret rfl rfl (by simp) (by repeat first | exact sub_refl _ | refine sub_cons rfl ?_)
theorem par_three (s : List UInt8) : (∃ a e, ¬ e = 0 ∧ parV s = ⟨[], a, e⟩) ∨ s = [] ∨ ∃ Q, Q ≠ [] ∧ Q.length ≤ 64 ∧ parV s = ⟨Q, 0, 0⟩ := by
  rcases parV_cases s with ⟨a, e, h⟩ | h
  · by_cases he : e = 0
    · subst he
      exact .inr (.inl (par_backQ h).symm)
    · exact .inl ⟨a, e, he, h⟩
  · exact .inr (.inr h)
theorem w14_n (s : List UInt8) : AC Tryz.prog 14 [.slice none 0 0, sL s] GL 9 (.bool true) GL 9 := by
  by_cases hs : s.length ≤ 200
  · rcases par_three s with ⟨a, e, he, hp⟩ | rfl | ⟨Q, h1, h2, hp⟩
    · exact w14nb s hs a e he hp
    · exact w14nz
    · exact w14nx s hs Q h1 h2 hp
  · exact w14skn s hs
theorem w14_i (l : List Pk) (o c : Nat) (s : List UInt8) : AC Tryz.prog 14 [inpP 9 o l.length c, sL s] ((9, .inp o (pcs l)) :: GL) 10 (.bool true) ((9, .inp o (pcs l)) :: GL) 10 := by
  cases hk : shortK l.length with
  | false => exact w14ski l o c s (.inl hk)
  | true =>
    by_cases he : pksE l = 0
    · by_cases hs : s.length ≤ 200
      · by_cases hl : l = []
        · subst hl
          rcases par_three s with ⟨a, e, he0, hp⟩ | rfl | ⟨Q, h1, h2, hp⟩
          · exact w14eb o c s hs a e he0 hp
          · exact w14ez o c
          · exact w14ex o c s hs Q h1 h2 hp
        · rcases par_three s with ⟨a, e, he0, hp⟩ | rfl | ⟨Q, h1, h2, hp⟩
          · exact w14pb l o c hl hk he s hs a e he0 hp
          · exact w14pz l o c hl hk he
          · exact w14px l o c hl hk he s hs Q h1 h2 hp
      · exact w14ski l o c s (.inr (.inr hs))
    · exact w14ski l o c s (.inr (.inl he))
theorem params14 : Tryz.f14.params = #[72, 9] := by kernel_rfl
namespace velocityBack
set_option maxRecDepth 100000 in
theorem contract (H : Type) (enc : TypeId × Value → H) (W : World) (base : Nat) (args : Array Value) (ds gs : List (DataW H)) (before : List MemPlace)
    (hval : ∀ (j : Nat) t v, Tryz.f14.params[j]? = some t → args[j]? = some v → Value.okWide Tryz.prog W .any base t v)
    (hW : DataW.Whole enc Tryz.prog Tryz.f14.params.toList Rows.velocityBackSpec.vars false W args.toList ds gs before) (hL : laidMetH Tryz.prog Rows.velocityBackRow.laid W) :
    Calls Tryz.prog 14 args W fun e W' => ∃ v, e = .returned v ∧ Rows.velocityBackSpec.post enc Tryz.prog Tryz.f14 false true false false W args v W' := by
  have hW' := hW
  obtain ⟨p, q, hA0, hV, rfl, hfz, hnd⟩ := hW
  have hA : DataW.TrodAll enc Tryz.prog W 0 (fun _ => true) true Tryz.f14.params.toList args.toList ds p := hA0
  rw [params14] at hA hval
  obtain ⟨v0, vs0, d0, ds0, p0, q0, hargs, rfl, rfl, h0, r0⟩ := trodAll_cons hA
  obtain ⟨v1, vs1, d1, ds1, p1, q1, rfl, rfl, rfl, h1, r1⟩ := trodAll_cons r0
  obtain ⟨rfl, rfl, rfl⟩ := trodAll_nil r1
  obtain rfl : args = #[v0, v1] := by cases args; simp_all
  obtain ⟨s, rfl⟩ := okWide_string (P := Tryz.prog) Tryz.underlying9 (hval 1 9 v1 rfl rfl)
  have es : Value.string s = sL s.data.toList := by rw [sL, bA_data]
  have hc : Calls Tryz.prog 14 #[v0, .string s] W fun e W' => e = .returned (.bool true) ∧ Below W.heap.size W W' := by
    rw [es]
    exact lawPS (by kernel_rfl) (lies0T hL) (lies1T hL) (tab3T hL) s.data.toList (open_pks (hval 0 72 v0 rfl rfl) h0)
      ⟨_, _, w14_n s.data.toList⟩ (fun l o c => ⟨_, _, w14_i l o c s.data.toList⟩)
  refine hc.mono fun e W' ⟨he, hb⟩ => ⟨_, he, ?_⟩
  refine lawPost ?_ rfl rfl rfl hW' hb
  intro t ht
  rw [params14] at ht
  simp at ht
  rw [tysize]
  rcases ht with rfl | rfl
  · exact ⟨by kernel_rfl, by decide⟩
  · exact ⟨by kernel_rfl, by decide⟩
theorem reads (os : Os) {H : Type} (enc : TypeId × Value → H) : ∃ places, DataW.whole enc Tryz.prog ((laidWorldT os).forCall (fun _ _ => 0) ⟨#[], #[.slice none 0 0, .string ByteArray.empty], []⟩).memory Tryz.f14.params.toList Rows.velocityBackSpec.vars false #[Value.slice none 0 0, .string ByteArray.empty].toList 8 = some ([.nil, .lit (.string [])], [], places) :=
  ⟨[], by kernel_rfl⟩
set_option maxRecDepth 100000 in
theorem lifted (os : Os) (started : os.Started) (H : Type) (enc : TypeId × Value → H) (F : Stop.Interp) :
    ReturnsInHanded {} Tryz.checked os 14 .any ((OpenSpec.ofChange Rows.velocityBackSpec).preRow enc Tryz.prog Tryz.f14 Rows.velocityBackRow.domain false Rows.velocityBackRow.laid) (((OpenSpec.ofChange Rows.velocityBackSpec).at F).post enc Tryz.prog Tryz.f14 false true false false) := by
  obtain ⟨places, hx⟩ := reads os enc
  refine returnsInHanded_of_row (C := Tryz.checked) (s := OpenSpec.ofChange Rows.velocityBackSpec) own started (by kernel_rfl) Tryz.func14
    (witness_row_at (enc := enc) (C := Tryz.checked) false (laidWorldT os) #[.slice none 0 0, .string ByteArray.empty] rfl (by kernel_rfl) (by kernel_rfl) (by kernel_rfl)
      (OpenSpec.preRow_of_cond 8 hx (by kernel_rfl) (fun k hk => by cases hk) (by kernel_rfl) (laid_metT os _ _))) ?_
  intro W base args ds gs before hval hW _ _ _ hL _ _
  exact contract H enc W base args ds gs before hval hW hL
theorem fnum : Tryz.prog.funcNamed "moveout/moveoutlaw06.VelocityBack" = some 14 := by kernel_rfl
theorem inst : Tryz.f14.isInstance Tryz.prog Rows.velocityBackRow.origin Rows.velocityBackRow.targs := of_decide_eq_true (by kernel_rfl)
theorem wrapper : Tryz.f14.isWrapper Tryz.prog Rows.velocityBackRow.wrapper Rows.velocityBackRow.mainSum := by unfold Func.isWrapper; first | (rw [if_pos (by decide +kernel)]; kernel_rfl) | (rw [if_neg (by decide +kernel)]; exact ⟨rfl, rfl⟩)
set_option maxRecDepth 100000 in
theorem said : Rows.VelocityBackSaid :=
  OpenClaim.holds_of_cond 14 Tryz.f14 rfl rfl rfl rfl rfl rfl rfl ⟨rfl, rfl, rfl, rfl, rfl⟩ rfl rfl rfl rfl rfl fnum Tryz.func14 facts inst wrapper
    (fun os started H enc _ F => by rw [OpenClaim.pre_eq_preRow]; exact lifted os started H enc F)
theorem looks : false = Tryz.prog.looks [] := by kernel_rfl
theorem standIn : ∀ t, t = 72 ∨ t = 9 → Tryz.prog.wantsStandIn t = false := by
  rintro t (rfl | rfl) <;> kernel_rfl
theorem plain (f : FuncId) (fn : Func) (hf : Tryz.pinned.checked.prog.funcNamed "moveout/moveoutlaw06.VelocityBack" = some f) (hfn : Tryz.pinned.checked.prog.funcs[f]? = some fn) :
    false = Tryz.pinned.checked.prog.looks [] ∧ ∀ (j : Nat) t, fn.params[j]? = some t → Tryz.pinned.checked.prog.wantsStandIn t = false := by
  obtain rfl : f = 14 := Option.some.inj (fnum.symm.trans hf) |>.symm
  obtain rfl : fn = Tryz.f14 := (Option.some.inj (Tryz.func14.symm.trans hfn)).symm
  refine ⟨looks, fun j t ht => ?_⟩
  rw [params14] at ht
  exact standIn t (by simpa using Array.mem_of_getElem? ht)
theorem wf : OpenClaim.wfByText (OpenSpec.ofChange Rows.velocityBackSpec) Rows.velocityBackRow = true := by kernel_rfl
theorem main : Tryz.prog.mainIs = some ("a1a323c512223edc39f4736b19c83dbf0e7abd5a77a6adfc6f65b5272966d8f1" |> fun s => (true, s.toList)) := by kernel_rfl
theorem goes : false = Rows.velocityBackRow.goesBy Tryz.prog := by kernel_rfl
set_option maxRecDepth 100000 in
theorem card : Rows.VelocityBackCardSaid :=
  Claim7.holds_tied_plain_at .later [] _ _ _ _ said (fun _ h => by cases h) wf (fun _ h => by cases h) velocityBack_row_tie rfl ⟨rfl, rfl⟩ main rfl plain goes
end velocityBack
end Go.Proofs.YtkongcnmkiihjaaGreatDoor
