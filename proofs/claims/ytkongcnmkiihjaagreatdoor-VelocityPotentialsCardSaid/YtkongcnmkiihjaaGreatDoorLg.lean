/-
The law VelocityPotentials returns true for all panels, limits and potentials that are handed in, and its arguments read afterwards as before. Conditions: those of the given row alone (where its laid variables hold what their text says).
-/
import Derived.Deep.Matrix
import Derived.Test.YtkongcnmkiihjaaGreatDoorYc
import Derived.Test.YtkongcnmkiihjaaGreatDoorFa
import Derived.Test.YtkongcnmkiihjaaGreatDoorYd
import Derived.Test.YtkongcnmkiihjaaGreatDoorAh
import Derived.Test.YtkongcnmkiihjaaGreatDoorZg
import Derived.Test.YtkongcnmkiihjaaGreatDoorQg
namespace Go.Proofs.YtkongcnmkiihjaaGreatDoor
open Go Go.Ab Go.Proofs Go.ChangeShapes Go.WideShapes Go.ChangeAt Go.RowKit
set_option maxRecDepth 100000 in
/-- a handed whole number from 0 on -/
theorem open_nat {H : Type} {enc : TypeId × Value → H} {W : World} {base : Nat} {t : TypeId} {k : IntKind} {v : Value} {d : DataW H} {p : List MemPlace} (ht : Tryz.prog.underlying t = some (.int k)) (hk : k.min = 0) (hv : Value.okWide Tryz.prog W .any base t v)
    (h : DataW.Trod enc Tryz.prog W 0 (fun _ => true) true t v d p) : ∃ n : Nat, v = .int k (n : Int) ∧ (n : Int) ≤ k.max := by
  obtain ⟨n, rfl⟩ := okWide_int (P := Tryz.prog) ht hv
  obtain ⟨fuel, hf⟩ := h
  obtain ⟨m, hc, _, hw⟩ := DataW.trod_int ht hf
  simp only [Value.cells, List.cons.injEq, Value.int.injEq, true_and, and_true] at hc
  subst hc
  simp only [Lit.wf, Bool.and_eq_true, decide_eq_true_eq, hk] at hw
  exact ⟨n.toNat, by rw [Int.toNat_of_nonneg hw.1], by rw [Int.toNat_of_nonneg hw.1]; exact hw.2⟩
theorem params5 : Tryz.f5.params = #[55, 56, 55] := by kernel_rfl
theorem tysize : Tryz.prog.types.size = 353 := by kernel_rfl
namespace velocityHyperbolas
set_option maxRecDepth 100000 in
theorem contract (H : Type) (enc : TypeId × Value → H) (W : World) (base : Nat) (args : Array Value) (ds gs : List (DataW H)) (before : List MemPlace)
    (hval : ∀ (j : Nat) t v, Tryz.f5.params[j]? = some t → args[j]? = some v → Value.okWide Tryz.prog W .any base t v)
    (hW : DataW.Whole enc Tryz.prog Tryz.f5.params.toList Rows.velocityHyperbolasSpec.vars false W args.toList ds gs before) (hL : laidMetH Tryz.prog Rows.velocityHyperbolasRow.laid W) :
    Calls Tryz.prog 5 args W fun e W' => ∃ v, e = .returned v ∧ Rows.velocityHyperbolasSpec.post enc Tryz.prog Tryz.f5 false true false false W args v W' := by
  have hW' := hW
  obtain ⟨p, q, hA0, hV, rfl, hfz, hnd⟩ := hW
  have hA : DataW.TrodAll enc Tryz.prog W 0 (fun _ => true) true Tryz.f5.params.toList args.toList ds p := hA0
  rw [params5] at hA hval
  obtain ⟨v0, vs0, d0, ds0, p0, q0, hargs, rfl, rfl, h0, r0⟩ := trodAll_cons hA
  obtain ⟨v1, vs1, d1, ds1, p1, q1, rfl, rfl, rfl, h1, r1⟩ := trodAll_cons r0
  obtain ⟨v2, vs2, d2, ds2, p2, q2, rfl, rfl, rfl, h2, r2⟩ := trodAll_cons r1
  obtain ⟨rfl, rfl, rfl⟩ := trodAll_nil r2
  obtain rfl : args = #[v0, v1, v2] := by cases args; simp_all
  obtain ⟨t, rfl, ht⟩ := open_nat Tryz.underlying55 (by decide) (hval 0 55 v0 rfl rfl) h0
  obtain ⟨x, rfl, hx⟩ := open_nat Tryz.underlying56 (by decide) (hval 1 56 v1 rfl rfl) h1
  obtain ⟨v, rfl, hv⟩ := open_nat Tryz.underlying55 (by decide) (hval 2 55 v2 rfl rfl) h2
  have e16 : IntKind.max .u16 = 65535 := by decide
  have e32 : IntKind.max .u32 = 4294967295 := by decide
  rw [e16] at ht hv
  rw [e32] at hx
  have hc := lawCalls (f := 5) (by kernel_rfl) (lies0 hL) (lies1 hL) [] (by simp) (args0 := [.int .u16 t, .int .u32 x, .int .u16 v]) (args := #[.int .u16 t, .int .u32 x, .int .u16 v]) (by simp) (by simp [denL, den]) (w5 t x v (by omega) (by omega) (by omega))
  refine hc.mono fun e W' ⟨he, hb⟩ => ⟨_, he, ?_⟩
  refine lawPost ?_ rfl rfl rfl hW' hb
  intro t ht
  rw [params5] at ht
  simp at ht
  rw [tysize]
  rcases ht with rfl | rfl | rfl
  · exact ⟨by kernel_rfl, by decide⟩
  · exact ⟨by kernel_rfl, by decide⟩
  · exact ⟨by kernel_rfl, by decide⟩
theorem reads (os : Os) {H : Type} (enc : TypeId × Value → H) : ∃ places, DataW.whole enc Tryz.prog ((laidWorld os).forCall (fun _ _ => 0) ⟨#[], #[.int .u16 0, .int .u32 0, .int .u16 0], []⟩).memory Tryz.f5.params.toList Rows.velocityHyperbolasSpec.vars false #[.int .u16 0, .int .u32 0, .int .u16 0].toList 8 = some ([.lit (.int .u16 0), .lit (.int .u32 0), .lit (.int .u16 0)], [], places) :=
  ⟨[], by kernel_rfl⟩
set_option maxRecDepth 100000 in
theorem lifted (os : Os) (started : os.Started) (H : Type) (enc : TypeId × Value → H) (F : Stop.Interp) :
    ReturnsInHanded {} Tryz.checked os 5 .any ((OpenSpec.ofChange Rows.velocityHyperbolasSpec).preRow enc Tryz.prog Tryz.f5 Rows.velocityHyperbolasRow.domain false Rows.velocityHyperbolasRow.laid) (((OpenSpec.ofChange Rows.velocityHyperbolasSpec).at F).post enc Tryz.prog Tryz.f5 false true false false) := by
  obtain ⟨places, hx⟩ := reads os enc
  refine returnsInHanded_of_row (C := Tryz.checked) (s := OpenSpec.ofChange Rows.velocityHyperbolasSpec) own started (by kernel_rfl) Tryz.func5
    (witness_row_at (enc := enc) (C := Tryz.checked) false (laidWorld os) #[.int .u16 0, .int .u32 0, .int .u16 0] rfl (by kernel_rfl) (by kernel_rfl) (by kernel_rfl)
      (OpenSpec.preRow_of_cond 8 hx (by kernel_rfl) (fun k hk => by cases hk) (by kernel_rfl) (laid_met3 os _ _ _))) ?_
  intro W base args ds gs before hval hW _ _ _ hL _ _
  exact contract H enc W base args ds gs before hval hW hL
end velocityHyperbolas
end Go.Proofs.YtkongcnmkiihjaaGreatDoor

namespace Go.Proofs.YtkongcnmkiihjaaGreatDoor
open Go Go.Ab Go.Proofs Go.ChangeShapes Go.WideShapes Go.ChangeAt Go.RowKit
/-! ### handed numbers in a row, handed lists of numbers -/
theorem fits_cons {l : Leaf} {ls : List Leaf} {r : List Value} (h : fitsL (l :: ls) r) : ∃ v vs, r = v :: vs ∧ l.fits v ∧ fitsL ls vs := by
  cases r with
  | nil => exact h.elim
  | cons v vs => exact ⟨v, vs, rfl, h.1, h.2⟩
theorem fits_nil {r : List Value} (h : fitsL [] r) : r = [] := by
  cases r with
  | nil => rfl
  | cons v vs => exact h.elim
theorem leafs3 : leafs Tryz.prog 6 3 = some [.int .i64] := by kernel_rfl
theorem leafs23 : leafs Tryz.prog 6 23 = some [.int .i64, .int .i64, .int .i64] := by kernel_rfl
theorem fits_ints : ∀ rows : List (List Value), (∀ r ∈ rows, fitsL [.int .i64] r) → ∃ ns : List Int, rows.flatten = ns.map iv ∧ ns.length = rows.length
  | [], _ => ⟨[], rfl, rfl⟩
  | r :: rows, h => by
    obtain ⟨_, _, e1, ⟨n, rfl, hn⟩, h1⟩ := fits_cons (h r (List.mem_cons_self ..))
    obtain rfl := fits_nil h1
    obtain ⟨ns, h2, h3⟩ := fits_ints rows fun r hr => h r (List.mem_cons_of_mem _ hr)
    exact ⟨n :: ns, by rw [List.flatten_cons, h2, e1]; rfl, by simp [h3]⟩
set_option maxRecDepth 100000 in
theorem open_move {H : Type} {enc : TypeId × Value → H} {W : World} {base : Nat} {v : Value} {d : DataW H} {p : List MemPlace} (hv : Value.okWide Tryz.prog W .any base 23 v) (h : DataW.Trod enc Tryz.prog W 0 (fun _ => true) true 23 v d p) :
    ∃ x y z : Int, v = .agg ⟨[iv x, iv y, iv z]⟩ := by
  obtain ⟨cs, rfl, _⟩ := okWide_struct Tryz.underlying23 hv
  obtain ⟨fuel, hf⟩ := h
  have hl := leafs_ok 6 23 _ fuel _ (d, p) leafs23 hf
  obtain ⟨cl⟩ := cs
  have hl : fitsL [.int .i64, .int .i64, .int .i64] cl := by simpa [Value.cells] using hl
  obtain ⟨_, _, rfl, ⟨x, rfl, _⟩, h1⟩ := fits_cons hl
  obtain ⟨_, _, rfl, ⟨y, rfl, _⟩, h2⟩ := fits_cons h1
  obtain ⟨_, _, rfl, ⟨z, rfl, _⟩, h3⟩ := fits_cons h2
  obtain rfl := fits_nil h3
  exact ⟨x, y, z, rfl⟩
set_option maxRecDepth 100000 in
theorem open_set {H : Type} {enc : TypeId × Value → H} {W : World} {base : Nat} {v : Value} {d : DataW H} {p : List MemPlace} (hv : Value.okWide Tryz.prog W .any base 26 v) (h : DataW.Trod enc Tryz.prog W 0 (fun _ => true) true 26 v d p) :
    ∃ (sl : Value) (w s e : Int), v = setA sl w s e ∧
      (sl = .slice none 0 0 ∨ ∃ (b o c : Nat) (ns : List Int), sl = .slice (some ⟨b, o, none⟩) ns.length c ∧ ns.length ≤ maxLen ∧ ∃ cs t fz, W.heap[b]? = some (.cells cs t fz) ∧ ∀ i, i < (ns.map iv).length → cs[o + i]? = (ns.map iv)[i]?) := by
  unfold Value.okWide at hv
  rw [Tryz.underlying26] at hv
  obtain ⟨cs, rfl, hsz, ts, hts, _, hrow⟩ := hv
  rw [show Tryz.prog.cellTypes Tryz.prog.depth 26 = some [24, 3, 3, 3] by kernel_rfl] at hts
  injection hts with hts; subst hts
  rw [show Tryz.prog.cellsOf 26 = 4 by kernel_rfl] at hsz
  obtain ⟨l⟩ := cs
  match l, hsz with
  | [v0, v1, v2, v3], _ =>
    obtain ⟨u', h2, h3⟩ := hrow 0 v0 rfl
    obtain rfl : 24 = u' := by simpa using h2
    obtain ⟨fuel, h⟩ := h
    obtain ⟨xs, m, rfl, _, hlen, hxl, hel⟩ := DataW.trod_struct Tryz.underlying26 h
    have key : ∀ j (f : Field), (match Tryz.prog.underlying 26 with | some (.struct fs) => fs[j]? | _ => none) = some f → ∃ y, DataW.trod enc Tryz.prog W 0 (fun _ => true) true m f.type (([v0, v1, v2, v3].drop f.offset).take (Tryz.prog.cellsOf f.type)) = some y := fun j f hf => by
      rw [Tryz.underlying26] at hf
      have h4 := hel j f hf
      have hpos := (Array.getElem?_eq_some_iff.1 hf).1
      obtain ⟨y, hy⟩ : ∃ y, xs[j]? = some y := ⟨xs[j]'(by omega), by simp⟩
      rw [hy] at h4
      exact ⟨y, by simpa [Value.cells] using h4⟩
    obtain ⟨y0, k0⟩ := key 0 _ (by rw [Tryz.underlying26]; rfl)
    obtain ⟨y1, k1⟩ := key 1 _ (by rw [Tryz.underlying26]; rfl)
    obtain ⟨y2, k2⟩ := key 2 _ (by rw [Tryz.underlying26]; rfl)
    obtain ⟨y3, k3⟩ := key 3 _ (by rw [Tryz.underlying26]; rfl)
    have e0 : (([v0, v1, v2, v3].drop 0).take (Tryz.prog.cellsOf 24)) = [v0] := by kernel_rfl
    have e1 : (([v0, v1, v2, v3].drop 1).take (Tryz.prog.cellsOf 3)) = [v1] := by kernel_rfl
    have e2 : (([v0, v1, v2, v3].drop 2).take (Tryz.prog.cellsOf 3)) = [v2] := by kernel_rfl
    have e3 : (([v0, v1, v2, v3].drop 3).take (Tryz.prog.cellsOf 3)) = [v3] := by kernel_rfl
    have k0' : DataW.trod enc Tryz.prog W 0 (fun _ => true) true m 24 [v0] = some y0 := by rw [← e0]; exact k0
    have l1 : fitsL [.int .i64] [v1] := by rw [← e1]; exact leafs_ok 6 3 _ m _ y1 leafs3 k1
    have l2 : fitsL [.int .i64] [v2] := by rw [← e2]; exact leafs_ok 6 3 _ m _ y2 leafs3 k2
    have l3 : fitsL [.int .i64] [v3] := by rw [← e3]; exact leafs_ok 6 3 _ m _ y3 leafs3 k3
    obtain ⟨⟨n1, rfl, _⟩, _⟩ := l1
    obtain ⟨⟨n2, rfl, _⟩, _⟩ := l2
    obtain ⟨⟨n3, rfl, _⟩, _⟩ := l3
    refine ⟨v0, n1, n2, n3, rfl, ?_⟩
    rcases handed_slice (d := 6) Tryz.underlying24 leafs3 (by kernel_rfl) (by simp) h3 k0' with h0 | ⟨b, o, len, cap, rows, e, h5, h6, h7, h8, cs, t, fz, hw, hc⟩
    · exact .inl h0
    · obtain ⟨ns, f1, f2⟩ := fits_ints rows h8
      have : len = ns.length := by omega
      subst this
      rw [f1] at hc
      exact .inr ⟨b, o, cap, ns, e, by omega, cs, t, fz, hw, hc⟩
theorem params3 : Tryz.f3.params = #[23, 26] := by kernel_rfl
namespace velocityMoved
set_option maxRecDepth 100000 in
theorem contract (H : Type) (enc : TypeId × Value → H) (W : World) (base : Nat) (args : Array Value) (ds gs : List (DataW H)) (before : List MemPlace)
    (hval : ∀ (j : Nat) t v, Tryz.f3.params[j]? = some t → args[j]? = some v → Value.okWide Tryz.prog W .any base t v)
    (hW : DataW.Whole enc Tryz.prog Tryz.f3.params.toList Rows.velocityMovedSpec.vars false W args.toList ds gs before) (hL : laidMetH Tryz.prog Rows.velocityMovedRow.laid W) :
    Calls Tryz.prog 3 args W fun e W' => ∃ v, e = .returned v ∧ Rows.velocityMovedSpec.post enc Tryz.prog Tryz.f3 false true false false W args v W' := by
  have hW' := hW
  obtain ⟨p, q, hA0, hV, rfl, hfz, hnd⟩ := hW
  have hA : DataW.TrodAll enc Tryz.prog W 0 (fun _ => true) true Tryz.f3.params.toList args.toList ds p := hA0
  rw [params3] at hA hval
  obtain ⟨v0, vs0, d0, ds0, p0, q0, hargs, rfl, rfl, h0, r0⟩ := trodAll_cons hA
  obtain ⟨v1, vs1, d1, ds1, p1, q1, rfl, rfl, rfl, h1, r1⟩ := trodAll_cons r0
  obtain ⟨rfl, rfl, rfl⟩ := trodAll_nil r1
  obtain rfl : args = #[v0, v1] := by cases args; simp_all
  obtain ⟨t, q', x, rfl⟩ := open_move (hval 0 23 v0 rfl rfl) h0
  obtain ⟨sl, w, s, e, rfl, hsl⟩ := open_set (hval 1 26 v1 rfl rfl) h1
  have hc : Calls Tryz.prog 3 #[.agg ⟨[iv t, iv q', iv x]⟩, setA sl w s e] W fun e W' => e = .returned (.bool true) ∧ Below W.heap.size W W' := by
    rcases hsl with rfl | ⟨b, o, c, ns, rfl, hmax, cs, ty, fz, hw, hcs⟩
    · exact lawCalls (f := 3) (by kernel_rfl) (lies0 hL) (lies1 hL) [] (by simp) (args0 := [.agg ⟨[iv t, iv q', iv x]⟩, setA (.slice none 0 0) w s e]) (by simp [scL, sc]) (by simp [denL, den]) (w3n t q' x w s e)
    · by_cases hne : ns = []
      · subst hne
        refine lawCalls (f := 3) (by kernel_rfl) (lies0 hL) (lies1 hL) [⟨b, o, []⟩] ?_ (args0 := [.agg ⟨[iv t, iv q', iv x]⟩, setA (.slice (some ⟨9, o, none⟩) 0 c) w s e]) ?_ ?_ (w3e o c t q' x w s e)
        · intro v hv
          rw [List.mem_singleton] at hv
          subst hv
          exact ⟨trivial, cs, ty, fz, hw, fun i hi => by simp at hi⟩
        · simp [scL, sc]
        · simp [denL, den, wloc]
      · refine lawCalls (f := 3) (by kernel_rfl) (lies0 hL) (lies1 hL) [⟨b, o, ns.map iv⟩] ?_ (args0 := [.agg ⟨[iv t, iv q', iv x]⟩, setA (.slice (some ⟨9, o, none⟩) ns.length c) w s e]) ?_ ?_ (w3 ns o c hne t q' x w s e)
        · intro v hv
          rw [List.mem_singleton] at hv
          subst hv
          exact ⟨scL_af _ _ (afL_iv ns), cs, ty, fz, hw, fun i hi => by rw [denL_af _ _ (afL_iv ns)]; exact hcs i hi⟩
        · simp [scL, sc]
        · simp [denL, den, wloc]
  refine hc.mono fun e W' ⟨he, hb⟩ => ⟨_, he, ?_⟩
  refine lawPost ?_ rfl rfl rfl hW' hb
  intro t ht
  rw [params3] at ht
  simp at ht
  rw [tysize]
  rcases ht with rfl | rfl
  · exact ⟨by kernel_rfl, by decide⟩
  · exact ⟨by kernel_rfl, by decide⟩
abbrev witM : Value := .agg #[iv 0, iv 0, iv 0]
abbrev witS : Value := .agg #[.slice none 0 0, iv 0, iv 0, iv 0]
theorem reads (os : Os) {H : Type} (enc : TypeId × Value → H) : ∃ places, DataW.whole enc Tryz.prog ((laidWorld os).forCall (fun _ _ => 0) ⟨#[], #[witM, witS], []⟩).memory Tryz.f3.params.toList Rows.velocityMovedSpec.vars false #[witM, witS].toList 8 = some ([.agg [.lit (.int .i64 0), .lit (.int .i64 0), .lit (.int .i64 0)], .agg [.nil, .lit (.int .i64 0), .lit (.int .i64 0), .lit (.int .i64 0)]], [], places) :=
  ⟨[], by kernel_rfl⟩
set_option maxRecDepth 100000 in
theorem lifted (os : Os) (started : os.Started) (H : Type) (enc : TypeId × Value → H) (F : Stop.Interp) :
    ReturnsInHanded {} Tryz.checked os 3 .any ((OpenSpec.ofChange Rows.velocityMovedSpec).preRow enc Tryz.prog Tryz.f3 Rows.velocityMovedRow.domain false Rows.velocityMovedRow.laid) (((OpenSpec.ofChange Rows.velocityMovedSpec).at F).post enc Tryz.prog Tryz.f3 false true false false) := by
  obtain ⟨places, hx⟩ := reads os enc
  refine returnsInHanded_of_row (C := Tryz.checked) (s := OpenSpec.ofChange Rows.velocityMovedSpec) own started (by kernel_rfl) Tryz.func3
    (witness_row_at (enc := enc) (C := Tryz.checked) false (laidWorld os) #[witM, witS] rfl (by kernel_rfl) (by kernel_rfl) (by kernel_rfl)
      (OpenSpec.preRow_of_cond 8 hx (by kernel_rfl) (fun k hk => by cases hk) (by kernel_rfl) (laid_met2 os _ _))) ?_
  intro W base args ds gs before hval hW _ _ _ hL _ _
  exact contract H enc W base args ds gs before hval hW hL
end velocityMoved
end Go.Proofs.YtkongcnmkiihjaaGreatDoor

namespace Go.Proofs.YtkongcnmkiihjaaGreatDoor
open Go Go.Ab Go.Proofs Go.ChangeShapes Go.WideShapes Go.ChangeAt Go.RowKit
/-! ### handed lists of lists -/
structure RD where
  A : Option Addr
  L : Nat
  C : Nat
  Z : List Int
def RD.val (r : RD) : Value := .slice r.A r.L r.C
def RD.ok (w : World) (r : RD) : Prop := r.L ≤ r.C ∧ r.Z.length = r.C ∧ (r.A = none → r.C = 0) ∧ ∀ a, r.A = some a → ∀ c, c < r.C → w.cell? (a.add c) = some (iv (r.Z.getD c 0))
def RD.view (r : RD) : WView := match r.A with
  | some a => if 0 < r.C then ⟨a.block, a.off, (r.Z.take r.L).map iv⟩ else ⟨0, 0, []⟩
  | none => ⟨0, 0, []⟩
def RD.dead (r : RD) : Nat := match r.A with
  | some a => a.block
  | none => 0
def RD.abs (vn dn : Nat) (r : RD) : Value := match r.A with
  | none => .slice none 0 0
  | some a => if 0 < r.C then .slice (some ⟨vn, a.off, none⟩) r.L r.C else match a.spot with
    | none => .slice (some ⟨dn, a.off, none⟩) 0 0
    | some s => .slice (some ⟨dn, a.off, some (a.off + 1 + s)⟩) 0 1
def absL : Nat → Nat → List RD → List Value
  | vn, dn, r :: rs => r.abs vn dn :: absL (vn + 1) (dn + 1) rs
  | _, _, [] => []
def RD.row (r : RD) : List Int := r.Z.take r.L
theorem absL_len : ∀ (rs : List RD) (vn dn : Nat), (absL vn dn rs).length = rs.length
  | [], _, _ => rfl
  | r :: rs, vn, dn => by simp [absL, absL_len rs]
theorem absL_get : ∀ (rs : List RD) (vn dn i : Nat), (absL vn dn rs)[i]? = (rs[i]?).map fun r => r.abs (vn + i) (dn + i)
  | [], _, _, _ => rfl
  | r :: rs, vn, dn, 0 => by simp [absL]
  | r :: rs, vn, dn, i + 1 => by
    simp only [absL, List.getElem?_cons_succ, absL_get rs]
    rw [show vn + 1 + i = vn + (i + 1) by omega, show dn + 1 + i = dn + (i + 1) by omega]
section
variable {w : World} {r : RD}
theorem RD.spot (h : r.ok w) {a : Addr} (ha : r.A = some a) (hc : 0 < r.C) : a.spot = none ∧ ∃ c t fz, w.heap[a.block]? = some (.cells c t fz) ∧ ∀ i, i < r.C → c[a.off + i]? = some (iv (r.Z.getD i 0)) := by
  obtain ⟨_, _, _, h4⟩ := h
  have h0 := h4 a ha 0 hc
  have ha0 : a.add 0 = a := by simp [Addr.add]
  rw [ha0] at h0
  unfold World.cell? at h0
  split at h0
  · rename_i c t fz hw
    split at h0
    · cases h0
    · rename_i hs
      have hs : a.spot = none := by simpa using hs
      refine ⟨hs, c, t, fz, hw, fun i hi => ?_⟩
      have := h4 a ha i hi
      obtain ⟨b, o, s⟩ := a
      dsimp only at hs hw
      subst hs
      rw [add_none, cell_get hw] at this
      exact this
  · cases h0
theorem RD.den {φ : Vl} {vn dn : Nat} (h : r.ok w) (hv : φ.loc vn = r.view.blk) (hd : φ.loc dn = r.dead) (hc : φ.cap dn = 0) : Ab.den φ (r.abs vn dn) = r.val := by
  have h0 := h
  obtain ⟨h1, h2, h3, _⟩ := h0
  unfold RD.abs RD.val
  unfold RD.view at hv
  unfold RD.dead at hd
  cases hA : r.A with
  | none =>
    have := h3 hA
    have hL : r.L = 0 := by omega
    rw [hL, this]
    rfl
  | some a =>
    rw [hA] at hv hd
    dsimp only at hv hd ⊢
    by_cases hC : 0 < r.C
    · obtain ⟨hs, _⟩ := RD.spot h hA hC
      rw [if_pos hC] at hv ⊢
      obtain ⟨b, o, s⟩ := a
      dsimp only at hs hv
      subst hs
      simp [Ab.den, hv]
    · have hC0 : r.C = 0 := by omega
      have hL : r.L = 0 := by omega
      rw [if_neg hC, hL, hC0]
      obtain ⟨b, o, s⟩ := a
      dsimp only at hd
      cases s with
      | none => simp [Ab.den, hd]
      | some s =>
        have h5 : o < o + 1 + s := by omega
        have h6 : o + 1 + s - o - 1 = s := by omega
        simp [Ab.den, hd, hc, h5, h6]
theorem RD.sc {p : Nat → Prop} {vn dn : Nat} (h1 : p vn) (h2 : p dn) : Ab.sc p (r.abs vn dn) := by
  unfold RD.abs
  split
  · trivial
  · split
    · exact h1
    · split
      · exact h2
      · exact h2
theorem RD.form {vn dn : Nat} (h : r.ok w) : ∃ a c, r.abs vn dn = .slice a r.L c := by
  obtain ⟨h1, h2, h3, _⟩ := h
  unfold RD.abs
  cases hA : r.A with
  | none =>
    have hL : r.L = 0 := by have := h3 hA; omega
    exact ⟨_, _, by rw [hL]⟩
  | some a =>
    dsimp only
    split
    · exact ⟨_, _, rfl⟩
    · have hL : r.L = 0 := by omega
      split <;> exact ⟨_, _, by rw [hL]⟩
theorem RD.seen {H : Heap} {vn dn : Nat} (h : r.ok w) (hv : hget H vn = some (.inp r.view.off r.view.cs)) (hl : r.L < 2147483648) : intV H (r.abs vn dn) = some r.row := by
  have h0 := h
  obtain ⟨h1, h2, h3, _⟩ := h0
  have hlen : r.row.length = r.L := by unfold RD.row; rw [List.length_take]; omega
  have hnil : r.L = 0 → r.row = [] := fun e => List.length_eq_zero_iff.1 (by rw [hlen, e])
  unfold RD.abs
  unfold RD.view at hv
  cases hA : r.A with
  | none =>
    rw [hnil (by have := h3 hA; omega)]
    rfl
  | some a =>
    rw [hA] at hv
    dsimp only at hv ⊢
    by_cases hC : 0 < r.C
    · rw [if_pos hC] at hv ⊢
      rw [← hlen]
      exact intV_inp hv (by omega)
    · rw [if_neg hC, hnil (by omega)]
      split <;> rfl
end
def HandN (w : World) (v : Value) (rds : List RD) : Prop := (v = .slice none 0 0 ∧ rds = []) ∨ ∃ b o c, v = .slice (some ⟨b, o, none⟩) rds.length c ∧ rds.length < 9223372036854775808 ∧ (∃ k t fz, w.heap[b]? = some (.cells k t fz) ∧ ∀ i r, rds[i]? = some r → k[o + i]? = some r.val) ∧ ∀ r ∈ rds, r.ok w
set_option maxRecDepth 100000 in
theorem open_nest {H : Type} {enc : TypeId × Value → H} {W : World} {base : Nat} {v : Value} {d : DataW H} {p : List MemPlace} (hv : Value.okWide Tryz.prog W .any base 38 v) (h : DataW.Trod enc Tryz.prog W 0 (fun _ => true) true 38 v d p) : ∃ rds, HandN W v rds := by
  simp only [Value.okWide, Tryz.underlying38] at hv
  obtain ⟨a, len, cap, rfl⟩ : ∃ a len cap, v = .slice a len cap := okWide_slice (P := Tryz.prog) (w := W) (r := .any) (base := base) Tryz.underlying38 (by simp only [Value.okWide, Tryz.underlying38]; exact hv)
  obtain ⟨fuel, hf⟩ := h
  rcases Deep.open_int_rows Tryz.underlying38 Tryz.underlying24 Tryz.underlying3 (by kernel_rfl) (by kernel_rfl) hf with ⟨h0, _⟩ | ⟨a', len', cap', A, L, C, Z, e, _, hl, hm, _, hrow⟩
  · have h0 : Value.slice a len cap = .slice none 0 0 := by simpa [Value.cells] using h0
    exact ⟨[], .inl ⟨h0, rfl⟩⟩
  · have e : Value.slice a len cap = .slice (some a') len' cap' := by simpa [Value.cells] using e
    rw [e] at hv ⊢
    obtain ⟨hs, k, t, fz, hw⟩ := okWide_addr Tryz.underlying38 hv
    obtain ⟨b, o, s⟩ := a'
    dsimp only at hs hw
    subst hs
    refine ⟨(List.range len').map fun r => ⟨A r, L r, C r, Z r⟩, .inr ⟨b, o, cap', by simp, ?_, ⟨k, t, fz, hw, fun i r hr => ?_⟩, fun r hr => ?_⟩⟩
    · have : maxLen = 2 ^ 63 - 1 := rfl
      simp only [List.length_map, List.length_range]
      omega
    · rw [List.getElem?_map] at hr
      by_cases hi : i < len'
      · rw [List.getElem?_range hi] at hr
        injection hr with hr
        subst hr
        have := (hrow i (by omega)).1
        rw [add_none, cell_get hw] at this
        exact this
      · rw [List.getElem?_eq_none (by simp; omega)] at hr
        cases hr
    · obtain ⟨i, hi, rfl⟩ := List.mem_map.1 hr
      rw [List.mem_range] at hi
      obtain ⟨_, h2, h3, h4, _, h6, h7⟩ := hrow i (by omega)
      exact ⟨h2, h4, h6, fun a ha => (h7 a ha).2⟩
end Go.Proofs.YtkongcnmkiihjaaGreatDoor

namespace Go.Proofs.YtkongcnmkiihjaaGreatDoor
open Go Go.Ab Go.Proofs Go.ChangeShapes Go.WideShapes Go.ChangeAt Go.RowKit
/-! ### the ground of two handed lists of lists -/
def wloc2 (vs : List WView) (ds : List Nat) : Vl := ⟨fun k => if k < 9 then k else match (vs.map (·.blk) ++ ds)[k - 9]? with | some b => b | none => 0, fun _ => 0⟩
theorem wviewH_at {N : Nat} : ∀ (vs : List WView) (G : Heap) (i : Nat) (v : WView), (∀ x ∈ G, x.1 < N) → vs[i]? = some v → hget (wviewH N vs G) (N + i) = some (.inp v.off v.cs)
  | [], _, i, v, _, h => by simp at h
  | u :: vs, G, 0, v, hG, h => by
    simp at h; subst h
    have key : ∀ (vs : List WView) (M : Nat) (G : Heap) (k : Nat) (b : Blk), k < M → hget G k = some b → hget (wviewH M vs G) k = some b := by
      intro vs
      induction vs with
      | nil => intro M G k b _ h; exact h
      | cons x xs ih =>
        intro M G k b hk h
        exact ih (M + 1) _ k b (by omega) (by rw [hget_cons, if_neg (by omega)]; exact h)
    exact key vs (N + 1) _ (N + 0) _ (by omega) (by rw [hget_cons, if_pos (by omega)])
  | u :: vs, G, i + 1, v, hG, h => by
    rw [show N + (i + 1) = N + 1 + i by omega]
    exact wviewH_at vs _ i v (fun x hx => by
      rcases List.mem_cons.1 hx with rfl | hx
      · exact Nat.lt_succ_self _
      · exact Nat.lt_succ_of_lt (hG x hx)) (by simpa using h)
theorem wviewH_low : ∀ (vs : List WView) (M : Nat) (G : Heap) (k : Nat) (b : Blk), k < M → hget G k = some b → hget (wviewH M vs G) k = some b
  | [], M, G, k, b, _, h => h
  | x :: xs, M, G, k, b, hk, h => wviewH_low xs (M + 1) _ k b (by omega) (by rw [hget_cons, if_neg (by omega)]; exact h)
theorem baseW2 {w : World} (h0 : Lies w 0 freeV) (h1x : Lies w 1 rangesV) (vs : List WView) (ds : List Nat)
    (hv : ∀ v ∈ vs, scL (· < 9 + vs.length + ds.length) v.cs ∧ ∃ c t fz, w.heap[v.blk]? = some (.cells c t fz) ∧ ∀ i, i < v.cs.length → c[v.off + i]? = (denL (wloc2 vs ds) v.cs)[i]?) :
    Base Tryz.prog (· < 9 + vs.length + ds.length) (wloc2 vs ds) (9 + vs.length + ds.length) (hget (wviewH 9 vs G0)) w [] act0 ∧ ∀ k b, hget (wviewH 9 vs G0) k = some b → b.own = false := by
  have hH : ∀ k b, hget (wviewH 9 vs G0) k = some b → (k = 1 ∧ b = .inp 0 rangesV) ∨ (k = 0 ∧ b = .inp 0 freeV) ∨ ∃ v, vs[k - 9]? = some v ∧ 9 ≤ k ∧ b = .inp v.off v.cs := fun k b hk => by
    rcases hget_wviewH vs G0 k b (by simp) hk with ⟨_, h2⟩ | h
    · rw [hget_cons, hget_cons] at h2
      by_cases e1x : 1 = k
      · rw [if_pos e1x] at h2; injection h2 with h2; exact .inl ⟨e1x.symm, h2.symm⟩
      · rw [if_neg e1x] at h2
        by_cases e0 : 0 = k
        · rw [if_pos e0] at h2; injection h2 with h2; exact .inr (.inl ⟨e0.symm, h2.symm⟩)
        · rw [if_neg e0] at h2; simp [hget] at h2
    · exact .inr (.inr h)
  have hown : ∀ k b, hget (wviewH 9 vs G0) k = some b → b.own = false := fun k b hk => by
    rcases hH k b hk with ⟨_, rfl⟩ | ⟨_, rfl⟩ | ⟨v, _, _, rfl⟩ <;> rfl
  have hl : ∀ k, k < 9 → (wloc2 vs ds).loc k = k := fun k hk => by simp only [wloc2]; rw [if_pos hk]
  refine ⟨⟨⟨fun k b hk => ?_, fun k b k' b' h1 _ _ ho => (by rw [hown k b h1] at ho; cases ho), fun g hg => ?_⟩, fun _ h => h, fun g hg => ?_, ?_, fun k b hk => ?_, fun t v hv => by simp [lk] at hv, fun t v hv => by simp [lk] at hv⟩, hown⟩
  · rcases hH k b hk with ⟨rfl, rfl⟩ | ⟨rfl, rfl⟩ | ⟨v, h1, h2, rfl⟩
    · obtain ⟨c, t, fz, e1, e2⟩ := h1x
      rw [hl 1 (by omega)]
      refine ⟨c, t, fz, e1, fun i hi => ?_⟩
      rw [Nat.zero_add, denL_af _ _ af_rangesV]; exact e2 i hi
    · obtain ⟨c, t, fz, e1, e2⟩ := h0
      rw [hl 0 (by omega)]
      refine ⟨c, t, fz, e1, fun i hi => ?_⟩
      rw [Nat.zero_add, denL_af _ _ af_freeV]; exact e2 i hi
    · obtain ⟨_, c, t, fz, e1, e2⟩ := hv v (List.mem_of_getElem? h1)
      have hi := (List.getElem?_eq_some_iff.1 h1).1
      have : (wloc2 vs ds).loc k = v.blk := by
        simp only [wloc2]
        rw [if_neg (by omega), List.getElem?_append_left (by simpa using hi), List.getElem?_map, h1]
        rfl
      rw [this]
      exact ⟨c, t, fz, e1, e2⟩
  · rw [gsz] at hg; exact hl g hg
  · rw [gsz] at hg; omega
  · rw [gsz]; omega
  · rcases hH k b hk with ⟨rfl, rfl⟩ | ⟨rfl, rfl⟩ | ⟨v, h1, h2, rfl⟩
    · exact ⟨by omega, scL_af _ _ af_rangesV⟩
    · exact ⟨by omega, scL_af _ _ af_freeV⟩
    · have := (List.getElem?_eq_some_iff.1 h1).1
      exact ⟨by omega, (hv v (List.mem_of_getElem? h1)).1⟩
theorem lawCalls2 {f : FuncId} (he : enterable Tryz.prog f = true) {w : World} (h0 : Lies w 0 freeV) (h1x : Lies w 1 rangesV) (vs : List WView) (ds : List Nat)
    (hv : ∀ v ∈ vs, scL (· < 9 + vs.length + ds.length) v.cs ∧ ∃ c t fz, w.heap[v.blk]? = some (.cells c t fz) ∧ ∀ i, i < v.cs.length → c[v.off + i]? = (denL (wloc2 vs ds) v.cs)[i]?)
    {args0 : List Value} (hsc : scL (· < 9 + vs.length + ds.length) args0) {args : Array Value} (hargs : args = (denL (wloc2 vs ds) args0).toArray) {H' : Heap} {n' : Nat} (h : AC Tryz.prog f args0 (wviewH 9 vs G0) (9 + vs.length + ds.length) (.bool true) H' n') :
    Calls Tryz.prog f args w fun e w' => e = .returned (.bool true) ∧ Below w.heap.size w w' := by
  obtain ⟨hB, hown⟩ := baseW2 h0 h1x vs ds hv
  rw [hargs]
  exact h.calls he rfl hB hsc hown
/-- a handed list's own view, its rows' views behind it -/
def outW (v : Value) (rds : List RD) (vn dn : Nat) : WView := match v with
  | .slice (some a) _ _ => ⟨a.block, a.off, absL vn dn rds⟩
  | _ => ⟨0, 0, []⟩
def absN (v : Value) (rds : List RD) (on : Nat) : Value := match v with
  | .slice (some a) _ c => .slice (some ⟨on, a.off, none⟩) rds.length c
  | _ => .slice none 0 0
section
variable {w : World} {v : Value} {rds : List RD}
theorem view_ok (hz : ∃ c t fz, w.heap[0]? = some (.cells c t fz)) {φ : Vl} {p : Nat → Prop} {r : RD} (h : r.ok w) : scL p r.view.cs ∧ ∃ c t fz, w.heap[r.view.blk]? = some (.cells c t fz) ∧ ∀ i, i < r.view.cs.length → c[r.view.off + i]? = (denL φ r.view.cs)[i]? := by
  have h0 := h
  obtain ⟨h1, h2, h3, _⟩ := h0
  have hdum : scL p ([] : List Value) ∧ ∃ c t fz, w.heap[0]? = some (.cells c t fz) ∧ ∀ i, i < ([] : List Value).length → c[0 + i]? = (denL φ [])[i]? := by
    obtain ⟨c, t, fz, e⟩ := hz
    exact ⟨trivial, c, t, fz, e, fun i hi => by simp at hi⟩
  unfold RD.view
  cases hA : r.A with
  | none => exact hdum
  | some a =>
    dsimp only
    by_cases hC : 0 < r.C
    · obtain ⟨hs, c, t, fz, hw, hc⟩ := RD.spot h hA hC
      rw [if_pos hC]
      refine ⟨scL_af _ _ (afL_iv _), c, t, fz, hw, fun i hi => ?_⟩
      dsimp only at hi ⊢
      rw [List.length_map, List.length_take] at hi
      rw [denL_af _ _ (afL_iv _), hc i (by omega), List.getElem?_map, List.getElem?_take, if_pos (by omega), List.getElem?_eq_getElem (by omega), List.getD_eq_getElem?_getD, List.getElem?_eq_getElem (by omega)]
      rfl
    · rw [if_neg hC]
      exact hdum
theorem absL_den {φ : Vl} {vn dn : Nat} (hok : ∀ r ∈ rds, r.ok w) (h : ∀ i r, rds[i]? = some r → φ.loc (vn + i) = r.view.blk ∧ φ.loc (dn + i) = r.dead) (hc : ∀ k, φ.cap k = 0) (i : Nat) : (denL φ (absL vn dn rds))[i]? = (rds[i]?).map RD.val := by
  rw [denL_get, absL_get]
  cases e : rds[i]? with
  | none => rfl
  | some r =>
    obtain ⟨h1, h2⟩ := h i r e
    simp only [Option.map_some]
    rw [RD.den (hok r (List.mem_of_getElem? e)) h1 h2 (hc _)]
theorem absL_sc {p : Nat → Prop} : ∀ (rds : List RD) (vn dn : Nat), (∀ i, i < rds.length → p (vn + i) ∧ p (dn + i)) → scL p (absL vn dn rds)
  | [], _, _, _ => trivial
  | r :: rds, vn, dn, h => ⟨RD.sc (h 0 (by simp)).1 (h 0 (by simp)).2, absL_sc rds (vn + 1) (dn + 1) fun i hi => by
    have := h (i + 1) (by simpa using hi)
    rw [show vn + 1 + i = vn + (i + 1) by omega, show dn + 1 + i = dn + (i + 1) by omega]
    exact this⟩
theorem outW_ok (hN : HandN w v rds) (hz : ∃ c t fz, w.heap[0]? = some (.cells c t fz)) {φ : Vl} {p : Nat → Prop} {vn dn : Nat} (h : ∀ i r, rds[i]? = some r → φ.loc (vn + i) = r.view.blk ∧ φ.loc (dn + i) = r.dead) (hc : ∀ k, φ.cap k = 0) (hp : ∀ i, i < rds.length → p (vn + i) ∧ p (dn + i)) :
    scL p (outW v rds vn dn).cs ∧ ∃ c t fz, w.heap[(outW v rds vn dn).blk]? = some (.cells c t fz) ∧ ∀ i, i < (outW v rds vn dn).cs.length → c[(outW v rds vn dn).off + i]? = (denL φ (outW v rds vn dn).cs)[i]? := by
  rcases hN with ⟨rfl, rfl⟩ | ⟨b, o, c, rfl, hlt, ⟨k, t, fz, hw, hk⟩, hok⟩
  · obtain ⟨c, t, fz, e⟩ := hz
    exact ⟨trivial, c, t, fz, e, fun i hi => by simp [outW] at hi⟩
  · refine ⟨absL_sc _ _ _ hp, k, t, fz, hw, fun i hi => ?_⟩
    simp only [outW] at hi ⊢
    rw [absL_len] at hi
    rw [absL_den hok h hc, List.getElem?_eq_getElem hi, hk i _ (List.getElem?_eq_getElem hi)]
    rfl
theorem absN_den (hN : HandN w v rds) {φ : Vl} {on : Nat} (h : φ.loc on = (outW v rds 0 0).blk) : Ab.den φ (absN v rds on) = v := by
  rcases hN with ⟨rfl, rfl⟩ | ⟨b, o, c, rfl, hlt, _, hok⟩
  · rfl
  · simp [absN, Ab.den, h, outW]
theorem absN_sc {p : Nat → Prop} {on : Nat} (h : p on) : Ab.sc p (absN v rds on) := by
  unfold absN
  split
  · exact h
  · trivial
/-- what the walks see of it -/
theorem absN_seen (hN : HandN w v rds) {H : Heap} {on vn dn : Nat} (ho : hget H on = some (.inp (outW v rds vn dn).off (outW v rds vn dn).cs)) (hr : ∀ i r, rds[i]? = some r → hget H (vn + i) = some (.inp r.view.off r.view.cs)) :
    LensV H (absN v rds on) (rds.map (·.L)) ∧ (rds.length < 2147483648 → (∀ r ∈ rds, r.L < 2147483648) → nestV H (absN v rds on) = some (rds.map RD.row)) := by
  rcases hN with ⟨rfl, rfl⟩ | ⟨b, o, c, rfl, hlt, _, hok⟩
  · exact ⟨⟨none, 0, rfl, by simp, fun i hi => by simp at hi⟩, fun _ _ => rfl⟩
  · have hcs : cellsA H on o rds.length = some (absL vn dn rds) := by
      rw [cellsA_eq, ho]
      have := absL_len rds vn dn
      simp [cellsB, outW, this]
      exact List.take_of_length_le (by omega)
    refine ⟨⟨some ⟨on, o, none⟩, c, by simp [absN], by simpa using hlt, fun i hi => ?_⟩, fun h1 h2 => ?_⟩
    · rw [List.length_map] at hi
      obtain ⟨a', c', e⟩ := RD.form (vn := vn + i) (dn := dn + i) (hok _ (List.getElem_mem hi))
      have h1 := cells_part (sz := 1) (i := i) (n := rds.length) (by rw [Nat.mul_one]; exact hcs) hi
      have hx : (absL vn dn rds)[i]? = some (rds[i].abs (vn + i) (dn + i)) := by rw [absL_get, List.getElem?_eq_getElem hi]; rfl
      have hi2 : i < (absL vn dn rds).length := by rw [absL_len]; exact hi
      rw [Nat.mul_one] at h1
      rw [List.drop_eq_getElem_cons hi2, List.take_succ_cons, List.take_zero] at h1
      rw [List.getElem?_eq_getElem hi2] at hx
      injection hx with hx
      rw [hx, e] at h1
      exact ⟨_, a', c', rfl, rfl, by simpa using h1⟩
    · have key : nestV H (.slice (some ⟨on, o, none⟩) (rds.map RD.row).length c) = some (rds.map RD.row) := by
        refine listV_mk (cs := absL vn dn rds) rfl (by rw [absL_len]; exact hcs) (by rw [absL_len, List.length_map]) (by rw [List.length_map]; exact h1) fun i x hx => ?_
        rw [absL_get] at hx
        cases e : rds[i]? with
        | none => rw [e] at hx; cases hx
        | some r =>
          rw [e] at hx
          injection hx with hx
          subst hx
          rw [List.getElem?_map, e]
          have hm := List.mem_of_getElem? e
          exact RD.seen (hok r hm) (hr i r e) (h2 r hm)
      rw [List.length_map] at key
      exact key
end
end Go.Proofs.YtkongcnmkiihjaaGreatDoor

namespace Go.Proofs.YtkongcnmkiihjaaGreatDoor
open Go Go.Ab Go.Proofs Go.ChangeShapes Go.WideShapes Go.ChangeAt Go.RowKit
theorem leafs40 : leafs Tryz.prog 6 40 = some [.int .i64, .int .i64] := by kernel_rfl
set_option maxRecDepth 100000 in
theorem open_lim {H : Type} {enc : TypeId × Value → H} {W : World} {base : Nat} {v : Value} {d : DataW H} {p : List MemPlace} (hv : Value.okWide Tryz.prog W .any base 40 v) (h : DataW.Trod enc Tryz.prog W 0 (fun _ => true) true 40 v d p) : ∃ x y : Int, v = limA x y := by
  obtain ⟨cs, rfl, _⟩ := okWide_struct Tryz.underlying40 hv
  obtain ⟨fuel, hf⟩ := h
  have hl := leafs_ok 6 40 _ fuel _ (d, p) leafs40 hf
  obtain ⟨cl⟩ := cs
  have hl : fitsL [.int .i64, .int .i64] cl := by simpa [Value.cells] using hl
  obtain ⟨_, _, rfl, ⟨x, rfl, _⟩, h1⟩ := fits_cons hl
  obtain ⟨_, _, rfl, ⟨y, rfl, _⟩, h2⟩ := fits_cons h1
  obtain rfl := fits_nil h2
  exact ⟨x, y, rfl⟩
theorem shortL_small {ks : List Nat} (h : shortL ks = true) : ks.length ≤ 65 ∧ ∀ k ∈ ks, k ≤ 17 := by
  unfold shortL at h
  rw [Bool.and_eq_true, List.all_eq_true] at h
  obtain ⟨h1, h2⟩ := h
  refine ⟨by simp at h2; omega, fun k hk => ?_⟩
  have := h1 k hk
  simp [shortN] at this
  omega
theorem wloc2_at {vs : List WView} {ds : List Nat} {i b : Nat} (h : (vs.map (·.blk) ++ ds)[i]? = some b) : (wloc2 vs ds).loc (9 + i) = b := by
  simp only [wloc2]
  rw [if_neg (by omega), show 9 + i - 9 = i by omega, h]
/-- the views of two handed lists of lists -/
def views2 (v0 v2 : Value) (P L : List RD) : List WView := outW v0 P 10 (11 + P.length + L.length) :: (P.map RD.view ++ (outW v2 L (11 + P.length) (11 + P.length + L.length + P.length) :: L.map RD.view))
def deads2 (P L : List RD) : List Nat := P.map RD.dead ++ L.map RD.dead
section
variable {v0 v2 : Value} {P L : List RD}
theorem views2_len : (views2 v0 v2 P L).length = 2 + P.length + L.length := by
  simp [views2]; omega
theorem deads2_len : (deads2 P L).length = P.length + L.length := by simp [deads2]
theorem views2_0 : (views2 v0 v2 P L)[0]? = some (outW v0 P 10 (11 + P.length + L.length)) := rfl
theorem views2_P {i : Nat} {r : RD} (h : P[i]? = some r) : (views2 v0 v2 P L)[1 + i]? = some r.view := by
  have hi := (List.getElem?_eq_some_iff.1 h).1
  rw [views2, show 1 + i = i + 1 by omega, List.getElem?_cons_succ, List.getElem?_append_left (by simpa using hi), List.getElem?_map, h]
  rfl
theorem views2_1 : (views2 v0 v2 P L)[1 + P.length]? = some (outW v2 L (11 + P.length) (11 + P.length + L.length + P.length)) := by
  rw [views2, show 1 + P.length = P.length + 1 by omega, List.getElem?_cons_succ, List.getElem?_append_right (by simp), List.length_map, Nat.sub_self]
  rfl
theorem views2_L {i : Nat} {r : RD} (h : L[i]? = some r) : (views2 v0 v2 P L)[2 + P.length + i]? = some r.view := by
  rw [views2, show 2 + P.length + i = (P.length + (i + 1)) + 1 by omega, List.getElem?_cons_succ, List.getElem?_append_right (by simp), List.length_map, show P.length + (i + 1) - P.length = i + 1 by omega, List.getElem?_cons_succ, List.getElem?_map, h]
  rfl
theorem blk2 {i : Nat} {u : WView} (h : (views2 v0 v2 P L)[i]? = some u) : ((views2 v0 v2 P L).map (·.blk) ++ deads2 P L)[i]? = some u.blk := by
  have hi := (List.getElem?_eq_some_iff.1 h).1
  rw [List.getElem?_append_left (by simpa using hi), List.getElem?_map, h]
  rfl
theorem dead2_P {i : Nat} {r : RD} (h : P[i]? = some r) : ((views2 v0 v2 P L).map (·.blk) ++ deads2 P L)[2 + P.length + L.length + i]? = some r.dead := by
  have hi := (List.getElem?_eq_some_iff.1 h).1
  rw [List.getElem?_append_right (by rw [List.length_map, views2_len]; omega), List.length_map, views2_len, show 2 + P.length + L.length + i - (2 + P.length + L.length) = i by omega, deads2, List.getElem?_append_left (by simpa using hi), List.getElem?_map, h]
  rfl
theorem dead2_L {i : Nat} {r : RD} (h : L[i]? = some r) : ((views2 v0 v2 P L).map (·.blk) ++ deads2 P L)[2 + P.length + L.length + P.length + i]? = some r.dead := by
  rw [List.getElem?_append_right (by rw [List.length_map, views2_len]; omega), List.length_map, views2_len, show 2 + P.length + L.length + P.length + i - (2 + P.length + L.length) = P.length + i by omega, deads2, List.getElem?_append_right (by simp), List.length_map, show P.length + i - P.length = i by omega, List.getElem?_map, h]
  rfl
theorem locP (i : Nat) (r : RD) (h : P[i]? = some r) : (wloc2 (views2 v0 v2 P L) (deads2 P L)).loc (10 + i) = r.view.blk ∧ (wloc2 (views2 v0 v2 P L) (deads2 P L)).loc (11 + P.length + L.length + i) = r.dead := by
  refine ⟨?_, ?_⟩
  · rw [show 10 + i = 9 + (1 + i) by omega]; exact wloc2_at (blk2 (views2_P h))
  · rw [show 11 + P.length + L.length + i = 9 + (2 + P.length + L.length + i) by omega]; exact wloc2_at (dead2_P h)
theorem locL (i : Nat) (r : RD) (h : L[i]? = some r) : (wloc2 (views2 v0 v2 P L) (deads2 P L)).loc (11 + P.length + i) = r.view.blk ∧ (wloc2 (views2 v0 v2 P L) (deads2 P L)).loc (11 + P.length + L.length + P.length + i) = r.dead := by
  refine ⟨?_, ?_⟩
  · rw [show 11 + P.length + i = 9 + (2 + P.length + i) by omega]; exact wloc2_at (blk2 (views2_L h))
  · rw [show 11 + P.length + L.length + P.length + i = 9 + (2 + P.length + L.length + P.length + i) by omega]; exact wloc2_at (dead2_L h)
end
/-- a law over two handed lists of lists, limits between them -/
theorem lawNN {f : FuncId} (he : enterable Tryz.prog f = true) {W : World} (h0 : Lies W 0 freeV) (h1x : Lies W 1 rangesV) {v0 v2 : Value} {P L : List RD} (hP : HandN W v0 P) (hL : HandN W v2 L) (up dn : Int)
    (wk : ∀ (H : Heap) (n : Nat) (a b : Value), hget H 0 = some (.inp 0 freeV) → hget H 1 = some (.inp 0 rangesV) → LensV H a (P.map (·.L)) → LensV H b (L.map (·.L)) → (P.length < 2147483648 → (∀ r ∈ P, r.L < 2147483648) → nestV H a = some (P.map RD.row)) → (L.length < 2147483648 → (∀ r ∈ L, r.L < 2147483648) → nestV H b = some (L.map RD.row)) → AC Tryz.prog f [a, limA up dn, b] H n (.bool true) H n) :
    Calls Tryz.prog f #[v0, limA up dn, v2] W fun e W' => e = .returned (.bool true) ∧ Below W.heap.size W W' := by
  have hz : ∃ c t fz, W.heap[0]? = some (.cells c t fz) := by
    obtain ⟨c, t, fz, e, _⟩ := h0
    exact ⟨c, t, fz, e⟩
  have hn : 9 + (views2 v0 v2 P L).length + (deads2 P L).length = 11 + P.length + L.length + P.length + L.length := by rw [views2_len, deads2_len]; omega
  have hG : ∀ x ∈ G0, x.1 < 9 := by simp
  have sP := absN_seen hP (H := wviewH 9 (views2 v0 v2 P L) G0) (on := 9) (vn := 10) (dn := 11 + P.length + L.length) (wviewH_at _ _ 0 _ hG views2_0) (fun i r h => by
    rw [show 10 + i = 9 + (1 + i) by omega]
    exact wviewH_at _ _ _ _ hG (views2_P h))
  have sL := absN_seen hL (H := wviewH 9 (views2 v0 v2 P L) G0) (on := 10 + P.length) (vn := 11 + P.length) (dn := 11 + P.length + L.length + P.length) (by
    rw [show 10 + P.length = 9 + (1 + P.length) by omega]
    exact wviewH_at _ _ _ _ hG views2_1) (fun i r h => by
    rw [show 11 + P.length + i = 9 + (2 + P.length + i) by omega]
    exact wviewH_at _ _ _ _ hG (views2_L h))
  refine lawCalls2 he h0 h1x (views2 v0 v2 P L) (deads2 P L) ?_ (args0 := [absN v0 P 9, limA up dn, absN v2 L (10 + P.length)]) ?_ ?_ (wk _ _ _ _ (wviewH_low _ _ _ _ _ (by omega) rfl) (wviewH_low _ _ _ _ _ (by omega) rfl) sP.1 sL.1 sP.2 sL.2)
  · intro u hu
    rw [hn]
    have hrow : ∀ (Q : List RD), (∀ r ∈ Q, r.ok W) → u ∈ Q.map RD.view → scL (· < 11 + P.length + L.length + P.length + L.length) u.cs ∧ ∃ c t fz, W.heap[u.blk]? = some (.cells c t fz) ∧ ∀ i, i < u.cs.length → c[u.off + i]? = (denL (wloc2 (views2 v0 v2 P L) (deads2 P L)) u.cs)[i]? := fun Q hQ h => by
      obtain ⟨r, hr, rfl⟩ := List.mem_map.1 h
      exact view_ok hz (hQ r hr)
    have hokP : ∀ r ∈ P, r.ok W := by
      rcases hP with ⟨_, rfl⟩ | ⟨_, _, _, _, _, _, h⟩
      · intro r hr; cases hr
      · exact h
    have hokL : ∀ r ∈ L, r.ok W := by
      rcases hL with ⟨_, rfl⟩ | ⟨_, _, _, _, _, _, h⟩
      · intro r hr; cases hr
      · exact h
    unfold views2 at hu
    rcases List.mem_cons.1 hu with rfl | hu
    · exact outW_ok hP hz locP (fun _ => rfl) fun i hi => ⟨by omega, by omega⟩
    · rcases List.mem_append.1 hu with hu | hu
      · exact hrow P hokP hu
      · rcases List.mem_cons.1 hu with rfl | hu
        · exact outW_ok hL hz locL (fun _ => rfl) fun i hi => ⟨by omega, by omega⟩
        · exact hrow L hokL hu
  · rw [hn]
    exact ⟨absN_sc (by omega), by simp [sc, scL], absN_sc (by omega), trivial⟩
  · have e0 := absN_den hP (φ := wloc2 (views2 v0 v2 P L) (deads2 P L)) (on := 9) (by
      have := wloc2_at (blk2 (views2_0 (v0 := v0) (v2 := v2) (P := P) (L := L)))
      rw [Nat.add_zero] at this
      rw [this]
      unfold outW
      split <;> rfl)
    have e2 := absN_den hL (φ := wloc2 (views2 v0 v2 P L) (deads2 P L)) (on := 10 + P.length) (by
      have := wloc2_at (blk2 (views2_1 (v0 := v0) (v2 := v2) (P := P) (L := L)))
      rw [show 10 + P.length = 9 + (1 + P.length) by omega, this]
      unfold outW
      split <;> rfl)
    simp only [denL, e0, e2]
    rfl
theorem params4 : Tryz.f4.params = #[38, 40, 38] := by kernel_rfl
namespace velocityPotentials
set_option maxRecDepth 100000 in
theorem contract (H : Type) (enc : TypeId × Value → H) (W : World) (base : Nat) (args : Array Value) (ds gs : List (DataW H)) (before : List MemPlace)
    (hval : ∀ (j : Nat) t v, Tryz.f4.params[j]? = some t → args[j]? = some v → Value.okWide Tryz.prog W .any base t v)
    (hW : DataW.Whole enc Tryz.prog Tryz.f4.params.toList Rows.velocityPotentialsSpec.vars false W args.toList ds gs before) (hL : laidMetH Tryz.prog Rows.velocityPotentialsRow.laid W) :
    Calls Tryz.prog 4 args W fun e W' => ∃ v, e = .returned v ∧ Rows.velocityPotentialsSpec.post enc Tryz.prog Tryz.f4 false true false false W args v W' := by
  have hW' := hW
  obtain ⟨p, q, hA0, hV, rfl, hfz, hnd⟩ := hW
  have hA : DataW.TrodAll enc Tryz.prog W 0 (fun _ => true) true Tryz.f4.params.toList args.toList ds p := hA0
  rw [params4] at hA hval
  obtain ⟨v0, vs0, d0, ds0, p0, q0, hargs, rfl, rfl, h0, r0⟩ := trodAll_cons hA
  obtain ⟨v1, vs1, d1, ds1, p1, q1, rfl, rfl, rfl, h1, r1⟩ := trodAll_cons r0
  obtain ⟨v2, vs2, d2, ds2, p2, q2, rfl, rfl, rfl, h2, r2⟩ := trodAll_cons r1
  obtain ⟨rfl, rfl, rfl⟩ := trodAll_nil r2
  obtain rfl : args = #[v0, v1, v2] := by cases args; simp_all
  obtain ⟨P, hP⟩ := open_nest (hval 0 38 v0 rfl rfl) h0
  obtain ⟨up, dn, rfl⟩ := open_lim (hval 1 40 v1 rfl rfl) h1
  obtain ⟨L, hLn⟩ := open_nest (hval 2 38 v2 rfl rfl) h2
  have hc : Calls Tryz.prog 4 #[v0, limA up dn, v2] W fun e W' => e = .returned (.bool true) ∧ Below W.heap.size W W' := by
    refine lawNN (by kernel_rfl) (lies0 hL) (lies1 hL) hP hLn up dn fun H n a b g0 g1 l1 l2 n1 n2 => wPot up dn l1 l2 (fun h => ?_) (fun h h' => ?_) g0 g1
    · obtain ⟨h3, h4⟩ := shortL_small h
      rw [List.length_map] at h3
      exact ⟨_, n1 (by omega) fun r hr => by have := h4 r.L (List.mem_map_of_mem (f := (·.L)) hr); omega⟩
    · rw [List.length_map] at h
      exact ⟨_, n2 (by omega) (fun r hr => by have := h' r.L (List.mem_map_of_mem (f := (·.L)) hr); omega), by simp⟩
  refine hc.mono fun e W' ⟨he, hb⟩ => ⟨_, he, ?_⟩
  refine lawPost ?_ rfl rfl rfl hW' hb
  intro t ht
  rw [params4] at ht
  simp at ht
  rw [tysize]
  rcases ht with rfl | rfl | rfl
  · exact ⟨by kernel_rfl, by decide⟩
  · exact ⟨by kernel_rfl, by decide⟩
  · exact ⟨by kernel_rfl, by decide⟩
abbrev witN : Value := .slice none 0 0
theorem reads (os : Os) {H : Type} (enc : TypeId × Value → H) : ∃ places, DataW.whole enc Tryz.prog ((laidWorld os).forCall (fun _ _ => 0) ⟨#[], #[witN, limA 0 0, witN], []⟩).memory Tryz.f4.params.toList Rows.velocityPotentialsSpec.vars false #[witN, limA 0 0, witN].toList 8 = some ([.nil, .agg [.lit (.int .i64 0), .lit (.int .i64 0)], .nil], [], places) :=
  ⟨[], by kernel_rfl⟩
set_option maxRecDepth 100000 in
theorem lifted (os : Os) (started : os.Started) (H : Type) (enc : TypeId × Value → H) (F : Stop.Interp) :
    ReturnsInHanded {} Tryz.checked os 4 .any ((OpenSpec.ofChange Rows.velocityPotentialsSpec).preRow enc Tryz.prog Tryz.f4 Rows.velocityPotentialsRow.domain false Rows.velocityPotentialsRow.laid) (((OpenSpec.ofChange Rows.velocityPotentialsSpec).at F).post enc Tryz.prog Tryz.f4 false true false false) := by
  obtain ⟨places, hx⟩ := reads os enc
  refine returnsInHanded_of_row (C := Tryz.checked) (s := OpenSpec.ofChange Rows.velocityPotentialsSpec) own started (by kernel_rfl) Tryz.func4
    (witness_row_at (enc := enc) (C := Tryz.checked) false (laidWorld os) #[witN, limA 0 0, witN] rfl (by kernel_rfl) (by kernel_rfl) (by kernel_rfl)
      (OpenSpec.preRow_of_cond 8 hx (by kernel_rfl) (fun k hk => by cases hk) (by kernel_rfl) (laid_met3 os _ _ _))) ?_
  intro W base args ds gs before hval hW _ _ _ hL _ _
  exact contract H enc W base args ds gs before hval hW hL
end velocityPotentials
end Go.Proofs.YtkongcnmkiihjaaGreatDoor

namespace Go.Proofs.YtkongcnmkiihjaaGreatDoor
open Go Go.Ab Go.Proofs Go.ChangeShapes Go.WideShapes Go.ChangeAt Go.RowKit
namespace velocityPotentials
theorem fnum : Tryz.prog.funcNamed "moveout/moveoutlaw06.VelocityPotentials" = some 4 := by kernel_rfl
theorem inst : Tryz.f4.isInstance Tryz.prog Rows.velocityPotentialsRow.origin Rows.velocityPotentialsRow.targs := of_decide_eq_true (by kernel_rfl)
theorem wrapper : Tryz.f4.isWrapper Tryz.prog Rows.velocityPotentialsRow.wrapper Rows.velocityPotentialsRow.mainSum := by unfold Func.isWrapper; first | (rw [if_pos (by decide +kernel)]; kernel_rfl) | (rw [if_neg (by decide +kernel)]; exact ⟨rfl, rfl⟩)
set_option maxRecDepth 100000 in
theorem said : Rows.VelocityPotentialsSaid :=
  OpenClaim.holds_of_cond 4 Tryz.f4 rfl rfl rfl rfl rfl rfl rfl ⟨rfl, rfl, rfl, rfl, rfl⟩ rfl rfl rfl rfl rfl fnum Tryz.func4 facts inst wrapper
    (fun os started H enc _ F => by rw [OpenClaim.pre_eq_preRow]; exact lifted os started H enc F)
theorem looks : false = Tryz.prog.looks [] := by kernel_rfl
theorem standIn : ∀ t, t = 38 ∨ t = 40 → Tryz.prog.wantsStandIn t = false := by
  rintro t (rfl | rfl) <;> kernel_rfl
theorem plain (f : FuncId) (fn : Func) (hf : Tryz.pinned.checked.prog.funcNamed "moveout/moveoutlaw06.VelocityPotentials" = some f) (hfn : Tryz.pinned.checked.prog.funcs[f]? = some fn) :
    false = Tryz.pinned.checked.prog.looks [] ∧ ∀ (j : Nat) t, fn.params[j]? = some t → Tryz.pinned.checked.prog.wantsStandIn t = false := by
  obtain rfl : f = 4 := Option.some.inj (fnum.symm.trans hf) |>.symm
  obtain rfl : fn = Tryz.f4 := (Option.some.inj (Tryz.func4.symm.trans hfn)).symm
  refine ⟨looks, fun j t ht => ?_⟩
  rw [params4] at ht
  have h := Array.mem_of_getElem? ht
  simp at h
  exact standIn t (by rcases h with rfl | rfl | rfl <;> simp)
theorem wf : OpenClaim.wfByText (OpenSpec.ofChange Rows.velocityPotentialsSpec) Rows.velocityPotentialsRow = true := by kernel_rfl
theorem main : Tryz.prog.mainIs = some ("a1a323c512223edc39f4736b19c83dbf0e7abd5a77a6adfc6f65b5272966d8f1" |> fun s => (true, s.toList)) := by kernel_rfl
theorem goes : false = Rows.velocityPotentialsRow.goesBy Tryz.prog := by kernel_rfl
set_option maxRecDepth 100000 in
theorem card : Rows.VelocityPotentialsCardSaid :=
  Claim7.holds_tied_plain_at .later [] _ _ _ _ said (fun _ h => by cases h) wf (fun _ h => by cases h) velocityPotentials_row_tie rfl ⟨rfl, rfl⟩ main rfl plain goes
end velocityPotentials
end Go.Proofs.YtkongcnmkiihjaaGreatDoor
