/-
From a contract of the evaluator's to the seat's statements; a world in which the laid variables lie.
-/
import Derived.Test.YtdmepnhmcppkkaaGreatDoorCards
import Derived.Test.YtdmepnhmcppkkaaGreatDoorTie
import Derived.WalkKit
import Derived.ProofKit
import Derived.OpenShut
import Derived.Deep.DeepHandedRow
import Derived.Lib.LaidTab
import Derived.LaidSub
import Derived.Carry
import Derived.Test.YtdmepnhmcppkkaaGreatDoorJa
/-
From a contract of the evaluator's to the seat's statements: what the laid variables hold, what the arguments read as, and what is left behind the call.
-/
namespace Go.Proofs.YtdmepnhmcppkkaaGreatDoor
open Go Go.Ab Go.Proofs Go.ChangeShapes Go.WideShapes Go.ChangeAt Go.RowKit
theorem own : ownKnob Tryz.prog.godebug = none := by kernel_rfl
theorem laidOutT : laidOutB Tryz.prog = true := by kernel_rfl

/-! ### the laid variables -/
theorem lies_of {w : World} {g : Nat} {cs : List Value} (hne : cs ≠ []) (h : ∀ i, i < cs.length → w.cell? ⟨g, i, none⟩ = cs[i]?) : Lies w g cs := by
 have h0 := h 0 (by cases cs with | nil => exact absurd rfl hne | cons => simp)
 unfold World.cell? at h0
 have hc : cs[0]? ≠ none := by cases cs with | nil => exact absurd rfl hne | cons => simp
 split at h0
 · rename_i c t fz hw
   refine ⟨c, t, fz, hw, fun i hi => ?_⟩
   have := h i hi
   unfold World.cell? at this
   rw [hw] at this
   simpa using this
 · exact absurd h0.symm hc
theorem cells_of_ints {H : Type} {enc : TypeId × Value → H} {P : Program} {w : World} {base : Nat} {sp : Nat → Bool} {held : Bool} {fuel : Nat} {t e : TypeId} {n : Nat} {k : IntKind} {cs : List Value} {zs : List Int} {p : List MemPlace}
   (ht : P.underlying t = some (.array n e)) (he : P.underlying e = some (.int k)) (hce : P.cellsOf e = 1) (hct : P.cellsOf t = n)
   (h : DataW.trod enc P w base sp held fuel t cs = some (.agg (zs.map fun z => .lit (.int k z)), p)) : cs = zs.map fun z => Value.int k z := by
 obtain ⟨xs, m, rfl, hx, hl, hxl, hf⟩ := DataW.trod_array ht h
 have hxs : xs.map (·.1) = zs.map fun z => (DataW.lit (.int k z) : DataW H) := by
   have := congrArg Prod.fst hx
   simpa using this.symm
 rw [hct] at hl
 have hzl : zs.length = n := by
   have := congrArg List.length hxs
   simp at this
   omega
 apply List.ext_getElem?
 intro i
 by_cases hi : i < n
 · have hfi := hf i hi
   rw [hce, Nat.mul_one] at hfi
   obtain ⟨y, hy⟩ : ∃ y, xs[i]? = some y := ⟨xs[i], by simp⟩
   rw [hy] at hfi
   obtain ⟨z, hc, rfl, _⟩ := DataW.trod_int he hfi
   have h1 : cs[i]? = some (.int k z) := by
     have := congrArg (·[0]?) hc
     simpa [List.getElem?_take, List.getElem?_drop] using this
   have h2 : (xs.map (·.1))[i]? = some (DataW.lit (.int k z) : DataW H) := by simp [hy]
   rw [hxs] at h2
   simp only [List.getElem?_map, Option.map_eq_some_iff, DataW.lit.injEq, Lit.int.injEq] at h2
   obtain ⟨z', hz', _, hz2⟩ := h2
   rw [h1, List.getElem?_map, hz', Option.map_some, hz2]
 · rw [List.getElem?_eq_none (by omega), List.getElem?_eq_none (by simp; omega)]
theorem pairs_flat (f : Int → Value) : ∀ (zs : List (Int × Int)) (cs : List Value), cs.length = zs.length * 2 → (∀ i z, zs[i]? = some z → (cs.drop (i * 2)).take 2 = [f z.1, f z.2]) → cs = zs.flatMap fun z => [f z.1, f z.2]
 | [], cs, hl, _ => by
   simp at hl
   simp [hl]
 | z :: zs, cs, hl, h => by
   have h0 := h 0 z rfl
   rw [Nat.zero_mul, List.drop_zero] at h0
   have ih := pairs_flat f zs (cs.drop 2) (by simp at hl ⊢; omega) fun i y hy => by
     have := h (i + 1) y (by simpa using hy)
     rw [List.drop_drop, show 2 + i * 2 = (i + 1) * 2 by omega]
     exact this
   rw [List.flatMap_cons, ← ih, ← h0, List.take_append_drop]
theorem cells_of_pairs {H : Type} {enc : TypeId × Value → H} {P : Program} {w : World} {base : Nat} {sp : Nat → Bool} {held : Bool} {fuel : Nat} {t e e2 : TypeId} {n : Nat} {k : IntKind} {cs : List Value} {zs : List (Int × Int)} {p : List MemPlace}
   (ht : P.underlying t = some (.array n e)) (he : P.underlying e = some (.array 2 e2)) (he2 : P.underlying e2 = some (.int k)) (hce2 : P.cellsOf e2 = 1) (hce : P.cellsOf e = 2) (hct : P.cellsOf t = n * 2)
   (h : DataW.trod enc P w base sp held fuel t cs = some (.agg (zs.map fun z => .agg [.lit (.int k z.1), .lit (.int k z.2)]), p)) : cs = zs.flatMap fun z => [Value.int k z.1, Value.int k z.2] := by
 obtain ⟨xs, m, rfl, hx, hl, hxl, hf⟩ := DataW.trod_array ht h
 have hxs : xs.map (·.1) = zs.map fun z => (DataW.agg [.lit (.int k z.1), .lit (.int k z.2)] : DataW H) := by
   have := congrArg Prod.fst hx
   simpa using this.symm
 rw [hct] at hl
 have hzl : zs.length = n := by
   have := congrArg List.length hxs
   simp at this
   omega
 refine pairs_flat (Value.int k) zs cs (by omega) fun i z hz => ?_
 have hi : i < n := by have := (List.getElem?_eq_some_iff.1 hz).1; omega
 have hfi := hf i hi
 rw [hce] at hfi
 obtain ⟨y, hy⟩ : ∃ y, xs[i]? = some y := ⟨xs[i], by simp⟩
 have h2 : (xs.map (·.1))[i]? = some y.1 := by simp [hy]
 rw [hxs, List.getElem?_map, hz] at h2
 rw [hy] at hfi
 obtain ⟨d, q⟩ := y
 simp only [Option.map_some, Option.some.injEq] at h2
 subst h2
 exact cells_of_ints (zs := [z.1, z.2]) he he2 hce2 hce hfi
abbrev laidAll : List (String × DataW Unit) := Rows.coverBinsRow.laid
theorem gStill : Tryz.prog.globalNamed "moveout/cover.still" = some 0 := by kernel_rfl
theorem gStillT : (Tryz.prog.globals[0]?).map (·.type) = some 23 := by kernel_rfl
theorem gPow : Tryz.prog.globalNamed "internal/strconv.uint64pow10" = some 2 := by kernel_rfl
theorem gPowT : (Tryz.prog.globals[2]?).map (·.type) = some 334 := by kernel_rfl
theorem lies2 {W : World} (h : laidMetH Tryz.prog laidAll W) : Lies W 2 powV := by
 have h1 := laidMetH.filter (fun x => x.1 == "internal/strconv.uint64pow10") h
 have h2 := Lib.tabIs_of_head (name := "internal/strconv.uint64pow10") (k := .u64) (zs := (List.range 20).map fun (i : Nat) => (10 : Int) ^ i) (rest := []) gPow gPowT Tryz.underlying334 Tryz.underlying298 (by kernel_rfl) (by kernel_rfl) h1
 exact lies_of (by simp [powV]) fun i hi => by
   rw [World.var?_cell gPow h2 i]
   simp [powV]
   rfl
theorem lies0 {W : World} (h : laidMetH Tryz.prog laidAll W) : Lies W 0 stillV := by
 have h1 : laidMet Tryz.prog [("moveout/cover.still", Rows.laid_moveout_cover_still)] W := laidMetH.filter (fun x => x.1 == "moveout/cover.still") h
 obtain ⟨ps, ⟨g', t', cs, fuel, p, q, hg', ht', hvar, hd, _, _⟩, _⟩ := h1
 obtain rfl := Option.some.inj (gStill.symm.trans hg')
 obtain rfl := Option.some.inj (gStillT.symm.trans ht')
 obtain ⟨⟨d0, p0⟩, ⟨d1, p1⟩, n, hx, hl, h0, h1⟩ := trod_struct2 Tryz.underlying23 hd
 simp only [Prod.mk.injEq, Rows.laid_moveout_cover_still, DataW.agg.injEq, List.cons.injEq, and_true] at hx
 obtain ⟨⟨e0, e1⟩, _⟩ := hx
 subst e0 e1
 obtain ⟨z0, hc0, hz0, _⟩ := DataW.trod_int Tryz.underlying3 h0
 obtain ⟨z1, hc1, hz1, _⟩ := DataW.trod_int Tryz.underlying3 h1
 simp only [Prod.mk.injEq, DataW.lit.injEq, Lit.int.injEq, true_and] at hz0 hz1
 obtain ⟨rfl, _⟩ := hz0
 obtain ⟨rfl, _⟩ := hz1
 exact lies_of (by simp [stillV]) fun i hi => by
   rw [World.var?_cell gStill hvar i, ← Array.getElem?_toList]
   match i, hi with
   | 0, _ =>
     have := congrArg (·[0]?) hc0
     simpa [stillV, List.getElem?_take, List.getElem?_drop, show Tryz.prog.cellsOf 3 = 1 by kernel_rfl] using this
   | 1, _ =>
     have := congrArg (·[0]?) hc1
     simpa [stillV, List.getElem?_take, List.getElem?_drop, show Tryz.prog.cellsOf 3 = 1 by kernel_rfl] using this

/-! ### the ground of a law -/
structure WView where
 blk : Nat
 off : Nat
 cs : List Value
def wviewH (N : Nat) : List WView → Heap → Heap
 | [], G => G
 | v :: vs, G => wviewH (N + 1) vs ((N, .inp v.off v.cs) :: G)
def wloc (vs : List WView) : Vl := ⟨fun k => if k < 9 then k else match vs[k - 9]? with | some v => v.blk | none => 0, fun _ => 0⟩
theorem hget_wviewH {N : Nat} : ∀ (vs : List WView) (G : Heap) (k : Nat) (b : Blk), (∀ x ∈ G, x.1 < N) → hget (wviewH N vs G) k = some b → (k < N ∧ hget G k = some b) ∨ ∃ v, vs[k - N]? = some v ∧ N ≤ k ∧ b = .inp v.off v.cs
 | [], G, k, b, hG, h => .inl ⟨hG _ (hget_mem _ _ _ h), h⟩
 | v :: vs, G, k, b, hG, h => by
   have := hget_wviewH (N := N + 1) vs ((N, .inp v.off v.cs) :: G) k b (fun x hx => by
     rcases List.mem_cons.1 hx with rfl | hx
     · exact Nat.lt_succ_self _
     · exact Nat.lt_succ_of_lt (hG x hx)) h
   rcases this with ⟨h1, h2⟩ | ⟨u, h1, h2, h1x⟩
   · rw [hget_cons] at h2
     by_cases hk : N = k
     · rw [if_pos hk] at h2; injection h2 with h2; subst hk
       exact .inr ⟨v, by simp, Nat.le_refl _, h2.symm⟩
     · rw [if_neg hk] at h2
       exact .inl ⟨by omega, h2⟩
   · refine .inr ⟨u, ?_, by omega, h1x⟩
     rw [show k - N = (k - (N + 1)) + 1 by omega]
     simpa using h1
abbrev G0 : Heap := [(2, .inp 0 powV), (0, .inp 0 stillV)]
theorem af_powV : afL powV = true := by kernel_rfl
theorem af_stillV : afL stillV = true := by kernel_rfl
theorem baseW {w : World} (h0 : Lies w 0 stillV) (h1x : Lies w 2 powV) (vs : List WView)
   (hv : ∀ v ∈ vs, scL (· < 9 + vs.length) v.cs ∧ ∃ c t fz, w.heap[v.blk]? = some (.cells c t fz) ∧ ∀ i, i < v.cs.length → c[v.off + i]? = (denL (wloc vs) v.cs)[i]?) :
   Base Tryz.prog (· < 9 + vs.length) (wloc vs) (9 + vs.length) (hget (wviewH 9 vs G0)) w [] act0 ∧ ∀ k b, hget (wviewH 9 vs G0) k = some b → b.own = false := by
 have hH : ∀ k b, hget (wviewH 9 vs G0) k = some b → (k = 2 ∧ b = .inp 0 powV) ∨ (k = 0 ∧ b = .inp 0 stillV) ∨ ∃ v, vs[k - 9]? = some v ∧ 9 ≤ k ∧ b = .inp v.off v.cs := fun k b hk => by
   rcases hget_wviewH vs G0 k b (by simp) hk with ⟨_, h2⟩ | h
   · rw [hget_cons, hget_cons] at h2
     by_cases e1x : 2 = k
     · rw [if_pos e1x] at h2; injection h2 with h2; exact .inl ⟨e1x.symm, h2.symm⟩
     · rw [if_neg e1x] at h2
       by_cases e0 : 0 = k
       · rw [if_pos e0] at h2; injection h2 with h2; exact .inr (.inl ⟨e0.symm, h2.symm⟩)
       · rw [if_neg e0] at h2; simp [hget] at h2
   · exact .inr (.inr h)
 have hown : ∀ k b, hget (wviewH 9 vs G0) k = some b → b.own = false := fun k b hk => by
   rcases hH k b hk with ⟨_, rfl⟩ | ⟨_, rfl⟩ | ⟨v, _, _, rfl⟩ <;> rfl
 have hl : ∀ k, k < 9 → (wloc vs).loc k = k := fun k hk => by simp only [wloc]; rw [if_pos hk]
 refine ⟨⟨⟨fun k b hk => ?_, fun k b k' b' h1 _ _ ho => (by rw [hown k b h1] at ho; cases ho), fun g hg => ?_⟩, fun _ h => h, fun g hg => ?_, ?_, fun k b hk => ?_, fun t v hv => by simp [lk] at hv, fun t v hv => by simp [lk] at hv⟩, hown⟩
 · rcases hH k b hk with ⟨rfl, rfl⟩ | ⟨rfl, rfl⟩ | ⟨v, h1, h2, rfl⟩
   · obtain ⟨c, t, fz, e1, e2⟩ := h1x
     rw [hl 2 (by omega)]
     refine ⟨c, t, fz, e1, fun i hi => ?_⟩
     rw [Nat.zero_add, denL_af _ _ af_powV]; exact e2 i hi
   · obtain ⟨c, t, fz, e1, e2⟩ := h0
     rw [hl 0 (by omega)]
     refine ⟨c, t, fz, e1, fun i hi => ?_⟩
     rw [Nat.zero_add, denL_af _ _ af_stillV]; exact e2 i hi
   · obtain ⟨_, c, t, fz, e1, e2⟩ := hv v (List.mem_of_getElem? h1)
     have : (wloc vs).loc k = v.blk := by simp only [wloc]; rw [if_neg (by omega), h1]
     rw [this]
     exact ⟨c, t, fz, e1, e2⟩
 · rw [gsz] at hg; exact hl g hg
 · rw [gsz] at hg; omega
 · rw [gsz]; omega
 · rcases hH k b hk with ⟨rfl, rfl⟩ | ⟨rfl, rfl⟩ | ⟨v, h1, h2, rfl⟩
   · exact ⟨by omega, scL_af _ _ af_powV⟩
   · exact ⟨by omega, scL_af _ _ af_stillV⟩
   · have := (List.getElem?_eq_some_iff.1 h1).1
     exact ⟨by omega, (hv v (List.mem_of_getElem? h1)).1⟩
theorem lawCalls {f : FuncId} (he : enterable Tryz.prog f = true) {w : World} (h0 : Lies w 0 stillV) (h1x : Lies w 2 powV) (vs : List WView)
   (hv : ∀ v ∈ vs, scL (· < 9 + vs.length) v.cs ∧ ∃ c t fz, w.heap[v.blk]? = some (.cells c t fz) ∧ ∀ i, i < v.cs.length → c[v.off + i]? = (denL (wloc vs) v.cs)[i]?)
   {args0 : List Value} (hsc : scL (· < 9 + vs.length) args0) {args : Array Value} (hargs : args = (denL (wloc vs) args0).toArray) {H' : Heap} {n' : Nat} (h : AC Tryz.prog f args0 (wviewH 9 vs G0) (9 + vs.length) (.bool true) H' n') :
   Calls Tryz.prog f args w fun e w' => e = .returned (.bool true) ∧ Below w.heap.size w w' := by
 obtain ⟨hB, hown⟩ := baseW h0 h1x vs hv
 rw [hargs]
 exact h.calls he rfl hB hsc hown

/-! ### behind the call -/
theorem trodAll_stays {H : Type} {enc : TypeId × Value → H} {P : Program} (hl : laidOutB P = true) {W W' : World} {sp : Nat → Bool} : ∀ (ts : List TypeId) (vs : List Value) (ds : List (DataW H)) (ps : List MemPlace), (∀ t ∈ ts, P.readableRec t = true ∧ t < P.types.size) →
   DataW.TrodAll enc P W 0 (fun _ => true) true ts vs ds ps → (∀ p ∈ ps, W.sameAt W' p) → (∀ p ∈ ps, sp p.block = true) → DataW.TrodAll enc P W' 0 sp true ts vs ds ps
 | [], vs, ds, ps, _, h, _, _ => by
   obtain ⟨rfl, rfl, rfl⟩ := trodAll_nil h
   exact trodAll_mk0
 | t :: ts, vs, ds, ps, ht, h, h1, h2 => by
   obtain ⟨v, vs', d, ds', p, q, rfl, rfl, rfl, h1x, h4⟩ := trodAll_cons h
   have := ht t (List.mem_cons_self ..)
   exact trodAll_cons_mk (WideElems.Trod_stays hl this.1 this.2 h1x (fun x hx => h1 x (List.mem_append_left _ hx)) (fun x hx => h2 x (List.mem_append_left _ hx)))
     (trodAll_stays hl ts vs' ds' q (fun t ht' => ht t (List.mem_cons_of_mem _ ht')) h4 (fun x hx => h1 x (List.mem_append_right _ hx)) (fun x hx => h2 x (List.mem_append_right _ hx)))
theorem lawPost {H : Type} {enc : TypeId × Value → H} {f : Func} {s : ChangeSpec} {W W' : World} {args : Array Value} {ds gs : List (DataW H)} {before : List MemPlace} (hread : ∀ t ∈ f.params.toList, Tryz.prog.readableRec t = true ∧ t < Tryz.prog.types.size)
   (hvars : s.vars = []) (hfn : s.fn H ds = { results := [.lit (.bool true)], args := ds }) (hres : f.resultTypes = #[4]) (hW : DataW.Whole enc Tryz.prog f.params.toList s.vars false W args.toList ds gs before) (hb : Below W.heap.size W W') :
   s.post enc Tryz.prog f false true false false W args (.bool true) W' := by
 have hlt := hW.lt
 have hW' := hW
 obtain ⟨p, q, hA, hV, rfl, _, _⟩ := hW
 rw [hvars] at hV
 obtain ⟨rfl, rfl⟩ := trodVars_none hV
 simp only [List.append_nil] at hlt
 refine ⟨ds, [], p ++ [], [], p, [], hW', ?_, ?_, ?_, hb.frame _, fun h => by cases h⟩
 · rw [List.append_nil, hfn, hres]
   exact trodAll_cons_mk (shut_bool Tryz.underlying4 _) trodAll_mk0
 · rw [List.append_nil, hfn]
   exact trodAll_stays laidOutT _ _ _ _ hread hA (fun x hx => hb.same (hlt x hx)) (fun x hx => by simpa using hlt x hx)
 · rw [List.append_nil, hfn, hvars]
   rfl
end Go.Proofs.YtdmepnhmcppkkaaGreatDoor

/-
A world in which the seat's laid variables lie: the witness of its statements.
-/
namespace Go.Proofs.YtdmepnhmcppkkaaGreatDoor
open Go Go.Ab Go.Proofs Go.ChangeShapes Go.WideShapes Go.ChangeAt Go.RowKit
def tab7 : List Value := [0, 1, 28, 2, 29, 14, 24, 3, 30, 22, 20, 15, 25, 17, 4, 8, 31, 27, 13, 23, 21, 19, 16, 7, 26, 12, 18, 6, 11, 5, 10, 9].map fun (i : Nat) => .int .u8 i
def tab8 : List Value := [0, 1, 56, 2, 57, 49, 28, 3, 61, 58, 42, 50, 38, 29, 17, 4, 62, 47, 59, 36, 45, 43, 51, 22, 53, 39, 33, 30, 24, 18, 12, 5, 63, 55, 48, 27, 60, 41, 37, 16, 46, 35, 44, 21, 52, 32, 23, 11, 54, 26, 40, 15, 34, 20, 31, 10, 25, 14, 19, 9, 13, 8, 7, 6].map fun (i : Nat) => .int .u8 i
def layIn (cs : List Value) : Obj → Obj
 | .cells _ t frozen => .cells cs.toArray t frozen
 | o => o
abbrev synS : ByteArray := { data := #[105, 110, 118, 97, 108, 105, 100, 32, 115, 121, 110, 116, 97, 120] }
abbrev rngS : ByteArray := { data := #[118, 97, 108, 117, 101, 32, 111, 117, 116, 32, 111, 102, 32, 114, 97, 110, 103, 101] }
noncomputable def lowT : Nat := (World.holding Tryz.prog default ⟨#[], #[], []⟩).heap.size
noncomputable def laidWorld (os : Os) : World :=
 let w0 := World.holding Tryz.prog os ⟨#[.cells #[.string synS] 351, .cells #[.string rngS] 351], #[], []⟩
 { w0 with heap := (((((w0.heap.modify 0 (layIn stillV)).modify 2 (layIn powV)).modify 7 (layIn tab7)).modify 8 (layIn tab8)).modify 3 (layIn [.iface 349 (.pointer (some ⟨lowT, 0, none⟩))])).modify 4 (layIn [.iface 349 (.pointer (some ⟨lowT + 1, 0, none⟩))]) }
theorem laid_met2 (os : Os) (a b : Value) : laidMet Tryz.prog laidAll ((laidWorld os).forCall (fun _ _ => 0) ⟨#[], #[a, b], []⟩).memory :=
 laidMet_of_run' 8 (by kernel_rfl) (by kernel_rfl)
theorem laid_met3 (os : Os) (a b c : Value) : laidMet Tryz.prog laidAll ((laidWorld os).forCall (fun _ _ => 0) ⟨#[], #[a, b, c], []⟩).memory :=
 laidMet_of_run' 8 (by kernel_rfl) (by kernel_rfl)
end Go.Proofs.YtdmepnhmcppkkaaGreatDoor
