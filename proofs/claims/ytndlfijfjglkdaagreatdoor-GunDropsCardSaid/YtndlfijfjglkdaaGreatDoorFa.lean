/-
From a contract of the evaluator's to the seat's statements; a world in which the laid variables lie.
-/
import Derived.Test.YtndlfijfjglkdaaGreatDoorCards
import Derived.Test.YtndlfijfjglkdaaGreatDoorTie
import Derived.WalkKit
import Derived.ProofKit
import Derived.OpenShut
import Derived.Deep.DeepHandedRow
import Derived.Lib.LaidTab
import Derived.LaidSub
import Derived.Carry
import Derived.Test.YtndlfijfjglkdaaGreatDoorJa
import Derived.Test.YtndlfijfjglkdaaGreatDoorTa
namespace Go.Proofs.YtndlfijfjglkdaaGreatDoor
open Go Go.Ab Go.Proofs Go.ChangeShapes Go.WideShapes Go.ChangeAt Go.RowKit
theorem own : ownKnob Tryz.prog.godebug = none := by kernel_rfl
theorem laidOutT : laidOutB Tryz.prog = true := by kernel_rfl
theorem lies_of {w : World} {g : Nat} {cs : List Value} (hne : cs ≠ []) (h : ∀ i, i < cs.length → w.cell? ⟨g, i, none⟩ = cs[i]?) : Lies w g cs := by
 have h0 := h 0 (by cases cs with | nil => exact absurd rfl hne | cons => simp)
 unfold World.cell? at h0
 have hc : cs[0]? ≠ none := by cases cs with | nil => exact absurd rfl hne | cons => simp
 split at h0
 · rename_i c t fz hw
   refine ⟨c, t, fz, hw, fun i hi => ?_⟩
   have := h i hi
   unfold World.cell? at this
   rw [hw] at this
   simpa using this
 · exact absurd h0.symm hc
theorem cells_of_strs {H : Type} {enc : TypeId × Value → H} {P : Program} {w : World} {base : Nat} {sp : Nat → Bool} {held : Bool} {fuel : Nat} {t e : TypeId} {n : Nat} {cs : List Value} {zs : List (List UInt8)} {p : List MemPlace}
   (ht : P.underlying t = some (.array n e)) (he : P.underlying e = some .string) (hce : P.cellsOf e = 1) (hct : P.cellsOf t = n)
   (h : DataW.trod enc P w base sp held fuel t cs = some (.agg (zs.map fun z => .lit (.string z)), p)) : cs = zs.map fun z => Value.string ⟨z.toArray⟩ := by
 obtain ⟨xs, m, rfl, hx, hl, hxl, hf⟩ := DataW.trod_array ht h
 have hxs : xs.map (·.1) = zs.map fun z => (DataW.lit (.string z) : DataW H) := by
   have := congrArg Prod.fst hx
   simpa using this.symm
 rw [hct] at hl
 have hzl : zs.length = n := by
   have := congrArg List.length hxs
   simp at this
   omega
 apply List.ext_getElem?
 intro i
 by_cases hi : i < n
 · have hfi := hf i hi
   rw [hce, Nat.mul_one] at hfi
   obtain ⟨y, hy⟩ : ∃ y, xs[i]? = some y := ⟨xs[i], by simp⟩
   rw [hy] at hfi
   obtain ⟨z, hc, rfl, _⟩ := DataW.trod_string he hfi
   have h1 : cs[i]? = some (.string z) := by
     have := congrArg (·[0]?) hc
     simpa [List.getElem?_take, List.getElem?_drop] using this
   have h2 : (xs.map (·.1))[i]? = some (DataW.lit (.string z.data.toList) : DataW H) := by simp [hy]
   rw [hxs] at h2
   simp only [List.getElem?_map, Option.map_eq_some_iff, DataW.lit.injEq, Lit.string.injEq] at h2
   obtain ⟨z', hz', hz2⟩ := h2
   rw [h1, List.getElem?_map, hz']
   simp [hz2]
 · rw [List.getElem?_eq_none (by omega), List.getElem?_eq_none (by simp; omega)]
abbrev laidAll : List (String × DataW Unit) := Rows.gunLinesRow.laid
theorem gNames : Tryz.prog.globalNamed "moveout/gun.names" = some 0 := by kernel_rfl
theorem gNamesT : (Tryz.prog.globals[0]?).map (·.type) = some 256 := by kernel_rfl
theorem gTab3 : Tryz.prog.globalNamed "internal/strconv.uint64pow10" = some 3 := by kernel_rfl
theorem gTab3T : (Tryz.prog.globals[3]?).map (·.type) = some 368 := by kernel_rfl
theorem lies3 {W : World} (h : laidMetH Tryz.prog laidAll W) : Lies W 3 tab3 := by
 have h1 := laidMetH.filter (fun x => x.1 == "internal/strconv.uint64pow10") h
 have h2 := Lib.tabIs_of_head (name := "internal/strconv.uint64pow10") (k := .u64) (zs := (List.range 20).map fun (i : Nat) => (10 : Int) ^ i) (rest := []) gTab3 gTab3T Tryz.underlying368 Tryz.underlying330 (by kernel_rfl) (by kernel_rfl) h1
 exact lies_of (by simp [tab3]) fun i hi => by
   rw [World.var?_cell gTab3 h2 i]
   simp [tab3]
   rfl
theorem lies0 {W : World} (h : laidMetH Tryz.prog laidAll W) : Lies W 0 names0 := by
 have h1 : laidMet Tryz.prog [("moveout/gun.names", Rows.laid_moveout_gun_names)] W := laidMetH.filter (fun x => x.1 == "moveout/gun.names") h
 obtain ⟨ps, ⟨g', t', cs, fuel, p, q, hg', ht', hvar, hd, _, _⟩, _⟩ := h1
 obtain rfl := Option.some.inj (gNames.symm.trans hg')
 obtain rfl := Option.some.inj (gNamesT.symm.trans ht')
 have hc := cells_of_strs (zs := [[100, 111, 119, 110], [102, 111, 114, 101], [97, 102, 116], [112, 111, 114, 116], [115, 116, 97, 114, 98, 111, 97, 114, 100]]) Tryz.underlying256 Tryz.underlying9 (by kernel_rfl) (by kernel_rfl) hd
 have hn : names0 = [[100, 111, 119, 110], [102, 111, 114, 101], [97, 102, 116], [112, 111, 114, 116], [115, 116, 97, 114, 98, 111, 97, 114, 100]].map fun z => Value.string ⟨(z : List UInt8).toArray⟩ := by kernel_rfl
 exact lies_of (by simp [names0]) fun i hi => by
   rw [World.var?_cell gNames hvar i, ← Array.getElem?_toList, hc, hn]
structure WView where
 blk : Nat
 off : Nat
 cs : List Value
def wviewH (N : Nat) : List WView → Heap → Heap
 | [], G => G
 | v :: vs, G => wviewH (N + 1) vs ((N, .inp v.off v.cs) :: G)
def wloc (vs : List WView) : Vl := ⟨fun k => if k < 10 then k else match vs[k - 10]? with | some v => v.blk | none => 0, fun _ => 0⟩
theorem hget_wviewH {N : Nat} : ∀ (vs : List WView) (G : Heap) (k : Nat) (b : Blk), (∀ x ∈ G, x.1 < N) → hget (wviewH N vs G) k = some b → (k < N ∧ hget G k = some b) ∨ ∃ v, vs[k - N]? = some v ∧ N ≤ k ∧ b = .inp v.off v.cs
 | [], G, k, b, hG, h => .inl ⟨hG _ (hget_mem _ _ _ h), h⟩
 | v :: vs, G, k, b, hG, h => by
   have := hget_wviewH (N := N + 1) vs ((N, .inp v.off v.cs) :: G) k b (fun x hx => by
     rcases List.mem_cons.1 hx with rfl | hx
     · exact Nat.lt_succ_self _
     · exact Nat.lt_succ_of_lt (hG x hx)) h
   rcases this with ⟨h1, h2⟩ | ⟨u, h1, h2, h3⟩
   · rw [hget_cons] at h2
     by_cases hk : N = k
     · rw [if_pos hk] at h2; injection h2 with h2; subst hk
       exact .inr ⟨v, by simp, Nat.le_refl _, h2.symm⟩
     · rw [if_neg hk] at h2
       exact .inl ⟨by omega, h2⟩
   · refine .inr ⟨u, ?_, by omega, h3⟩
     rw [show k - N = (k - (N + 1)) + 1 by omega]
     simpa using h1
abbrev G0 : Heap := [(3, .inp 0 tab3), (0, .inp 0 names0)]
theorem af_tab3 : afL tab3 = true := by kernel_rfl
theorem af_names0 : afL names0 = true := by kernel_rfl
theorem baseW {w : World} (h0 : Lies w 0 names0) (h3 : Lies w 3 tab3) (vs : List WView)
   (hv : ∀ v ∈ vs, scL (· < 10 + vs.length) v.cs ∧ ∃ c t fz, w.heap[v.blk]? = some (.cells c t fz) ∧ ∀ i, i < v.cs.length → c[v.off + i]? = (denL (wloc vs) v.cs)[i]?) :
   Base Tryz.prog (· < 10 + vs.length) (wloc vs) (10 + vs.length) (hget (wviewH 10 vs G0)) w [] act0 ∧ ∀ k b, hget (wviewH 10 vs G0) k = some b → b.own = false := by
 have hH : ∀ k b, hget (wviewH 10 vs G0) k = some b → (k = 3 ∧ b = .inp 0 tab3) ∨ (k = 0 ∧ b = .inp 0 names0) ∨ ∃ v, vs[k - 10]? = some v ∧ 10 ≤ k ∧ b = .inp v.off v.cs := fun k b hk => by
   rcases hget_wviewH vs G0 k b (by simp) hk with ⟨_, h2⟩ | h
   · rw [hget_cons, hget_cons] at h2
     by_cases e3 : 3 = k
     · rw [if_pos e3] at h2; injection h2 with h2; exact .inl ⟨e3.symm, h2.symm⟩
     · rw [if_neg e3] at h2
       by_cases e0 : 0 = k
       · rw [if_pos e0] at h2; injection h2 with h2; exact .inr (.inl ⟨e0.symm, h2.symm⟩)
       · rw [if_neg e0] at h2; simp [hget] at h2
   · exact .inr (.inr h)
 have hown : ∀ k b, hget (wviewH 10 vs G0) k = some b → b.own = false := fun k b hk => by
   rcases hH k b hk with ⟨_, rfl⟩ | ⟨_, rfl⟩ | ⟨v, _, _, rfl⟩ <;> rfl
 have hl : ∀ k, k < 10 → (wloc vs).loc k = k := fun k hk => by simp only [wloc]; rw [if_pos hk]
 refine ⟨⟨⟨fun k b hk => ?_, fun k b k' b' h1 _ _ ho => (by rw [hown k b h1] at ho; cases ho), fun g hg => ?_⟩, fun _ h => h, fun g hg => ?_, ?_, fun k b hk => ?_, fun t v hv => by simp [lk] at hv, fun t v hv => by simp [lk] at hv⟩, hown⟩
 · rcases hH k b hk with ⟨rfl, rfl⟩ | ⟨rfl, rfl⟩ | ⟨v, h1, h2, rfl⟩
   · obtain ⟨c, t, fz, e1, e2⟩ := h3
     rw [hl 3 (by omega)]
     refine ⟨c, t, fz, e1, fun i hi => ?_⟩
     rw [Nat.zero_add, denL_af _ _ af_tab3]; exact e2 i hi
   · obtain ⟨c, t, fz, e1, e2⟩ := h0
     rw [hl 0 (by omega)]
     refine ⟨c, t, fz, e1, fun i hi => ?_⟩
     rw [Nat.zero_add, denL_af _ _ af_names0]; exact e2 i hi
   · obtain ⟨_, c, t, fz, e1, e2⟩ := hv v (List.mem_of_getElem? h1)
     have : (wloc vs).loc k = v.blk := by simp only [wloc]; rw [if_neg (by omega), h1]
     rw [this]
     exact ⟨c, t, fz, e1, e2⟩
 · rw [gsz] at hg; exact hl g hg
 · rw [gsz] at hg; omega
 · rw [gsz]; omega
 · rcases hH k b hk with ⟨rfl, rfl⟩ | ⟨rfl, rfl⟩ | ⟨v, h1, h2, rfl⟩
   · exact ⟨by omega, scL_af _ _ af_tab3⟩
   · exact ⟨by omega, scL_af _ _ af_names0⟩
   · have := (List.getElem?_eq_some_iff.1 h1).1
     exact ⟨by omega, (hv v (List.mem_of_getElem? h1)).1⟩
theorem lawCalls {f : FuncId} (he : enterable Tryz.prog f = true) {w : World} (h0 : Lies w 0 names0) (h3 : Lies w 3 tab3) (vs : List WView)
   (hv : ∀ v ∈ vs, scL (· < 10 + vs.length) v.cs ∧ ∃ c t fz, w.heap[v.blk]? = some (.cells c t fz) ∧ ∀ i, i < v.cs.length → c[v.off + i]? = (denL (wloc vs) v.cs)[i]?)
   {args0 : List Value} (hsc : scL (· < 10 + vs.length) args0) {args : Array Value} (hargs : args = (denL (wloc vs) args0).toArray) {H' : Heap} {n' : Nat} (h : AC Tryz.prog f args0 (wviewH 10 vs G0) (10 + vs.length) (.bool true) H' n') :
   Calls Tryz.prog f args w fun e w' => e = .returned (.bool true) ∧ Below w.heap.size w w' := by
 obtain ⟨hB, hown⟩ := baseW h0 h3 vs hv
 rw [hargs]
 exact h.calls he rfl hB hsc hown
theorem trodAll_stays {H : Type} {enc : TypeId × Value → H} {P : Program} (hl : laidOutB P = true) {W W' : World} {sp : Nat → Bool} : ∀ (ts : List TypeId) (vs : List Value) (ds : List (DataW H)) (ps : List MemPlace), (∀ t ∈ ts, P.readableRec t = true ∧ t < P.types.size) →
   DataW.TrodAll enc P W 0 (fun _ => true) true ts vs ds ps → (∀ p ∈ ps, W.sameAt W' p) → (∀ p ∈ ps, sp p.block = true) → DataW.TrodAll enc P W' 0 sp true ts vs ds ps
 | [], vs, ds, ps, _, h, _, _ => by
   obtain ⟨rfl, rfl, rfl⟩ := trodAll_nil h
   exact trodAll_mk0
 | t :: ts, vs, ds, ps, ht, h, h1, h2 => by
   obtain ⟨v, vs', d, ds', p, q, rfl, rfl, rfl, h3, h4⟩ := trodAll_cons h
   have := ht t (List.mem_cons_self ..)
   exact trodAll_cons_mk (WideElems.Trod_stays hl this.1 this.2 h3 (fun x hx => h1 x (List.mem_append_left _ hx)) (fun x hx => h2 x (List.mem_append_left _ hx)))
     (trodAll_stays hl ts vs' ds' q (fun t ht' => ht t (List.mem_cons_of_mem _ ht')) h4 (fun x hx => h1 x (List.mem_append_right _ hx)) (fun x hx => h2 x (List.mem_append_right _ hx)))
theorem lawPost {H : Type} {enc : TypeId × Value → H} {f : Func} {s : ChangeSpec} {W W' : World} {args : Array Value} {ds gs : List (DataW H)} {before : List MemPlace} (hread : ∀ t ∈ f.params.toList, Tryz.prog.readableRec t = true ∧ t < Tryz.prog.types.size)
   (hvars : s.vars = []) (hfn : s.fn H ds = { results := [.lit (.bool true)], args := ds }) (hres : f.resultTypes = #[4]) (hW : DataW.Whole enc Tryz.prog f.params.toList s.vars false W args.toList ds gs before) (hb : Below W.heap.size W W') :
   s.post enc Tryz.prog f false true false false W args (.bool true) W' := by
 have hlt := hW.lt
 have hW' := hW
 obtain ⟨p, q, hA, hV, rfl, _, _⟩ := hW
 rw [hvars] at hV
 obtain ⟨rfl, rfl⟩ := trodVars_none hV
 simp only [List.append_nil] at hlt
 refine ⟨ds, [], p ++ [], [], p, [], hW', ?_, ?_, ?_, hb.frame _, fun h => by cases h⟩
 · rw [List.append_nil, hfn, hres]
   exact trodAll_cons_mk (shut_bool Tryz.underlying4 _) trodAll_mk0
 · rw [List.append_nil, hfn]
   exact trodAll_stays laidOutT _ _ _ _ hread hA (fun x hx => hb.same (hlt x hx)) (fun x hx => by simpa using hlt x hx)
 · rw [List.append_nil, hfn, hvars]
   rfl
def tab8 : List Value := [0, 1, 28, 2, 29, 14, 24, 3, 30, 22, 20, 15, 25, 17, 4, 8, 31, 27, 13, 23, 21, 19, 16, 7, 26, 12, 18, 6, 11, 5, 10, 9].map fun (i : Nat) => .int .u8 i
def tab9 : List Value := [0, 1, 56, 2, 57, 49, 28, 3, 61, 58, 42, 50, 38, 29, 17, 4, 62, 47, 59, 36, 45, 43, 51, 22, 53, 39, 33, 30, 24, 18, 12, 5, 63, 55, 48, 27, 60, 41, 37, 16, 46, 35, 44, 21, 52, 32, 23, 11, 54, 26, 40, 15, 34, 20, 31, 10, 25, 14, 19, 9, 13, 8, 7, 6].map fun (i : Nat) => .int .u8 i
def layIn (cs : List Value) : Obj → Obj
 | .cells _ t frozen => .cells cs.toArray t frozen
 | o => o
noncomputable def laidWorld (os : Os) : World :=
 { World.holding Tryz.prog os ⟨#[], #[], []⟩ with heap := ((((World.holding Tryz.prog os ⟨#[], #[], []⟩).heap.modify 0 (layIn names0)).modify 3 (layIn tab3)).modify 8 (layIn tab8)).modify 9 (layIn tab9) }
end Go.Proofs.YtndlfijfjglkdaaGreatDoor
