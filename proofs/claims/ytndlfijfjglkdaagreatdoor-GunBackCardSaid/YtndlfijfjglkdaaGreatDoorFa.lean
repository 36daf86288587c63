/-
From a contract of the evaluator's to the seat's statements; a world in which the laid variables lie.
-/
import Derived.Test.YtndlfijfjglkdaaGreatDoorCards
import Derived.Test.YtndlfijfjglkdaaGreatDoorTie
import Derived.WalkKit
import Derived.ProofKit
import Derived.OpenShut
import Derived.Deep.DeepHandedRow
import Derived.Lib.LaidTab
import Derived.LaidSub
import Derived.Carry
import Derived.Test.YtndlfijfjglkdaaGreatDoorJa
import Derived.Test.YtndlfijfjglkdaaGreatDoorTa
namespace Go.Proofs.YtndlfijfjglkdaaGreatDoor
open Go Go.Ab Go.Proofs Go.ChangeShapes Go.WideShapes Go.ChangeAt Go.RowKit
theorem own : ownKnob Tryz.prog.godebug = none := by kernel_rfl
theorem laidOutT : laidOutB Tryz.prog = true := by kernel_rfl
theorem lies_of {w : World} {g : Nat} {cs : List Value} (hne : cs ≠ []) (h : ∀ i, i < cs.length → w.cell? ⟨g, i, none⟩ = cs[i]?) : Lies w g cs := by
 have h0 := h 0 (by cases cs with | nil => exact absurd rfl hne | cons => simp)
 unfold World.cell? at h0
 have hc : cs[0]? ≠ none := by cases cs with | nil => exact absurd rfl hne | cons => simp
 split at h0
 · rename_i c t fz hw
   refine ⟨c, t, fz, hw, fun i hi => ?_⟩
   have := h i hi
   unfold World.cell? at this
   rw [hw] at this
   simpa using this
 · exact absurd h0.symm hc
theorem cells_of_strs {H : Type} {enc : TypeId × Value → H} {P : Program} {w : World} {base : Nat} {sp : Nat → Bool} {held : Bool} {fuel : Nat} {t e : TypeId} {n : Nat} {cs : List Value} {zs : List (List UInt8)} {p : List MemPlace}
   (ht : P.underlying t = some (.array n e)) (he : P.underlying e = some .string) (hce : P.cellsOf e = 1) (hct : P.cellsOf t = n)
   (h : DataW.trod enc P w base sp held fuel t cs = some (.agg (zs.map fun z => .lit (.string z)), p)) : cs = zs.map fun z => Value.string ⟨z.toArray⟩ := by
 obtain ⟨xs, m, rfl, hx, hl, hxl, hf⟩ := DataW.trod_array ht h
 have hxs : xs.map (·.1) = zs.map fun z => (DataW.lit (.string z) : DataW H) := by
   have := congrArg Prod.fst hx
   simpa using this.symm
 rw [hct] at hl
 have hzl : zs.length = n := by
   have := congrArg List.length hxs
   simp at this
   omega
 apply List.ext_getElem?
 intro i
 by_cases hi : i < n
 · have hfi := hf i hi
   rw [hce, Nat.mul_one] at hfi
   obtain ⟨y, hy⟩ : ∃ y, xs[i]? = some y := ⟨xs[i], by simp⟩
   rw [hy] at hfi
   obtain ⟨z, hc, rfl, _⟩ := DataW.trod_string he hfi
   have h1 : cs[i]? = some (.string z) := by
     have := congrArg (·[0]?) hc
     simpa [List.getElem?_take, List.getElem?_drop] using this
   have h2 : (xs.map (·.1))[i]? = some (DataW.lit (.string z.data.toList) : DataW H) := by simp [hy]
   rw [hxs] at h2
   simp only [List.getElem?_map, Option.map_eq_some_iff, DataW.lit.injEq, Lit.string.injEq] at h2
   obtain ⟨z', hz', hz2⟩ := h2
   rw [h1, List.getElem?_map, hz']
   simp [hz2]
 · rw [List.getElem?_eq_none (by omega), List.getElem?_eq_none (by simp; omega)]
theorem gNames : Tryz.prog.globalNamed "moveout/gun.names" = some 0 := by kernel_rfl
theorem gNamesT : (Tryz.prog.globals[0]?).map (·.type) = some 256 := by kernel_rfl
theorem gTab3 : Tryz.prog.globalNamed "internal/strconv.uint64pow10" = some 3 := by kernel_rfl
theorem gTab3T : (Tryz.prog.globals[3]?).map (·.type) = some 368 := by kernel_rfl
theorem af_tab3 : afL tab3 = true := by kernel_rfl
theorem af_names0 : afL names0 = true := by kernel_rfl
theorem trodAll_stays {H : Type} {enc : TypeId × Value → H} {P : Program} (hl : laidOutB P = true) {W W' : World} {sp : Nat → Bool} : ∀ (ts : List TypeId) (vs : List Value) (ds : List (DataW H)) (ps : List MemPlace), (∀ t ∈ ts, P.readableRec t = true ∧ t < P.types.size) →
   DataW.TrodAll enc P W 0 (fun _ => true) true ts vs ds ps → (∀ p ∈ ps, W.sameAt W' p) → (∀ p ∈ ps, sp p.block = true) → DataW.TrodAll enc P W' 0 sp true ts vs ds ps
 | [], vs, ds, ps, _, h, _, _ => by
   obtain ⟨rfl, rfl, rfl⟩ := trodAll_nil h
   exact trodAll_mk0
 | t :: ts, vs, ds, ps, ht, h, h1, h2 => by
   obtain ⟨v, vs', d, ds', p, q, rfl, rfl, rfl, h3, h4⟩ := trodAll_cons h
   have := ht t (List.mem_cons_self ..)
   exact trodAll_cons_mk (WideElems.Trod_stays hl this.1 this.2 h3 (fun x hx => h1 x (List.mem_append_left _ hx)) (fun x hx => h2 x (List.mem_append_left _ hx)))
     (trodAll_stays hl ts vs' ds' q (fun t ht' => ht t (List.mem_cons_of_mem _ ht')) h4 (fun x hx => h1 x (List.mem_append_right _ hx)) (fun x hx => h2 x (List.mem_append_right _ hx)))
theorem lawPost {H : Type} {enc : TypeId × Value → H} {f : Func} {s : ChangeSpec} {W W' : World} {args : Array Value} {ds gs : List (DataW H)} {before : List MemPlace} (hread : ∀ t ∈ f.params.toList, Tryz.prog.readableRec t = true ∧ t < Tryz.prog.types.size)
   (hvars : s.vars = []) (hfn : s.fn H ds = { results := [.lit (.bool true)], args := ds }) (hres : f.resultTypes = #[4]) (hW : DataW.Whole enc Tryz.prog f.params.toList s.vars false W args.toList ds gs before) (hb : Below W.heap.size W W') :
   s.post enc Tryz.prog f false true false false W args (.bool true) W' := by
 have hlt := hW.lt
 have hW' := hW
 obtain ⟨p, q, hA, hV, rfl, _, _⟩ := hW
 rw [hvars] at hV
 obtain ⟨rfl, rfl⟩ := trodVars_none hV
 simp only [List.append_nil] at hlt
 refine ⟨ds, [], p ++ [], [], p, [], hW', ?_, ?_, ?_, hb.frame _, fun h => by cases h⟩
 · rw [List.append_nil, hfn, hres]
   exact trodAll_cons_mk (shut_bool Tryz.underlying4 _) trodAll_mk0
 · rw [List.append_nil, hfn]
   exact trodAll_stays laidOutT _ _ _ _ hread hA (fun x hx => hb.same (hlt x hx)) (fun x hx => by simpa using hlt x hx)
 · rw [List.append_nil, hfn, hvars]
   rfl
end Go.Proofs.YtndlfijfjglkdaaGreatDoor

namespace Go.Proofs.YtndlfijfjglkdaaGreatDoor
open Go Go.Ab Go.Proofs Go.ChangeShapes Go.WideShapes Go.ChangeAt Go.RowKit
def tab8 : List Value := [0, 1, 28, 2, 29, 14, 24, 3, 30, 22, 20, 15, 25, 17, 4, 8, 31, 27, 13, 23, 21, 19, 16, 7, 26, 12, 18, 6, 11, 5, 10, 9].map fun (i : Nat) => .int .u8 i
def tab9 : List Value := [0, 1, 56, 2, 57, 49, 28, 3, 61, 58, 42, 50, 38, 29, 17, 4, 62, 47, 59, 36, 45, 43, 51, 22, 53, 39, 33, 30, 24, 18, 12, 5, 63, 55, 48, 27, 60, 41, 37, 16, 46, 35, 44, 21, 52, 32, 23, 11, 54, 26, 40, 15, 34, 20, 31, 10, 25, 14, 19, 9, 13, 8, 7, 6].map fun (i : Nat) => .int .u8 i
def layIn (cs : List Value) : Obj → Obj
 | .cells _ t frozen => .cells cs.toArray t frozen
 | o => o
end Go.Proofs.YtndlfijfjglkdaaGreatDoor
