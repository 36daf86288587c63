/-
Each operation of the evaluator is sound against the model, first part (under a relation between the named blocks and memory).
-/
import Derived.Laws.Sem
import Derived.Laws.BytesArg
import Derived.IntWalk
import Derived.Test.YtdmepnhmcppkkaaGreatDoorAa
namespace Go.Ab
open Go

def Outc (P : Program) (p : Nat → Prop) (φ : Vl) (n : Nat) (M : Mp) (w : World) (r : Result Next) (v : Value) (n' : Nat) (M' : Mp) : Prop :=
 SM (Nx p n n') M' ∧ sc (Nx p n n') v ∧ ∃ φ' w', (r = .ok (.value (den φ' v)) w' ∨ (r = .ok .skip w' ∧ v = undefV)) ∧ Step P φ n M w φ' n' M' w'
section
variable {P : Program} {p : Nat → Prop} {φ : Vl} {n : Nat} {H : Heap} {w : World} {fr : Fr} {a : Act}
theorem Outc.same {M : Mp} {v : Value} {r : Result Next} (h : HRel P φ M w) (hs : SM p M) (hv : sc p v) (hr : r = .ok (.value (den φ v)) w) : Outc P p φ n M w r v n M :=
 ⟨hs.mono fun _ h => .inl h, sc_mono (fun _ h => .inl h) _ hv, φ, w, .inl hr, Step.refl h⟩
theorem Outc.new {M : Mp} {b : Blk} {o : Obj} {v : Value} {r : Result Next} (h : HRel P φ M w) (hp : ∀ k, p k → k < n) (hn : P.globals.size ≤ n) (hs : SM p M) (hob : b.own = true) (hsb : scB (Nx p n (n + 1)) b) (c : Nat)
   (hb : BRel P (φ.at n w.heap.size c) n b (some o)) (hv : sc (Nx p n (n + 1)) v) (hr : r = .ok (.value (den (φ.at n w.heap.size c) v)) (w.alloc o)) : Outc P p φ n M w r v (n + 1) (addM M n b) := by
 refine ⟨fun k x hx => ?_, hv, φ.at n w.heap.size c, w.alloc o, .inl hr, Step.alloc h hp hn hs hob c hb⟩
 by_cases hk : k = n
 · subst hk; simp only [addM, if_true] at hx; injection hx with hx; subst hx; exact ⟨.inr (by omega), hsb⟩
 · simp only [addM, hk, if_false] at hx; exact ⟨.inl (hs k x hx).1, scB_mono (fun _ h => .inl h) _ (hs k x hx).2⟩
structure Base (P : Program) (p : Nat → Prop) (φ : Vl) (n : Nat) (M : Mp) (w : World) (fr : Fr) (a : Act) : Prop where
 rel : HRel P φ M w
 lt : ∀ k, p k → k < n
 gl : ∀ g, g < P.globals.size → p g
 gn : P.globals.size ≤ n
 sm : SM p M
 ar : ARel φ fr a
 sf : SF p fr
variable {o : Oper} {v : Value} {H' : Heap} {n' : Nat}
theorem Base.evO (hB : Base P p φ n (hget H) w fr a) {x : Operand} {v : Value} (h : Ab.evO P fr x = some v) : a.eval x = den φ v ∧ sc p v := evO_ok hB.rel hB.gl hB.ar hB.sf h
theorem ok_move (hB : Base P p φ n (hget H) w fr a) {x : Operand} (ho : o.op = .move x ∨ o.op = .assign x) (h : opMove P x fr H n = some (v, H', n')) : Outc P p φ n (hget H) w ((execOp a.eval o).run P w) v n' (hget H') := by
 simp only [opMove, Option.map_eq_some_iff] at h
 obtain ⟨u, hu, he⟩ := h
 injection he with h1 h2; injection h2 with h2 h3; subst h1 h2 h3
 have := hB.evO hu
 refine .same hB.rel hB.sm this.2 ?_
 rcases ho with ho | ho <;> simp [execOp, ho, this.1]
theorem ok_pick (hB : Base P p φ n (hget H) w fr a) {c x y : Operand} (ho : o.op = .pick c x y) (h : opPick P c x y fr H n = some (v, H', n')) : Outc P p φ n (hget H) w ((execOp a.eval o).run P w) v n' (hget H') := by
 simp only [opPick] at h
 split at h
 · rename_i hc
   simp only [Option.map_eq_some_iff] at h
   obtain ⟨u, hu, he⟩ := h
   injection he with h1 h2; injection h2 with h2 h3; subst h1 h2 h3
   have h1 := hB.evO hu
   have h2 := hB.evO hc
   refine .same hB.rel hB.sm h1.2 ?_
   simp [execOp, ho, h1.1, h2.1, den, asBool]
 · rename_i hc
   simp only [Option.map_eq_some_iff] at h
   obtain ⟨u, hu, he⟩ := h
   injection he with h1 h2; injection h2 with h2 h3; subst h1 h2 h3
   have h1 := hB.evO hu
   have h2 := hB.evO hc
   refine .same hB.rel hB.sm h1.2 ?_
   simp [execOp, ho, h1.1, h2.1, den, asBool]
 · cases h
theorem ok_pure (hB : Base P p φ n (hget H) w fr a) {s : Sem Value} {u : Value} (hs : runP P s = some u) (hu : afq u = true) (he : (execOp a.eval o).run P w = ((do pure (Next.value (← s))) : Sem Next).run P w) :
   Outc P p φ n (hget H) w ((execOp a.eval o).run P w) u n (hget H) := by
 rw [afq_eq] at hu
 refine .same hB.rel hB.sm (sc_af p _ hu) ?_
 rw [he, den_af φ _ hu]
 simp [runP_ok w hs]
theorem ok_unOp (hB : Base P p φ n (hget H) w fr a) {op : UnOp} {t : TypeId} {x : Operand} (ho : o.op = .unOp op t x) (h : opUnop P op x fr H n = some (v, H', n')) : Outc P p φ n (hget H) w ((execOp a.eval o).run P w) v n' (hget H') := by
 simp only [opUnop] at h
 split at h
 · rename_i u hu
   split at h
   · rename_i hau
     rw [afq_eq] at hau
     cases hr : runP P (Op.unary op u) with
     | none => simp [hr] at h
     | some r =>
       simp only [hr, Option.bind_some] at h
       split at h
       · rename_i har
         injection h with h; injection h with h1 h2; injection h2 with h2 h3; subst h1 h2 h3
         refine ok_pure hB hr har ?_
         have := hB.evO hu
         rw [den_af φ _ hau] at this
         simp [execOp, ho, this.1]
       · cases h
   · cases h
 · cases h
end
section
variable {P : Program} {p : Nat → Prop} {φ : Vl} {n : Nat} {H : Heap} {w : World} {fr : Fr} {a : Act}

theorem cell?_of_heap {b off : Nat} {c : Array Value} {t : TypeId} {fz : Nat × Nat} (h : w.heap[b]? = some (.cells c t fz)) : w.cell? ⟨b, off, none⟩ = c[off]? := by
 simp [World.cell?, h]
theorem den_oneCell (φ : Vl) : ∀ v : Value, v.oneCell' = true → (den φ v).oneCell' = true := by
 intro v h
 cases v with
 | pointer a => cases a <;> simp [den, Value.oneCell']
 | slice a l c =>
   cases a with
   | none => simp [den, Value.oneCell']
   | some a => obtain ⟨b, o, s⟩ := a; cases s <;> simp [den, Value.oneCell']
 | map r => cases r <;> simp [den, Value.oneCell']
 | func fn x y => cases fn <;> simp [den, Value.oneCell']
 | agg _ => simp [Value.oneCell'] at h
 | tuple _ => simp [Value.oneCell'] at h
 | _ => simp [den, Value.oneCell']
theorem oneL_mem : ∀ {vs : List Value}, oneL vs = true → ∀ v ∈ vs, v.oneCell' = true
 | v :: vs, h, u, hu => by
   rcases List.mem_cons.1 hu with rfl | hu
   · cases u <;> first | rfl | simp [oneL] at h
   · refine oneL_mem (vs := vs) ?_ u hu
     cases v <;> first | exact h | (simp [oneL] at h)
theorem cellA_ok (hr : HRel P φ (hget H) w) (hs : SM p (hget H)) {b off : Nat} {v : Value} (h : cellA H b off = some v) : w.cell? ⟨φ.loc b, off, none⟩ = some (den φ v) ∧ sc p v := by
 unfold cellA at h
 split at h
 · rename_i cs t hb
   have h1 := hr.blk b _ hb
   simp only [BRel] at h1
   refine ⟨by rw [cell?_of_heap h1]; simp [denL_get, h], (scL_iff p cs).1 (hs b _ hb).2 v (List.mem_of_getElem? h)⟩
 · rename_i cs t sz hb
   obtain ⟨c, h1, h2, _⟩ := hr.blk b _ hb
   refine ⟨?_, (scL_iff p cs).1 (hs b _ hb).2 v (List.mem_of_getElem? h)⟩
   rw [cell?_of_heap h1]
   have hlt : off < cs.length := (List.getElem?_eq_some_iff.1 h).1
   have : (c.toList.take cs.length)[off]? = some (den φ v) := by rw [h2, denL_get, h]; rfl
   rw [List.getElem?_take_of_lt hlt] at this
   simpa using this
 · rename_i cs sz hb
   obtain ⟨c, _, _, h1, h2, _⟩ := hr.blk b _ hb
   refine ⟨?_, (scL_iff p cs).1 (hs b _ hb).2 v (List.mem_of_getElem? h)⟩
   rw [cell?_of_heap h1]
   have hlt : off < cs.length := (List.getElem?_eq_some_iff.1 h).1
   have : (c.toList.take cs.length)[off]? = some (den φ v) := by rw [h2, denL_get, h]; rfl
   rw [List.getElem?_take_of_lt hlt] at this
   simpa using this
 · rename_i o cs hb
   split at h
   · rename_i ho
     obtain ⟨c, t, fz, h1, h2⟩ := hr.blk b _ hb
     have hlt : off - o < cs.length := (List.getElem?_eq_some_iff.1 h).1
     have h3 := h2 (off - o) hlt
     refine ⟨?_, (scL_iff p cs).1 (hs b _ hb).2 v (List.mem_of_getElem? h)⟩
     rw [cell?_of_heap h1]
     rw [show o + (off - o) = off by omega] at h3
     rw [h3, denL_get, h]; rfl
   · cases h
 · cases h
theorem cellsA_at {b off k : Nat} {cs : List Value} (h : cellsA H b off k = some cs) : cs.length = k ∧ ∀ j, j < k → cellA H b (off + j) = cs[j]? := by
 unfold cellsA at h
 unfold cellA
 split at h
 · rename_i xs t hb
   split at h
   · injection h with h; subst h
     refine ⟨by simp; omega, fun j hj => ?_⟩
     rw [List.getElem?_take_of_lt hj, List.getElem?_drop]
   · cases h
 · rename_i xs t sz hb
   split at h
   · injection h with h; subst h
     refine ⟨by simp; omega, fun j hj => ?_⟩
     rw [List.getElem?_take_of_lt hj, List.getElem?_drop]
   · cases h
 · rename_i xs sz hb
   split at h
   · injection h with h; subst h
     refine ⟨by simp; omega, fun j hj => ?_⟩
     rw [List.getElem?_take_of_lt hj, List.getElem?_drop]
   · cases h
 · rename_i o xs hb
   split at h
   · rename_i ho
     injection h with h; subst h
     refine ⟨by simp; omega, fun j hj => ?_⟩
     rw [if_pos (by omega), List.getElem?_take_of_lt hj, List.getElem?_drop]
     congr 1
     omega
   · cases h
 · cases h
theorem add_none (b o j : Nat) : (⟨b, o, none⟩ : Addr).add j = ⟨b, o + j, none⟩ := by
 unfold Addr.add
 split
 · rename_i h; subst h; rfl
 · rfl
theorem cellsA_ok (hr : HRel P φ (hget H) w) (hs : SM p (hget H)) {b off k : Nat} {cs : List Value} (h : cellsA H b off k = some cs) :
   (loadCells ⟨φ.loc b, off, none⟩ k).run P w = .ok (denL φ cs).toArray w ∧ scL p cs := by
 obtain ⟨hl, hc⟩ := cellsA_at h
 have key : ∀ j v, cs[j]? = some v → w.cell? ⟨φ.loc b, off + j, none⟩ = some (den φ v) ∧ sc p v := fun j v hv => by
   have hj : j < k := by rw [← hl]; exact (List.getElem?_eq_some_iff.1 hv).1
   exact cellA_ok hr hs (by rw [hc j hj, hv])
 refine ⟨?_, (scL_iff p cs).2 fun v hv => ?_⟩
 · have := run_loadCells_list (P := P) w ⟨φ.loc b, off, none⟩ (denL φ cs) (fun j v hv => by
     rw [denL_get] at hv
     cases hcj : cs[j]? with
     | none => simp [hcj] at hv
     | some u =>
       simp only [hcj, Option.map_some, Option.some.injEq] at hv
       rw [add_none, ← hv]
       exact (key j u hcj).1)
   rwa [denL_length, hl] at this
 · obtain ⟨j, hj⟩ := List.getElem?_of_mem hv
   exact (key j v hj).2
theorem scL_put {cs vs : List Value} {off : Nat} (h1 : scL p cs) (h2 : scL p vs) : scL p (putL cs off vs) := by
 rw [scL_iff] at *
 intro v hv
 simp only [putL, List.mem_append] at hv
 rcases hv with (hv | hv) | hv
 · exact h1 v (List.mem_of_mem_take hv)
 · exact h2 v hv
 · exact h1 v (List.mem_of_mem_drop hv)
theorem denL_put (φ : Vl) (cs vs : List Value) (off : Nat) : denL φ (putL cs off vs) = (denL φ cs).take off ++ denL φ vs ++ (denL φ cs).drop (off + vs.length) := by
 simp [putL, denL_eq, List.map_take, List.map_drop]
theorem putL_length {cs vs : List Value} {off : Nat} (h : off + vs.length ≤ cs.length) : (putL cs off vs).length = cs.length := by
 simp [putL]; omega
theorem hget_hset_eq {H : Heap} {k : Nat} {b0 : Blk} (b : Blk) (h : hget H k = some b0) : hget (hset H k b) = setM (hget H) k b := by
 funext j
 rw [hget_hset, h, setM]
 by_cases hj : k = j <;> simp [hj, eq_comm]
theorem SM.set {M : Mp} {k : Nat} {b0 b : Blk} (h : SM p M) (hk : M k = some b0) (hb : scB p b) : SM p (setM M k b) := fun j x hx => by
 by_cases hj : j = k
 · subst hj; simp only [setM, if_true] at hx; injection hx with hx; subst hx; exact ⟨(h j b0 hk).1, hb⟩
 · simp only [setM, hj, if_false] at hx; exact h j x hx
theorem take_putL (l v : List Value) (off m : Nat) (h : off + v.length ≤ m) (hm : m ≤ l.length) :
   (l.take off ++ v ++ l.drop (off + v.length)).take m = (l.take m).take off ++ v ++ (l.take m).drop (off + v.length) := by
 have h1 : (l.take off).length = off := by simp; omega
 have h2 : (l.take off).take m = l.take off := by rw [List.take_take, Nat.min_eq_right (by omega)]
 have h3 : (l.take m).take off = l.take off := by rw [List.take_take, Nat.min_eq_left (by omega)]
 have h4 : v.take (m - (l.take off).length) = v := List.take_of_length_le (by rw [h1]; omega)
 rw [List.take_append, List.take_append, List.drop_take, h2, h3, h4]
 congr 2
 simp; omega
theorem storeA_ok (hr : HRel P φ (hget H) w) (hs : SM p (hget H)) {b off : Nat} {vs : List Value} {H' : Heap} (hv : scL p vs) (ho : oneL vs = true) (h : storeA H b off vs = some H') :
   ∃ w', (storeCells ⟨φ.loc b, off, none⟩ (denL φ vs)).run P w = .ok () w' ∧ Step P φ n (hget H) w φ n (hget H') w' ∧ SM p (hget H') := by
 have hone : ∀ v ∈ denL φ vs, v.oneCell' = true := fun v hv => by
   rw [denL_eq, List.mem_map] at hv
   obtain ⟨u, hu, rfl⟩ := hv
   exact den_oneCell φ u (oneL_mem ho u hu)
 unfold storeA at h
 split at h
 · rename_i cs t hb
   split at h
   · rename_i hle
     injection h with h; subst h
     have h1 := hr.blk b _ hb
     simp only [BRel] at h1
     have hrun := run_storeCells_at (P := P) (φ.loc b) off t (denL φ vs) 0 _ w h1 (by simpa using hle) hone
     refine ⟨_, hrun, ?_, ?_⟩
     · rw [hget_hset_eq _ hb]
       refine Step.put hr hb rfl rfl rfl rfl rfl (by simp) (fun i hi => setRow_other w _ i _ hi) ?_
       rw [setRow_heap w _ _ _ t (0, 0) h1]
       simp [BRel, denL_put]
     · rw [hget_hset_eq _ hb]
       exact hs.set hb (scL_put (hs b _ hb).2 hv)
   · cases h
 · rename_i cs t sz hb
   split at h
   · rename_i hle
     injection h with h; subst h
     obtain ⟨c, h1, h2, h3, h4⟩ := hr.blk b _ hb
     have hcl : cs.length ≤ c.size := by
       have := congrArg List.length h2
       simp at this
       omega
     have hrun := run_storeCells_at (P := P) (φ.loc b) off t (denL φ vs) 0 _ w h1 (by simp; omega) hone
     refine ⟨_, hrun, ?_, ?_⟩
     · rw [hget_hset_eq _ hb]
       refine Step.put hr hb rfl rfl rfl rfl rfl (by simp) (fun i hi => setRow_other w _ i _ hi) ?_
       rw [setRow_heap w _ _ _ t (0, 0) h1]
       refine ⟨_, rfl, ?_, ?_, h4⟩
       · rw [putL_length hle, denL_put, ← h2]
         simp only [Nat.add_zero, denL_length]
         have := take_putL c.toList (denL φ vs) off cs.length (by simpa using hle) (by simpa using hcl)
         simp only [denL_length] at this
         simpa using this
       · simp; omega
     · rw [hget_hset_eq _ hb]
       exact hs.set hb (scL_put (hs b _ hb).2 hv)
   · cases h
 · cases h
end
section
variable {P : Program} {p : Nat → Prop} {φ : Vl} {n : Nat} {H : Heap} {w : World} {fr : Fr} {a : Act} {o : Oper} {v : Value} {H' : Heap} {n' : Nat}

theorem run_info {t : TypeId} {i : TypeInfo} (h : P.info? t = some i) (w : World) : (typeInfo t).run P w = .ok i w := by simp [typeInfo, h]
theorem run_isAgg' {t : TypeId} {b : Bool} (h : isAggA P t = some b) (w : World) : (isAgg t).run P w = .ok b w := by
 unfold isAggA at h
 cases hu : P.underlying t with
 | none => simp [hu] at h
 | some d => cases d <;> simp [hu] at h <;> subst h <;> simp [isAgg, run_underlying hu]
theorem run_size' {t : TypeId} {k : Nat} (h : szA P t = some k) (w : World) : (sizeOf t).run P w = .ok k w := by
 unfold szA at h
 cases hi : P.info? t with
 | none => simp [hi] at h
 | some i => simp [hi] at h; subst h; simp [sizeOf, run_info hi]
theorem run_zero' {t : TypeId} {z : Value} (h : zeroA P t = some z) (w : World) : (zeroValue t).run P w = .ok z w := by
 unfold zeroA at h
 cases hi : P.info? t with
 | none => simp [hi] at h
 | some i => simp [hi] at h; simp [zeroValue, run_info hi, h]
theorem szA_of {t : TypeId} {i : TypeInfo} (h : P.info? t = some i) : szA P t = some i.size := by simp [szA, h]
theorem zeroA_of {t : TypeId} {i : TypeInfo} (h : P.info? t = some i) : zeroA P t = i.zero := by simp [zeroA, h]
theorem cells_den (φ : Vl) (v : Value) : (den φ v).cells = (denL φ v.cells.toList).toArray := by
 cases v with
 | agg cs => simp [den, Value.cells]
 | pointer x => cases x <;> simp [den, Value.cells, denL]
 | slice x l c =>
   cases x with
   | none => simp [den, Value.cells, denL]
   | some x => obtain ⟨b, o, s⟩ := x; cases s <;> simp [den, Value.cells, denL]
 | map x => cases x <;> simp [den, Value.cells, denL]
 | func fn x y => cases fn <;> simp [den, Value.cells, denL]
 | _ => simp [den, Value.cells, denL]
theorem sc_cells {v : Value} (h : sc p v) : scL p v.cells.toList := by
 cases v with
 | agg cs => exact h
 | _ => exact ⟨h, trivial⟩
theorem afL_cells {v : Value} (h : afL v.cells.toList = true) : af v = true := by
 cases v with
 | agg cs => simpa [af, Value.cells] using h
 | _ => simpa [afL, Value.cells] using h

theorem ok_alloc (hB : Base P p φ n (hget H) w fr a) {t : TypeId} (ho : o.op = .alloc t) (h : opAlloc P t fr H n = some (v, H', n')) : Outc P p φ n (hget H) w ((execOp a.eval o).run P w) v n' (hget H') := by
 simp only [opAlloc] at h
 split at h
 · rename_i z hz
   split at h
   · rename_i haf
     simp only [newA] at h
     injection h with h; injection h with h1 h2; injection h2 with h2 h3; subst h1 h2 h3
     rw [hget_addM]
     refine .new hB.rel hB.lt hB.gn hB.sm rfl (scL_af _ _ haf) 0 (o := .cells z.cells t (0, 0)) ?_ (.inr ⟨Nat.le_refl _, Nat.lt_succ_self _⟩) ?_
     · simp [BRel, denL_af _ _ haf]
     · simp [execOp, ho, Instr.alloc, run_zero' hz, newVar, newRow, den, (Vl.at_same φ n w.heap.size 0).1]
   · cases h
 · cases h
theorem ok_box (hB : Base P p φ n (hget H) w fr a) {t : TypeId} {x : Operand} (ho : o.op = .box t x) (h : opBox P t x fr H n = some (v, H', n')) : Outc P p φ n (hget H) w ((execOp a.eval o).run P w) v n' (hget H') := by
 simp only [opBox] at h
 split at h
 · rename_i u hu
   simp only [newA] at h
   injection h with h; injection h with h1 h2; injection h2 with h2 h3; subst h1 h2 h3
   have hx := hB.evO hu
   rw [hget_addM]
   have hsc := sc_cells hx.2
   refine .new hB.rel hB.lt hB.gn hB.sm rfl (scL_mono (fun _ h => .inl h) _ hsc) 0 (o := .cells (den φ u).cells t (0, 0)) ?_ (.inr ⟨Nat.le_refl _, Nat.lt_succ_self _⟩) ?_
   · simp only [BRel]
     rw [cells_den, denL_congr (agr_at hB.lt) _ hsc]
   · simp [execOp, ho, Instr.box, newVar, newRow, den, (Vl.at_same φ n w.heap.size 0).1, hx.1]
 · cases h
theorem loadA_ok (hr : HRel P φ (hget H) w) (hs : SM p (hget H)) {t : TypeId} {x u : Value} (h : loadA P t H x = some u) : ∃ ad, x = .pointer (some ad) ∧ (loadVar t ⟨φ.loc ad.block, ad.off, none⟩).run P w = .ok (den φ u) w ∧ sc p u := by
 unfold loadA at h
 split at h
 · rename_i ad
   refine ⟨ad, rfl, ?_⟩
   split at h
   · rename_i sz hag hsz
     cases hc : cellsA H ad.block ad.off sz with
     | none => simp [hc] at h
     | some cs =>
       simp only [hc, Option.map_some, Option.some.injEq] at h
       subst h
       have := cellsA_ok (P := P) hr hs hc
       simp [loadVar, run_isAgg' hag, run_size' hsz, this.1, den, sc, this.2]
   · rename_i hag
     have := cellA_ok hr hs h
     simp [loadVar, run_isAgg' hag, this.1, this.2]
   · cases h
 · cases h
theorem ok_load (hB : Base P p φ n (hget H) w fr a) {t : TypeId} {x : Operand} (ho : o.op = .load t x) (h : opLoad P t x fr H n = some (v, H', n')) : Outc P p φ n (hget H) w ((execOp a.eval o).run P w) v n' (hget H') := by
 simp only [opLoad] at h
 split at h
 · rename_i u hu
   cases hl : loadA P t H u with
   | none => simp [hl] at h
   | some r =>
     simp only [hl, Option.map_some, Option.some.injEq, Prod.mk.injEq] at h
     obtain ⟨h1, h2, h3⟩ := h
     subst h1 h2 h3
     obtain ⟨ad, rfl, hrun, hsc⟩ := loadA_ok hB.rel hB.sm hl
     refine .same hB.rel hB.sm hsc ?_
     simp [execOp, ho, Instr.loadAt, (hB.evO hu).1, den, Instr.sureAddr, hrun]
 · cases h
theorem ok_store (hB : Base P p φ n (hget H) w fr a) {t : TypeId} {x y : Operand} (ho : o.op = .store t x y) (h : opStore P t x y fr H n = some (v, H', n')) : Outc P p φ n (hget H) w ((execOp a.eval o).run P w) v n' (hget H') := by
 simp only [opStore] at h
 split at h
 · rename_i ad u hx hy
   split at h
   · rename_i sz hsz
     split at h
     · rename_i hc
       simp only [Bool.and_eq_true, decide_eq_true_eq] at hc
       cases hst : storeA H ad.block ad.off u.cells.toList with
       | none => simp [hst] at h
       | some H1 =>
         simp only [hst, Option.map_some, Option.some.injEq, Prod.mk.injEq] at h
         obtain ⟨h1, h2, h3⟩ := h
         subst h1 h2 h3
         have hx' := hB.evO hx
         have hy' := hB.evO hy
         obtain ⟨w', hrun, hstep, hsm⟩ := storeA_ok (P := P) hB.rel hB.sm (sc_cells hy'.2) hc.2 hst
         refine ⟨hsm.mono fun _ h => .inl h, by simp [undefV, sc, scL], φ, w', .inr ⟨?_, rfl⟩, hstep⟩
         have hsz' : (den φ u).cells.size = sz := by rw [cells_den]; simpa using hc.1
         have hcl : (den φ u).cells.toList = denL φ u.cells.toList := by rw [cells_den]
         simp [execOp, ho, Instr.storeAt, hx'.1, hy'.1, den, Instr.sureAddr, storeVar, run_size' hsz, hsz', hcl, hrun]
     · cases h
   · cases h
 · cases h
theorem ok_nilCheck (hB : Base P p φ n (hget H) w fr a) {x : Operand} (ho : o.op = .nilCheck x) (h : opNilcheck P x fr H n = some (v, H', n')) : Outc P p φ n (hget H) w ((execOp a.eval o).run P w) v n' (hget H') := by
 simp only [opNilcheck] at h
 split at h
 · rename_i ad hx
   injection h with h; injection h with h1 h2; injection h2 with h2 h3; subst h1 h2 h3
   refine .same hB.rel hB.sm (hB.evO hx).2 ?_
   simp [execOp, ho, (hB.evO hx).1, den]
 · rename_i f x1 x2 hx
   injection h with h; injection h with h1 h2; injection h2 with h2 h3; subst h1 h2 h3
   refine .same hB.rel hB.sm (hB.evO hx).2 ?_
   simp [execOp, ho, (hB.evO hx).1, den]
 · cases h
theorem ok_fieldAddr (hB : Base P p φ n (hget H) w fr a) {s : TypeId} {x : Operand} {f : Nat} (ho : o.op = .fieldAddr s x f) (h : opFieldaddr P s x f fr H n = some (v, H', n')) : Outc P p φ n (hget H) w ((execOp a.eval o).run P w) v n' (hget H') := by
 simp only [opFieldaddr] at h
 split at h
 · rename_i ad fields hx hu
   split at h
   · rename_i fl hfl
     split at h
     · cases h
     · rename_i k hk0 hsz
       injection h with h; injection h with h1 h2; injection h2 with h2 h3; subst h1 h2 h3
       have hx' := hB.evO hx
       refine .same hB.rel hB.sm hx'.2 ?_
       have hne : k ≠ 0 := fun e => hk0 e
       simp [execOp, ho, hx'.1, den, Instr.fieldAt, run_underlying hu, hfl, Instr.sureAddr, fieldPlace, run_size' hsz, hne, add_none]
     · cases h
   · cases h
 · cases h
theorem partA_ok (φ : Vl) {t : TypeId} {cs : List Value} {off : Nat} {u : Value} (hs : scL p cs) (h : partA P t cs off = some u) (w : World) : (part t (denL φ cs).toArray off).run P w = .ok (den φ u) w ∧ sc p u := by
 unfold partA at h
 split at h
 · rename_i sz hag hsz
   injection h with h; subst h
   refine ⟨?_, ?_⟩
   · simp [part, run_isAgg' hag, run_size' hsz, den]
     simp [denL_eq, List.map_take, List.map_drop]
   · simp only [sc]
     rw [scL_iff] at *
     exact fun v hv => hs v (List.mem_of_mem_drop (List.mem_of_mem_take hv))
 · rename_i hag
   refine ⟨?_, (scL_iff p cs).1 hs u (List.mem_of_getElem? h)⟩
   have : (denL φ cs)[off]? = some (den φ u) := by rw [denL_get, h]; rfl
   simp [part, run_isAgg' hag, this]
 · cases h
theorem ok_field (hB : Base P p φ n (hget H) w fr a) {t : TypeId} {x : Operand} {f : Nat} (ho : o.op = .field t x f) (h : opField P t x f fr H n = some (v, H', n')) : Outc P p φ n (hget H) w ((execOp a.eval o).run P w) v n' (hget H') := by
 simp only [opField] at h
 split at h
 · rename_i cs fields hx hu
   split at h
   · rename_i fl hfl
     cases hp : partA P fl.type cs.toList fl.offset with
     | none => simp [hp] at h
     | some r =>
       simp only [hp, Option.map_some, Option.some.injEq, Prod.mk.injEq] at h
       obtain ⟨h1, h2, h3⟩ := h
       subst h1 h2 h3
       have hx' := hB.evO hx
       have := partA_ok (P := P) φ (by simpa [sc] using hx'.2) hp w
       refine .same hB.rel hB.sm this.2 ?_
       simp [execOp, ho, hx'.1, den, Instr.field, run_underlying hu, hfl, asAgg, this.1]
   · cases h
 · cases h
theorem ok_extract (hB : Base P p φ n (hget H) w fr a) {x : Operand} {ix : Nat} (ho : o.op = .extract x ix) (h : opExtract P x ix fr H n = some (v, H', n')) : Outc P p φ n (hget H) w ((execOp a.eval o).run P w) v n' (hget H') := by
 simp only [opExtract] at h
 split at h
 · rename_i vs hx
   cases hp : vs.toList[ix]? with
   | none => simp [hp] at h
   | some r =>
     simp only [hp, Option.map_some, Option.some.injEq, Prod.mk.injEq] at h
     obtain ⟨h1, h2, h3⟩ := h
     subst h1 h2 h3
     have hx' := hB.evO hx
     refine .same hB.rel hB.sm ((scL_iff p _).1 hx'.2 r (List.mem_of_getElem? hp)) ?_
     have : (denL φ vs.toList)[ix]? = some (den φ r) := by rw [denL_get, hp]; rfl
     simp [execOp, ho, hx'.1, den, Instr.extract, this]
 · cases h
theorem flat_spot {ad : Addr} (h : flat ad = true) : ad.spot = none ∨ ad.spot = some 0 := by
 unfold flat at h
 split at h
 · exact .inl ‹_›
 · rename_i j hj
   exact .inr (by rw [hj, Nat.eq_of_beq_eq_true h])
theorem den_flat (φ : Vl) {ad : Addr} {l c : Nat} (h : flat ad = true) : ∃ c', den φ (.slice (some ad) l c) = .slice (some ⟨φ.loc ad.block, ad.off, none⟩) l c' := by
 obtain ⟨b, off, s⟩ := ad
 rcases flat_spot h with h | h <;> dsimp only at h <;> subst h <;> simp [den]
theorem ok_indexAddr (hB : Base P p φ n (hget H) w fr a) {t : TypeId} {x i : Operand} (ho : o.op = .indexAddr t x i) (h : opIndexaddr P t x i fr H n = some (v, H', n')) : Outc P p φ n (hget H) w ((execOp a.eval o).run P w) v n' (hget H') := by
 simp only [opIndexaddr] at h
 split at h
 · rename_i ad k j len elem hx hi hu
   split at h
   · rename_i sz hsz
     split at h
     · rename_i hj
       injection h with h; injection h with h1 h2; injection h2 with h2 h3; subst h1 h2 h3
       have hx' := hB.evO hx
       have hi' := hB.evO hi
       refine .same hB.rel hB.sm hx'.2 ?_
       simp [execOp, ho, hx'.1, hi'.1, den, Instr.indexAt, asIntOf, run_underlying hu, Instr.sureAddr, hj, run_size' hsz, add_none]
     · cases h
   · cases h
 · rename_i ad len c k j elem hx hi hu
   split at h
   · rename_i sz hsz
     split at h
     · rename_i hj
       injection h with h; injection h with h1 h2; injection h2 with h2 h3; subst h1 h2 h3
       have hx' := hB.evO hx
       have hi' := hB.evO hi
       obtain ⟨c', hc'⟩ := den_flat φ (l := len) (c := c) hj.2
       rw [hc'] at hx'
       refine .same hB.rel hB.sm hx'.2 ?_
       simp [execOp, ho, hx'.1, hi'.1, den, Instr.indexAt, asIntOf, run_underlying hu, hj.1, run_size' hsz, add_none]
     · cases h
   · cases h
 · cases h
end
section
variable {P : Program} {p : Nat → Prop} {φ : Vl} {n : Nat} {H : Heap} {w : World} {fr : Fr} {a : Act} {o : Oper} {v : Value} {H' : Heap} {n' : Nat}

theorem Outc.of_pure {M : Mp} (hr : HRel P φ M w) (hsm : SM p M) {s : Sem Value} {u : Value} (hs : runP P s = some u) (hu : afq u = true) {r : Result Next} (he : r = ((do pure (Next.value (← s))) : Sem Next).run P w) :
   Outc P p φ n M w r u n M := by
 rw [afq_eq] at hu
 refine .same hr hsm (sc_af p _ hu) ?_
 rw [he, den_af φ _ hu]
 simp [runP_ok w hs]
theorem ok_index (hB : Base P p φ n (hget H) w fr a) {t : TypeId} {x i : Operand} (ho : o.op = .index t x i) (h : opIndex P t x i fr H n = some (v, H', n')) : Outc P p φ n (hget H) w ((execOp a.eval o).run P w) v n' (hget H') := by
 simp only [opIndex] at h
 split at h
 · rename_i s k j hx hi
   cases hr : runP P (Instr.index t (.string s) (.int k j)) with
   | none => simp [hr] at h
   | some r =>
     simp only [hr, Option.bind_some] at h
     split at h
     · rename_i har
       injection h with h; injection h with h1 h2; injection h2 with h2 h3; subst h1 h2 h3
       refine ok_pure hB hr har ?_
       simp [execOp, ho, (hB.evO hx).1, (hB.evO hi).1, den]
     · cases h
 · rename_i cs k j hx hi
   split at h
   · rename_i len elem hu
     split at h
     · rename_i sz hsz
       split at h
       · rename_i hj
         cases hp : partA P elem cs.toList (j.toNat * sz) with
         | none => simp [hp] at h
         | some r =>
           simp only [hp, Option.map_some, Option.some.injEq, Prod.mk.injEq] at h
           obtain ⟨h1, h2, h3⟩ := h
           subst h1 h2 h3
           have hx' := hB.evO hx
           have hi' := hB.evO hi
           have := partA_ok (P := P) φ (by simpa [sc] using hx'.2) hp w
           refine .same hB.rel hB.sm this.2 ?_
           simp [execOp, ho, hx'.1, hi'.1, den, Instr.index, asIntOf, run_underlying hu, hj, run_size' hsz, this.1]
       · cases h
     · cases h
   · cases h
 · cases h
theorem ok_makeFunc (hB : Base P p φ n (hget H) w fr a) {fn : Fn} {first captured : Array Operand} (ho : o.op = .makeFunc fn first captured) (h : opMakefunc P fn first captured fr H n = some (v, H', n')) : Outc P p φ n (hget H) w ((execOp a.eval o).run P w) v n' (hget H') := by
 simp only [opMakefunc] at h
 split at h
 · rename_i f x y hx hy
   injection h with h; injection h with h1 h2; injection h2 with h2 h3; subst h1 h2 h3
   have h1 := evOs_ok hB.rel hB.gl hB.ar hB.sf hx
   have h2 := evOs_ok hB.rel hB.gl hB.ar hB.sf hy
   refine .same hB.rel hB.sm (by simp [sc, h1.2, h2.2]) ?_
   have e1 : first.map a.eval = (denL φ x).toArray := by rw [← h1.1]; apply Array.ext'; simp
   have e2 : captured.map a.eval = (denL φ y).toArray := by rw [← h2.1]; apply Array.ext'; simp
   simp [execOp, ho, Instr.makeFunc, den, e1, e2]
 · cases h
theorem ok_makeInterface (hB : Base P p φ n (hget H) w fr a) {t : TypeId} {x : Operand} (ho : o.op = .makeInterface t x) (h : opMakeinterface P t x fr H n = some (v, H', n')) : Outc P p φ n (hget H) w ((execOp a.eval o).run P w) v n' (hget H') := by
 simp only [opMakeinterface] at h
 split at h
 · cases h
 · rename_i u d hni hx hu
   injection h with h; injection h with h1 h2; injection h2 with h2 h3; subst h1 h2 h3
   have hx' := hB.evO hx
   refine .same hB.rel hB.sm (by simpa [sc] using hx'.2) ?_
   simp only [execOp, ho, hx'.1, den, Instr.makeInterface, Sem.run_bind, run_underlying hu]
   cases d <;> first | rfl | exact absurd rfl (hni _)
 · cases h
theorem ok_makeMap (hB : Base P p φ n (hget H) w fr a) {t : TypeId} (ho : o.op = .makeMap t none) (h : opMakemap P fr H n = some (v, H', n')) : Outc P p φ n (hget H) w ((execOp a.eval o).run P w) v n' (hget H') := by
 simp only [opMakemap, newA] at h
 injection h with h; injection h with h1 h2; injection h2 with h2 h3; subst h1 h2 h3
 rw [hget_addM]
 refine .new hB.rel hB.lt hB.gn hB.sm rfl (by simp [scB]) 0 (o := .map #[] 0) ?_ (.inr ⟨Nat.le_refl _, Nat.lt_succ_self _⟩) ?_
 · simp [BRel]
 · simp [execOp, ho, Instr.makeMap, den, (Vl.at_same φ n w.heap.size 0).1]
theorem ok_typeAssert (hB : Base P p φ n (hget H) w fr a) {x : Operand} {xt asd : TypeId} {ok : Bool} (ho : o.op = .typeAssert x xt asd ok) (h : opTypeassert P x xt asd ok fr H n = some (v, H', n')) : Outc P p φ n (hget H) w ((execOp a.eval o).run P w) v n' (hget H') := by
 simp only [opTypeassert] at h
 split at h
 · rename_i u hu
   split at h
   · rename_i hau
     rw [afq_eq] at hau
     cases hr : runP P (Instr.typeAssert u xt asd ok) with
     | none => simp [hr] at h
     | some r =>
       simp only [hr, Option.bind_some] at h
       split at h
       · rename_i har
         injection h with h; injection h with h1 h2; injection h2 with h2 h3; subst h1 h2 h3
         refine ok_pure hB hr har ?_
         have := hB.evO hu
         rw [den_af φ _ hau] at this
         simp [execOp, ho, this.1]
       · cases h
   · cases h
 · cases h
theorem ok_slicetoarray (hB : Base P p φ n (hget H) w fr a) {arr : TypeId} {x : Operand} (ho : o.op = .sliceToArrayPointer arr x) (h : opSlicetoarraypointer P arr x fr H n = some (v, H', n')) : Outc P p φ n (hget H) w ((execOp a.eval o).run P w) v n' (hget H') := by
 simp only [opSlicetoarraypointer] at h
 split at h
 · rename_i ad len c k elem hx hu
   split at h
   · rename_i hk
     injection h with h; injection h with h1 h2; injection h2 with h2 h3; subst h1 h2 h3
     have hx' := hB.evO hx
     obtain ⟨c', hc'⟩ := den_flat φ (l := len) (c := c) hk.2
     rw [hc'] at hx'
     refine .same hB.rel hB.sm hx'.2 ?_
     have : ¬ len < k := by omega
     simp [execOp, ho, hx'.1, den, Instr.arrayAt, run_underlying hu, this]
   · cases h
 · cases h
theorem ok_range (hB : Base P p φ n (hget H) w fr a) {t : TypeId} {x : Operand} (ho : o.op = .range t x) (h : opRange P t x fr H n = some (v, H', n')) : Outc P p φ n (hget H) w ((execOp a.eval o).run P w) v n' (hget H') := by
 simp only [opRange] at h
 split at h
 · rename_i s hx hu
   simp only [newA] at h
   injection h with h; injection h with h1 h2; injection h2 with h2 h3; subst h1 h2 h3
   rw [hget_addM]
   refine .new hB.rel hB.lt hB.gn hB.sm rfl trivial 0 (o := .stringIter s 0) rfl (.inr ⟨Nat.le_refl _, Nat.lt_succ_self _⟩) ?_
   simp [execOp, ho, (hB.evO hx).1, Instr.range, run_underlying hu, den, (Vl.at_same φ n w.heap.size 0).1]
 · rename_i kt et hx hu
   simp only [newA] at h
   injection h with h; injection h with h1 h2; injection h2 with h2 h3; subst h1 h2 h3
   rw [hget_addM]
   refine .new hB.rel hB.lt hB.gn hB.sm rfl (fun r hr => by cases hr) 0 (o := .mapIter none 0 #[] 0) rfl (.inr ⟨Nat.le_refl _, Nat.lt_succ_self _⟩) ?_
   simp [execOp, ho, (hB.evO hx).1, Instr.range, run_underlying hu, den, (Vl.at_same φ n w.heap.size 0).1]
 · rename_i m kt et hx hu
   split at h
   · rename_i es clock hb
     have hblk := hB.rel.blk _ _ hb
     simp only [BRel] at hblk
     have hm := (hB.sm m _ hb).1
     have hmn := hB.lt m hm
     simp only [newA] at h
     injection h with h; injection h with h1 h2; injection h2 with h2 h3; subst h1 h2 h3
     rw [hget_addM]
     refine .new hB.rel hB.lt hB.gn hB.sm rfl (fun r hr => by injection hr with hr; subst hr; exact .inl hm) 0 (o := .mapIter (some (φ.loc m)) clock #[] clock) ?_ (.inr ⟨Nat.le_refl _, Nat.lt_succ_self _⟩) ?_
     · simp only [BRel, Option.map_some]
       rw [(Vl.at_other φ (by omega)).1]
     · simp [execOp, ho, (hB.evO hx).1, Instr.range, run_underlying hu, den, (Vl.at_same φ n w.heap.size 0).1, getObj, Sem.run, hblk]
   · cases h
 · cases h
theorem ok_entry (hB : Base P p φ n (hget H) w fr a) {it : Operand} (ho : o.op = .entry it) (h : opEntry P it fr H n = some (v, H', n')) : Outc P p φ n (hget H) w ((execOp a.eval o).run P w) v n' (hget H') := by
 simp only [opEntry] at h
 split at h
 · rename_i ad hx
   split at h
   · rename_i hoff
     split at h
     · rename_i m since seen last hb
       split at h
       · rename_i es clock k hm hk
         split at h
         · rename_i hc
           have hc := Nat.eq_of_beq_eq_true hc
           subst hc
           split at h
           · rename_i e he
             injection h with h; injection h with h1 h2; injection h2 with h2 h3; subst h1 h2 h3
             have hx' := hB.evO hx
             have hblk := hB.rel.blk _ _ hb
             have hmap := hB.rel.blk _ _ hm
             simp only [BRel, Option.map_some] at hblk hmap
             have hmem : e ∈ es := List.mem_of_find?_eq_some he
             have hsc := (hB.sm m _ hm).2 e hmem
             have hback : seen.toArray.back? = some k := by rw [List.back?_toArray, hk]
             have hfind : (es.map (denE φ)).find? (fun x => x.born == k) = some (denE φ e) := by
               rw [List.find?_map]
               have : (fun x : MapEntry => x.born == k) ∘ denE φ = fun x => Nat.beq x.born k := by
                 funext x; rw [Bool.eq_iff_iff]; simp [denE]
               rw [this]
               rw [bornA] at he
               rw [he]; rfl
             refine .same hB.rel hB.sm ⟨hsc.1, hsc.2, trivial⟩ ?_
             simp [execOp, ho, hx'.1, den, hoff, Instr.entry, getObj, Sem.run, hblk, hmap, hk, hfind, denL, denE]
           · cases h
         · cases h
       · cases h
     · cases h
   · cases h
 · cases h
theorem upd_heap {w : World} {k : Nat} {x : Obj} (h : k < w.heap.size) : ({ w with heap := w.heap.setIfInBounds k x } : World).heap[k]? = some x := by simp [h]
theorem upd_other {w : World} {k i : Nat} {x : Obj} (h : i ≠ k) : ({ w with heap := w.heap.setIfInBounds k x } : World).heap[i]? = w.heap[i]? := by
 simp [Array.getElem?_setIfInBounds_ne (Ne.symm h)]
theorem ok_next (hB : Base P p φ n (hget H) w fr a) {it : Operand} (ho : o.op = .next it true) (h : opNext P it fr H n = some (v, H', n')) : Outc P p φ n (hget H) w ((execOp a.eval o).run P w) v n' (hget H') := by
 simp only [opNext] at h
 split at h
 · rename_i ad hx
   split at h
   · rename_i hoff
     split at h
     · rename_i s pos hb
       have hx' := hB.evO hx
       have hblk := hB.rel.blk _ _ hb
       simp only [BRel] at hblk
       split at h
       · rename_i hpos
         injection h with h; injection h with h1 h2; injection h2 with h2 h3; subst h1 h2 h3
         rw [hget_hset_eq _ hb]
         refine ⟨(hB.sm.set hb (b := .iter s (pos + (Utf8.decode s pos).2)) trivial).mono fun _ h => .inl h, by simp [sc, scL], φ,
           ({ w with heap := w.heap.setIfInBounds (φ.loc ad.block) (.stringIter s (pos + (Utf8.decode s pos).2)) } : World), .inl ?_, Step.put hB.rel hb rfl rfl rfl rfl rfl ?_ (fun i hi => upd_other hi) ?_⟩
         · simp [execOp, ho, hx'.1, den, hoff, Instr.next, getObj, setObj, Sem.run, hblk, hpos, denL, goInt]
         · simp
         · rw [upd_heap (hB.rel.lt hb)]; rfl
       · rename_i hpos
         injection h with h; injection h with h1 h2; injection h2 with h2 h3; subst h1 h2 h3
         refine .same hB.rel hB.sm (by simp [sc, scL]) ?_
         simp [execOp, ho, hx'.1, den, hoff, Instr.next, getObj, Sem.run, hblk, hpos, denL]
     · cases h
   · cases h
 · cases h
end
section
variable {P : Program} {p : Nat → Prop} {φ : Vl} {n : Nat} {H : Heap} {w : World} {fr : Fr} {a : Act} {o : Oper} {v : Value} {H' : Heap} {n' : Nat}

theorem bytesA_ok : ∀ {cs : List Value} {bs : List UInt8}, bytesA cs = some bs → ∃ ns : List Int, cs = ns.map (Value.int .u8) ∧ bs = ns.map (fun n => UInt8.ofNat n.toNat)
 | [], bs, h => by simp [bytesA] at h; exact ⟨[], rfl, h⟩
 | c :: cs, bs, h => by
   unfold bytesA at h
   split at h
   · rename_i h0; cases h0
   · rename_i b vs h0
     injection h0 with h0 h1
     subst h0 h1
     cases hr : bytesA cs with
     | none => simp [hr] at h
     | some us =>
       simp only [hr, Option.map_some, Option.some.injEq] at h
       obtain ⟨ns, h1, h2⟩ := bytesA_ok hr
       exact ⟨b :: ns, by simp [h1], by rw [← h, h2]; simp⟩
   · cases h
theorem denL_ints (φ : Vl) (k : IntKind) (ns : List Int) : denL φ (ns.map (Value.int k)) = ns.map (Value.int k) := by
 rw [denL_eq, List.map_map]
 exact List.map_congr_left fun n _ => by simp [den]
theorem ok_convert (hB : Base P p φ n (hget H) w fr a) {s d : TypeId} {x : Operand} (ho : o.op = .convert s d x) (h : opConvert P s d x fr H n = some (v, H', n')) : Outc P p φ n (hget H) w ((execOp a.eval o).run P w) v n' (hget H') := by
 simp only [opConvert] at h
 split at h
 · rename_i u hu
   split at h
   · rename_i hau
     rw [afq_eq] at hau
     cases hr : runP P (convert s d u) with
     | none => simp [hr] at h
     | some r =>
       simp only [hr, Option.bind_some] at h
       split at h
       · rename_i har
         injection h with h; injection h with h1 h2; injection h2 with h2 h3; subst h1 h2 h3
         refine ok_pure hB hr har ?_
         have := hB.evO hu
         rw [den_af φ _ hau] at this
         simp [execOp, ho, this.1]
       · cases h
   · split at h
     · rename_i e ad len c hus hud hnaf
       split at h
       · rename_i hue
         have hx := hB.evO hu
         have key : ∀ cs, (if len = 0 then some [] else if flat ad = true then cellsA H ad.block ad.off len else none) = some cs → ∀ bs, bytesA cs = some bs →
             (execOp a.eval o).run P w = .ok (.value (.string ⟨bs.toArray⟩)) w := fun cs hcs bs hbs => by
           obtain ⟨ns, rfl, rfl⟩ := bytesA_ok hbs
           have hfin : ∀ (ad' : Addr) (c' : Nat), (loadCells ad' len).run P w = .ok (ns.map (Value.int .u8)).toArray w → a.eval x = .slice (some ad') len c' →
               (execOp a.eval o).run P w = .ok (.value (.string ⟨(ns.map fun n => UInt8.ofNat n.toNat).toArray⟩)) w := fun ad' c' hl he => by
             have := run_convert_bytes_string (P := P) w s d e (some ad') len c' hus hue hud
             rw [run_bytesToString w _ len c' ns hl, foldl_push_bytes] at this
             simp only [execOp, ho, he, Sem.run_bind, this, Result.andThen_ok]
             simp [ByteArray.empty, ByteArray.emptyWithCapacity]
             rfl
           by_cases h0 : len = 0
           · subst h0
             simp only [if_true, Option.some.injEq] at hcs
             have hns : ns = [] := by cases ns <;> simp at hcs ⊢
             subst hns
             obtain ⟨b, off, sp⟩ := ad
             cases sp with
             | none => exact hfin _ _ (by simp [loadCells, loadCellsFrom]) (by rw [hx.1]; simp [den]; exact ⟨rfl, rfl⟩)
             | some j => exact hfin _ _ (by simp [loadCells, loadCellsFrom]) (by rw [hx.1]; simp [den]; exact ⟨rfl, rfl⟩)
           · simp only [h0, if_false] at hcs
             split at hcs
             · rename_i hf
               obtain ⟨c', hc'⟩ := den_flat φ (l := len) (c := c) hf
               have := cellsA_ok (P := P) hB.rel hB.sm hcs
               rw [denL_ints] at this
               exact hfin _ c' this.1 (by rw [hx.1, hc'])
             · cases hcs
         cases hcs : (if len = 0 then some [] else if flat ad = true then cellsA H ad.block ad.off len else none : Option (List Value)) with
         | none => simp [hcs] at h
         | some cs =>
           cases hbs : bytesA cs with
           | none => simp [hcs, hbs] at h
           | some bs =>
             simp only [hcs, Option.bind_some, hbs, Option.map_some, Option.some.injEq, Prod.mk.injEq] at h
             obtain ⟨h1, h2, h3⟩ := h
             subst h1 h2 h3
             exact .same hB.rel hB.sm trivial (by rw [key cs hcs bs hbs]; simp [den])
       · cases h
     · cases h
 · cases h
theorem fill_den (φ : Vl) (place : Nat → Option (Nat × Nat)) : ∀ (ps : List (Nat × Value)) (cells cs : List Value), Instr.fill place cells.toArray ps = some cs.toArray →
   Instr.fill place (denL φ cells).toArray (ps.map (denP φ)) = some (denL φ cs).toArray ∧ (scL p cells → (∀ x ∈ ps, sc p x.2) → scL p cs)
 | [], cells, cs, h => by
   simp only [Instr.fill, Option.some.injEq] at h
   have : cells = cs := by simpa using congrArg Array.toList h
   subst this
   exact ⟨rfl, fun h _ => h⟩
 | (i, u) :: rest, cells, cs, h => by
   simp only [Instr.fill] at h
   cases hpl : place i with
   | none => simp [hpl] at h
   | some q =>
     obtain ⟨off, size⟩ := q
     simp only [hpl] at h
     split at h
     · cases h
     · rename_i hok
       have hfold : ∀ (us : List Value) (k : Nat) (cl : List Value), ((us.toArray.zipIdx k).foldl (fun cs (c, j) => cs.setIfInBounds (off + j) c) cl.toArray : Array Value) =
           ((us.zipIdx k).foldl (fun (cs : List Value) (c, j) => cs.set (off + j) c) cl).toArray := fun us k cl => by
         rw [← Array.foldl_toList]
         simp only [Array.toList_zipIdx]
         induction us generalizing k cl with
         | nil => simp
         | cons x us ih => simp only [List.zipIdx_cons, List.foldl_cons, List.setIfInBounds_toArray]; exact ih _ _
       have hden : ∀ (us : List Value) (k : Nat) (cl : List Value), denL φ ((us.zipIdx k).foldl (fun (cs : List Value) (c, j) => cs.set (off + j) c) cl) =
           ((denL φ us).zipIdx k).foldl (fun (cs : List Value) (c, j) => cs.set (off + j) c) (denL φ cl) := fun us k cl => by
         induction us generalizing k cl with
         | nil => simp [denL]
         | cons x us ih => simp only [List.zipIdx_cons, List.foldl_cons, denL]; rw [ih]; simp [denL_eq, List.map_set]
       have hsc : ∀ (us : List Value) (k : Nat) (cl : List Value), scL p cl → scL p us → scL p ((us.zipIdx k).foldl (fun (cs : List Value) (c, j) => cs.set (off + j) c) cl) := fun us k cl => by
         induction us generalizing k cl with
         | nil => intro h _; simpa using h
         | cons x us ih =>
           intro h1 h2
           simp only [List.zipIdx_cons, List.foldl_cons]
           refine ih _ _ ?_ h2.2
           rw [scL_iff] at h1 ⊢
           intro y hy
           rcases List.mem_or_eq_of_mem_set hy with hy | rfl
           · exact h1 y hy
           · exact h2.1
       have hcl : u.cells = u.cells.toList.toArray := by simp
       rw [hcl, hfold] at h
       obtain ⟨h1, h2⟩ := fill_den φ place rest _ cs h
       refine ⟨?_, fun h3 h4 => h2 (hsc _ _ _ h3 (sc_cells (h4 (i, u) (by simp)))) fun x hx => h4 x (by simp [hx])⟩
       simp only [List.map_cons, denP, Instr.fill, hpl]
       have hsz : (den φ u).cells.size = u.cells.size := by rw [cells_den]; simp
       rw [hsz]
       simp only [List.size_toArray, denL_length] at hok ⊢
       rw [if_neg hok, cells_den, hfold, ← hden]
       exact h1
theorem fill_ok (place : Nat → Option (Nat × Nat)) {ps : List (Nat × Value)} {cells cs : Array Value} (h : Instr.fill place cells ps = some cs) (haf : afL cells.toList = true) (hs : ∀ x ∈ ps, sc p x.2) :
   Instr.fill place cells (ps.map (denP φ)) = some (denL φ cs.toList).toArray ∧ scL p cs.toList := by
 have := fill_den (p := p) φ place ps cells.toList cs.toList (by simpa using h)
 rw [denL_af φ _ haf] at this
 exact ⟨by simpa using this.1, this.2 (scL_af p _ haf) hs⟩
theorem ok_build (hB : Base P p φ n (hget H) w fr a) {t : TypeId} {ps : Array (Nat × Operand)} (ho : o.op = .build t ps) (h : opBuild P t ps fr H n = some (v, H', n')) : Outc P p φ n (hget H) w ((execOp a.eval o).run P w) v n' (hget H') := by
 simp only [opBuild] at h
 split at h
 · rename_i vs z hvs hz
   obtain ⟨hv1, hv2⟩ := evPs_ok hB.rel hB.gl hB.ar hB.sf hvs
   have hps : (ps.map fun (i, x) => (i, a.eval x)).toList = vs.map (denP φ) := by rw [Array.toList_map, hv1]
   split at h
   · rename_i haf
     split at h
     · rename_i fields hu
       split at h
       · rename_i places hpl
         cases hf : Instr.fill (places[·]?) z.cells vs with
         | none => simp [hf] at h
         | some cs =>
           simp only [hf, Option.map_some, Option.some.injEq, Prod.mk.injEq] at h
           obtain ⟨h1, h2, h3⟩ := h
           subst h1 h2 h3
           obtain ⟨h1, h2⟩ := fill_ok (φ := φ) _ hf haf hv2
           refine .same hB.rel hB.sm h2 ?_
           have hrun := runP_ok (P := P) w hpl
           simp only [execOp, ho, Instr.build, Sem.run_bind, run_zero' hz, Result.andThen_ok, run_underlying hu, hrun, hps, h1, Sem.run_pure, den]
       · cases h
     · rename_i len elem hu
       split at h
       · rename_i sz hsz
         cases hf : Instr.fill (fun i => some (i * sz, sz)) z.cells vs with
         | none => simp [hf] at h
         | some cs =>
           simp only [hf, Option.map_some, Option.some.injEq, Prod.mk.injEq] at h
           obtain ⟨h1, h2, h3⟩ := h
           subst h1 h2 h3
           obtain ⟨h1, h2⟩ := fill_ok (φ := φ) _ hf haf hv2
           refine .same hB.rel hB.sm h2 ?_
           simp only [execOp, ho, Instr.build, Sem.run_bind, run_zero' hz, Result.andThen_ok, run_underlying hu, run_size' hsz, hps, h1, Sem.run_pure, den]
       · cases h
     · cases h
   · cases h
 · cases h
end
section
variable {P : Program} {p : Nat → Prop} {φ : Vl} {n : Nat} {H : Heap} {w : World} {fr : Fr} {a : Act} {o : Oper} {v : Value} {H' : Heap} {n' : Nat}

theorem afL_range {zs : Array Value} (h : afL zs.toList = true) (m : Nat) : afL ((Array.range m).map (zs[· % zs.size]!)).toList = true := by
 have hmem : ∀ v ∈ zs.toList, af v = true := by
   generalize zs.toList = l at h
   induction l with
   | nil => simp
   | cons x xs ih =>
     simp only [afL, Bool.and_eq_true] at h
     intro v hv
     rcases List.mem_cons.1 hv with rfl | hv
     · exact h.1
     · exact ih h.2 v hv
 have hof : ∀ l : List Value, (∀ v ∈ l, af v = true) → afL l = true := by
   intro l
   induction l with
   | nil => simp [afL]
   | cons x xs ih => intro h; simp only [afL, Bool.and_eq_true]; exact ⟨h x (by simp), ih fun v hv => h v (by simp [hv])⟩
 refine hof _ fun v hv => ?_
 simp only [Array.toList_map, List.mem_map] at hv
 obtain ⟨i, _, rfl⟩ := hv
 by_cases hi : i % zs.size < zs.size
 · rw [getElem!_pos zs _ hi]
   exact hmem _ (by simp)
 · rw [getElem!_neg zs _ hi]; rfl
theorem ok_buildSlice (hB : Base P p φ n (hget H) w fr a) {t : TypeId} {len : Nat} {ps : Array (Nat × Operand)} (ho : o.op = .buildSlice t len ps) (h : opBuildslice P t len ps fr H n = some (v, H', n')) : Outc P p φ n (hget H) w ((execOp a.eval o).run P w) v n' (hget H') := by
 simp only [opBuildslice] at h
 split at h
 · rename_i vs elem hvs hu
   obtain ⟨hv1, hv2⟩ := evPs_ok hB.rel hB.gl hB.ar hB.sf hvs
   have hps : (ps.map fun (i, x) => (i, a.eval x)).toList = vs.map (denP φ) := by rw [Array.toList_map, hv1]
   split at h
   · rename_i i hi
     split at h
     · rename_i z hz
       split at h
       · rename_i hc
         simp only [Bool.and_eq_true, decide_eq_true_eq] at hc
         split at h
         · rename_i cs hf
           simp only [newA] at h
           injection h with h; injection h with h1 h2; injection h2 with h2 h3; subst h1 h2 h3
           have haf : afL ((Array.range (len * i.size)).map ((if len * i.size = 0 then #[] else z.cells)[· % (if len * i.size = 0 then #[] else z.cells).size]!)).toList = true := by
             split
             · exact afL_range (zs := #[]) rfl _
             · exact afL_range hc.1 _
           obtain ⟨h1, h2⟩ := fill_ok (φ := φ) _ hf haf hv2
           rw [hget_addM]
           refine .new hB.rel hB.lt hB.gn hB.sm rfl (scL_mono (fun _ h => .inl h) _ h2) 0 (o := .cells (denL φ cs.toList).toArray elem (0, 0)) ?_ (.inr ⟨Nat.le_refl _, Nat.lt_succ_self _⟩) ?_
           · simp only [BRel]; rw [denL_congr (agr_at hB.lt) _ h2]
           · have hnot : ¬ (16777216 < len * i.size) := by have := hc.2; simp at this; omega
             have hzr : (zeroValue elem).run P w = .ok z w := run_zero' (by rw [zeroA_of hi, hz]) w
             have key : (Instr.buildSlice t len (ps.map fun (i, x) => (i, a.eval x))).run P w = .ok (.slice (some ⟨w.heap.size, 0, none⟩) len len) (w.alloc (.cells (denL φ cs.toList).toArray elem (0, 0))) := by
               have hnot' : ¬ (len * i.size > 2 ^ 24) := by simpa using hc.2
               by_cases h0 : len * i.size = 0
               · rw [if_pos h0] at h1
                 simp only [Instr.buildSlice, Sem.run_bind, run_underlying hu, Result.andThen_ok, run_size' (szA_of hi), hnot', if_false, Sem.run_pure, if_pos h0, hps, h1]
                 rfl
               · rw [if_neg h0] at h1
                 simp only [Instr.buildSlice, Sem.run_bind, run_underlying hu, Result.andThen_ok, run_size' (szA_of hi), hnot', if_false, Sem.run_pure, if_neg h0, hzr, hps, h1]
                 rfl
             simp only [execOp, ho, Sem.run_bind, key, Result.andThen_ok, Sem.run_pure, den, (Vl.at_same φ n w.heap.size 0).1]
         · cases h
       · cases h
     · cases h
   · cases h
 · cases h
theorem wrap_small {x : Int} (h0 : 0 ≤ x) (h1 : x ≤ 1099511627776) : IntKind.i64.wrap x = x := IntWalk.i64_in x (by omega)
theorem ok_makeSlice (hB : Base P p φ n (hget H) w fr a) {t : TypeId} {l c : Operand} (ho : o.op = .makeSlice t l c) (h : opMakeslice P t l c fr H n = some (v, H', n')) : Outc P p φ n (hget H) w ((execOp a.eval o).run P w) v n' (hget H') := by
 simp only [opMakeslice] at h
 split at h
 · rename_i k1 x k2 y elem hx hy hu
   split at h
   · rename_i i hi
     split at h
     · rename_i z hz
       split at h
       · rename_i hc
         simp only [Bool.and_eq_true, decide_eq_true_eq, smallA] at hc
         obtain ⟨h0, hle, ⟨hb1, hb2⟩, haf⟩ := hc
         simp only [newA] at h
         injection h with h; injection h with h1 h2; injection h2 with h2 h3; subst h1 h2 h3
         rw [hget_addM]
         have haf' : afL ((Array.range (y.toNat * i.size)).map ((if y.toNat * i.size = 0 then #[] else z.cells)[· % (if y.toNat * i.size = 0 then #[] else z.cells).size]!)).toList = true := by
           split
           · exact afL_range (zs := #[]) rfl _
           · exact afL_range haf _
         refine .new hB.rel hB.lt hB.gn hB.sm rfl (scL_af _ _ haf') 0 (o := .cells ((Array.range (y.toNat * i.size)).map ((if y.toNat * i.size = 0 then #[] else z.cells)[· % (if y.toNat * i.size = 0 then #[] else z.cells).size]!)) elem (0, 0)) ?_ (.inr ⟨Nat.le_refl _, Nat.lt_succ_self _⟩) ?_
         · simp only [BRel]; rw [denL_af _ _ haf']
         · have hy0 : 0 ≤ y := by omega
           have hyb : y ≤ 1099511627776 := by simp at hb2; omega
           have ex := wrap_small h0 (by omega)
           have ey := wrap_small hy0 hyb
           have hzr : (zeroValue elem).run P w = .ok z w := run_zero' (by rw [zeroA_of hi, hz]) w
           have hny : ¬ y < 0 := by omega
           have hnx : ¬ x < 0 := by omega
           have hnxy : ¬ y < x := by omega
           have hbig : ¬ (281474976710656 < (i.bytes : Int) * y) := by
             have : (i.bytes : Int) * y = ((y.toNat * i.bytes : Nat) : Int) := by
               rw [Int.natCast_mul, Int.toNat_of_nonneg hy0, Int.mul_comm]
             rw [this]
             simp at hb1
             omega
           have key : (Instr.makeSlice t (.int k1 x) (.int k2 y)).run P w = .ok (.slice (some ⟨w.heap.size, 0, none⟩) x.toNat y.toNat) (w.alloc (.cells ((Array.range (y.toNat * i.size)).map ((if y.toNat * i.size = 0 then #[] else z.cells)[· % (if y.toNat * i.size = 0 then #[] else z.cells).size]!)) elem (0, 0))) := by
             by_cases hs : y.toNat * i.size = 0
             · simp only [Instr.makeSlice, Sem.run_bind, run_underlying hu, Result.andThen_ok, asInt, asIntOf, Sem.run_pure, run_info hi, ex, ey, hny, hnx, hnxy, if_pos hs]
               simp [hbig, newRow, run_size' (szA_of hi), hs]
             · simp only [Instr.makeSlice, Sem.run_bind, run_underlying hu, Result.andThen_ok, asInt, asIntOf, Sem.run_pure, run_info hi, ex, ey, hny, hnx, hnxy, if_neg hs]
               simp [hbig, hzr, newRow, run_size' (szA_of hi), hs]
           simp only [execOp, ho, (hB.evO hx).1, (hB.evO hy).1, den, Sem.run_bind, key, Result.andThen_ok, Sem.run_pure, (Vl.at_same φ n w.heap.size 0).1]
       · cases h
     · cases h
   · cases h
 · cases h
theorem sameNow_den (φ : Vl) {d : TypeDesc} {k u : Value} {b : Bool} (h : Instr.sameNow d k u = some b) : Instr.sameNow d (den φ k) (den φ u) = some b := by
 unfold Instr.sameNow at h
 split at h
 · simpa [den, Instr.sameNow] using h
 · simpa [den, Instr.sameNow] using h
 · simpa [den, Instr.sameNow] using h
 · cases h
theorem findNow_den (φ : Vl) {d : TypeDesc} {k : Value} : ∀ {es : List MapEntry} {i : Nat} {r : Option (Nat × Value)}, Instr.findNow d k es i = some r →
   Instr.findNow d (den φ k) (es.map (denE φ)) i = some (r.map fun (j, u) => (j, den φ u)) ∧ (∀ j u, r = some (j, u) → i ≤ j ∧ ∃ e, es[j - i]? = some e ∧ e.val = u ∧ Instr.sameNow d k e.key = some true)
 | [], i, r, h => by simp [Instr.findNow] at h; subst h; exact ⟨rfl, by simp⟩
 | e :: es, i, r, h => by
   simp only [Instr.findNow] at h
   cases hs : Instr.sameNow d k e.key with
   | none => simp [hs] at h
   | some b =>
     have hs' := sameNow_den φ hs
     cases b with
     | true =>
       simp only [hs, Option.some.injEq] at h
       subst h
       refine ⟨by simp [Instr.findNow, denE, hs'], fun j u hj => ?_⟩
       simp only [Option.some.injEq, Prod.mk.injEq] at hj
       obtain ⟨rfl, rfl⟩ := hj
       exact ⟨Nat.le_refl _, e, by simp, rfl, hs⟩
     | false =>
       simp only [hs] at h
       obtain ⟨h1, h2⟩ := findNow_den φ h
       refine ⟨by simp [Instr.findNow, denE, hs', h1], fun j u hj => ?_⟩
       obtain ⟨h3, e', h4, h5⟩ := h2 j u hj
       refine ⟨by omega, e', ?_, h5⟩
       rw [show j - i = (j - (i + 1)) + 1 by omega]
       simpa using h4
theorem findA_ok (φ : Vl) {kt : TypeId} {k : Value} {es : List MapEntry} {r : Option (Nat × Value)} (h : findA P kt k es = some r) (w : World) :
   (Instr.findKey kt (den φ k) (es.map (denE φ))).run P w = .ok (r.map fun (j, u) => (j, den φ u)) w ∧ (∀ j u, r = some (j, u) → ∃ e d, es[j]? = some e ∧ e.val = u ∧ Instr.sameNow d k e.key = some true) := by
 unfold findA at h
 split at h
 · rename_i d hd
   obtain ⟨h1, h2⟩ := findNow_den φ h
   refine ⟨by simp [Instr.findKey, run_underlying hd, h1], fun j u hj => ?_⟩
   obtain ⟨_, e, h4, h5⟩ := h2 j u hj
   exact ⟨e, d, by simpa using h4, h5⟩
 · cases h
theorem checkKey_ok {kt : TypeId} (h : keyTypeA P kt = true) (b : Bool) (m : Nat) (k : Value) (w : World) : (Instr.checkKey b (m + 1) kt k).run P w = .ok () w := by
 unfold keyTypeA at h
 split at h
 · rename_i k1 hd
   simp only [Instr.checkKey, Sem.run_bind, run_underlying hd, Result.andThen_ok]
   cases k <;> rfl
 · rename_i hd
   simp only [Instr.checkKey, Sem.run_bind, run_underlying hd, Result.andThen_ok]
   cases k <;> rfl
 · cases h
theorem checkKey_ok' {kt : TypeId} (h : keyTypeA P kt = true) (b : Bool) (k : Value) (w : World) : (Instr.checkKey b 10000 kt k).run P w = .ok () w := checkKey_ok h b 9999 k w
theorem run_getObj_map {r : Nat} {es : Array MapEntry} {c : Nat} (h : w.heap[r]? = some (.map es c)) : (getObj r).run P w = .ok (.map es c) w := by simp [getObj, Sem.run, h]
theorem ok_lookup (hB : Base P p φ n (hget H) w fr a) {t : TypeId} {x k : Operand} {ok : Bool} (ho : o.op = .lookup t x k ok) (h : opLookup P t x k ok fr H n = some (v, H', n')) : Outc P p φ n (hget H) w ((execOp a.eval o).run P w) v n' (hget H') := by
 simp only [opLookup] at h
 split at h
 · rename_i r kv kt et hx hk hu
   split at h
   · rename_i hkt
     have hx' := hB.evO hx
     have hk' := hB.evO hk
     have hfin : ∀ (es : List MapEntry), (∀ e ∈ es, sc p e.val) →
         (∀ (q : Option (Nat × Value)), (Instr.findKey kt (den φ kv) (es.map (denE φ))).run P w = .ok q w →
           (Instr.lookup t (den φ (.map r)) (den φ kv) ok).run P w = ((do
             let (v, ok') ← match q with
               | some (_, v) => pure (v, true)
               | none => pure (← zeroValue et, false)
             pure (if ok then .tuple #[v, .bool ok'] else v) : Sem Value)).run P w) →
         (match findA P kt kv es, zeroA P et with
           | some (some (_, v)), _ => some (if ok then .tuple #[v, .bool true] else v, H, n)
           | some none, some z => if af z then some (if ok then .tuple #[z, .bool false] else z, H, n) else none
           | _, _ => none) = some (v, H', n') → Outc P p φ n (hget H) w ((execOp a.eval o).run P w) v n' (hget H') := by
       intro es hsc hrun h
       split at h
       · rename_i j u hf
         injection h with h; injection h with h1 h2; injection h2 with h2 h3; subst h1 h2 h3
         obtain ⟨f1, f2⟩ := findA_ok (P := P) φ hf w
         obtain ⟨e, _, he, hev, _⟩ := f2 j u rfl
         have hu' : sc p u := hev ▸ hsc e (List.mem_of_getElem? he)
         refine .same hB.rel hB.sm (by cases ok <;> simp [sc, scL, hu']) ?_
         simp only [execOp, ho, hx'.1, hk'.1, Sem.run_bind, hrun _ f1]
         cases ok <;> simp [den, denL]
       · rename_i z hf hz
         split at h
         · rename_i haf
           injection h with h; injection h with h1 h2; injection h2 with h2 h3; subst h1 h2 h3
           obtain ⟨f1, _⟩ := findA_ok (P := P) φ hf w
           refine .same hB.rel hB.sm (by cases ok <;> simp [sc, scL, sc_af p _ haf]) ?_
           simp only [execOp, ho, hx'.1, hk'.1, Sem.run_bind, hrun _ f1]
           cases ok <;> simp [den, denL, den_af φ _ haf, run_zero' hz]
         · cases h
       · cases h
     cases r with
     | none =>
       simp only at h
       refine hfin [] (by simp) (fun q hq => ?_) h
       simp only [List.map_nil] at hq
       simp only [Instr.lookup, Sem.run_bind, run_underlying hu, Result.andThen_ok, den, Sem.run_pure, checkKey_ok' hkt, hq]
       cases q <;> simp
     | some r =>
       simp only at h
       split at h
       · rename_i es hes
         split at hes
         · rename_i es' clock hb
           injection hes with hes; subst hes
           have h1 := hB.rel.blk _ _ hb
           simp only [BRel] at h1
           refine hfin es' (fun e he => ((hB.sm _ _ hb).2 e he).2) (fun q hq => ?_) h
           simp only [Instr.lookup, Sem.run_bind, run_underlying hu, Result.andThen_ok, den, run_getObj_map h1, Sem.run_pure, checkKey_ok' hkt, hq]
           cases q <;> simp
         · cases hes
       · cases h
   · cases h
 · cases h
theorem sameBits_of_sameNow {d : TypeDesc} {k u : Value} (h : Instr.sameNow d k u = some true) (m : Nat) : Instr.sameBits m u k = true := by
 unfold Instr.sameNow at h
 split at h
 · rename_i k1 x k2 y
   split at h
   · rename_i hk
     subst hk
     simp at h; subst h
     cases m <;> simp [Instr.sameBits]
   · cases h
 · rename_i x y
   simp only [Option.some.injEq] at h
   have h' : x = y := by cases x; cases y; exact congrArg ByteArray.mk (eq_of_beq h)
   subst h'
   have h2 : (x == x) = true := by cases x with | mk d => exact beq_self_eq_true d
   cases m <;> simp [Instr.sameBits, h2]
 · rename_i x y
   simp at h; subst h
   cases m <;> simp [Instr.sameBits]
 · cases h
theorem modify_den (φ : Vl) (es : List MapEntry) (i : Nat) (k u : Value) :
   ((es.map (denE φ)).toArray.modify i fun e => { e with key := den φ k, val := den φ u }) = ((es.modify i fun e => { e with key := k, val := u }).map (denE φ)).toArray := by
 rw [List.modify_toArray]
 congr 1
 apply List.ext_getElem?
 intro j
 rw [List.getElem?_modify, List.getElem?_map, List.getElem?_map, List.getElem?_modify]
 cases es[j]? with
 | none => simp
 | some e => by_cases hij : i = j <;> simp [hij, denE]
theorem mem_modify {es : List MapEntry} {i : Nat} {k u : Value} {e' : MapEntry} (hk : sc p k) (hu : sc p u) (hs : ∀ e ∈ es, sc p e.key ∧ sc p e.val) (h : e' ∈ es.modify i fun e => { e with key := k, val := u }) : sc p e'.key ∧ sc p e'.val := by
 obtain ⟨j, hj⟩ := List.getElem?_of_mem h
 rw [List.getElem?_modify] at hj
 cases he : es[j]? with
 | none => simp [he] at hj
 | some e =>
   by_cases hij : i = j
   · simp [he, hij] at hj; subst hj; exact ⟨hk, hu⟩
   · simp [he, hij] at hj; subst hj; exact hs e (List.mem_of_getElem? he)
theorem ok_mapUpdate (hB : Base P p φ n (hget H) w fr a) {t : TypeId} {m k x : Operand} (ho : o.op = .mapUpdate t m k x ∨ o.op = .insert t m k x) (h : opMapupdate P t m k x fr H n = some (v, H', n')) : Outc P p φ n (hget H) w ((execOp a.eval o).run P w) v n' (hget H') := by
 simp only [opMapupdate] at h
 split at h
 · rename_i r kv u kt et hm hk hx hu
   split at h
   · rename_i hkt
     split at h
     · rename_i es clock hb
       have hm' := hB.evO hm
       have hk' := hB.evO hk
       have hx' := hB.evO hx
       have h1 := hB.rel.blk _ _ hb
       simp only [BRel] at h1
       have hlt := hB.rel.lt hb
       have hscb := (hB.sm _ _ hb).2
       have hexec : ∀ s, (Instr.mapUpdate t (den φ (.map (some r))) (den φ kv) (den φ u)).run P w = .ok () s → (execOp a.eval o).run P w = .ok .skip s := fun s hs => by
         rcases ho with ho | ho <;> simp only [execOp, ho, hm'.1, hk'.1, hx'.1, Sem.run_bind, hs, Result.andThen_ok, Sem.run_pure]
       have hset : ∀ (es2 : List MapEntry) (c2 : Nat), (∀ e ∈ es2, sc p e.key ∧ sc p e.val) →
           (Instr.mapUpdate t (den φ (.map (some r))) (den φ kv) (den φ u)).run P w = (setObj (φ.loc r) (.map (es2.map (denE φ)).toArray c2)).run P w →
           Outc P p φ n (hget H) w ((execOp a.eval o).run P w) undefV n (hget (hset H r (.map es2 c2))) := fun es2 c2 hsc2 hrun => by
         have hrun' : (setObj (φ.loc r) (.map (es2.map (denE φ)).toArray c2)).run P w = .ok () ({ w with heap := w.heap.setIfInBounds (φ.loc r) (.map (es2.map (denE φ)).toArray c2) } : World) := by
           simp [setObj, Sem.run, h1]
         rw [hget_hset_eq _ hb]
         refine ⟨(hB.sm.set hb (b := .map es2 c2) hsc2).mono fun _ h => .inl h, by simp [undefV, sc, scL], φ, _, .inr ⟨hexec _ (hrun.trans hrun'), rfl⟩, Step.put hB.rel hb rfl rfl rfl rfl rfl (by simp) (fun i hi => upd_other hi) ?_⟩
         rw [upd_heap hlt]; rfl
       split at h
       · rename_i i u0 hf
         injection h with h; injection h with h1' h2; injection h2 with h2 h3; subst h1' h2 h3
         obtain ⟨f1, f2⟩ := findA_ok (P := P) φ hf w
         obtain ⟨e, d, he, _, hsn⟩ := f2 i u0 rfl
         have hsd : Instr.sameBits 10000 (den φ e.key) (den φ kv) = true := sameBits_of_sameNow (sameNow_den φ hsn) 10000
         refine hset _ _ (fun e' he' => ?_) ?_
         · exact mem_modify hk'.2 hx'.2 hscb he'
         · simp only [Instr.mapUpdate, Sem.run_bind, run_underlying hu, Result.andThen_ok, den, run_getObj_map h1, checkKey_ok' hkt, f1, Option.map_some]
           have hg : (((es.map (denE φ)).toArray[i]?).map (·.key)).getD (den φ kv) = den φ e.key := by simp [he, denE]
           rw [hg]
           simp only [Instr.keyThatStays, hsd, if_true, Sem.run_pure, Result.andThen_ok]
           rw [← modify_den]
       · rename_i hf
         injection h with h; injection h with h1' h2; injection h2 with h2 h3; subst h1' h2 h3
         obtain ⟨f1, _⟩ := findA_ok (P := P) φ hf w
         refine hset _ _ (fun e' he' => ?_) ?_
         · rcases List.mem_append.1 he' with he' | he'
           · exact hscb e' he'
           · simp only [List.mem_singleton] at he'; subst he'; exact ⟨hk'.2, hx'.2⟩
         · simp only [Instr.mapUpdate, Sem.run_bind, run_underlying hu, Result.andThen_ok, den, run_getObj_map h1, checkKey_ok' hkt, f1, Option.map_none]
           simp [denE]
       · cases h
     · cases h
   · cases h
 · cases h
end
end Go.Ab
