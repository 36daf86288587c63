/-
Calls, rounds, regions in text order, bodies and ranges over functions: the evaluator is sound but for regions whose order is open.
-/
import Derived.Test.YtdmepnhmcppkkaaGreatDoorAc
namespace Go.Ab
open Go
section
variable {P : Program} {p : Nat → Prop} {φ : Vl} {w : World} {a : Act} {o : Oper} {v : Value} {H' : Heap} {n' : Nat} {r : Rec} {m : Nat} {st : St}
theorem depth_fence {ψ : Vl} {ro : Option Nat} : (fence ψ ro).depth.isSome = true → 1 ≤ 0 := by rw [fence_depth]; intro h; cases h
theorem den_fn (φ : Vl) (g : FuncId) (x y : Array Value) : den φ (.func (.func g) x y) = .func (.func g) (denL φ x.toList).toArray (denL φ y.toList).toArray := by simp [den]
theorem den_yield (φ : Vl) (l : Nat) (x y : Array Value) : den φ (.func (.yield l) x y) = .func (.yield (φ.loc l)) (denL φ x.toList).toArray (denL φ y.toList).toArray := by simp [den]
theorem map_eval {xs : Array Operand} {vs : List Value} (h : xs.toList.map a.eval = denL φ vs) : xs.map a.eval = (denL φ vs).toArray := by
 rw [← h, ← Array.toList_map]
theorem callFn_ok (hr : RecOk P r m) (hB : Base P p φ st.n (hget st.H) w st.fr a) {c : Call} {f : Operand} {args : Array Operand} (ho : o.op = .call c) (hc : c.callee = .value f) (ha : c.args = args)
   {g : FuncId} {vs : List Value} (ht : target P st.fr f args = some (.fn g vs)) (h : r.call g vs st.H st.n = some (v, H', n')) (ψ : Vl) (ro : Option Nat) {next : Act → World → Prop} {Q : Exit → Act → World → Prop}
   (hn : ∀ φ' w', Dn P p φ st.n (hget st.H) w v n' (hget H') φ' w' → next (a.put o.dst (den φ' v)) w') : o.wpIn (fence ψ ro) 0 P a w next Q := by
 refine ⟨fun f _ => fence_fn _ _ f, ?_⟩
 rw [Oper.semAt_eq _ _ _ (by simp [ho])]
 subst ha
 unfold target at ht
 split at ht
 · rename_i g' first captured as hf has
   injection ht with ht
   injection ht with h1 h2
   subst h1 h2
   have e1 := hB.evO hf
   have e2 := evOs_ok hB.rel hB.gl hB.ar hB.sf has
   obtain ⟨hsf, hsc⟩ := e1.2
   rw [run_vcall ho hc (e1.1.trans (den_fn φ g' first captured))]
   have harr : ((denL φ first.toList).toArray ++ c.args.map a.eval) ++ (denL φ captured.toList).toArray = (denL φ (first.toList ++ as ++ captured.toList)).toArray := by
     rw [map_eval e2.1, denL_append, denL_append]
     simp
   have hinv : ∀ w, (invoke (.fn (.func g') (denL φ captured.toList).toArray) ((denL φ first.toList).toArray ++ c.args.map a.eval)).run P w = (callFunc g' (denL φ (first.toList ++ as ++ captured.toList)).toArray).run P w := fun w => by
     rw [← harr]; rfl
   rw [hinv]
   have hsc' : scL p (first.toList ++ as ++ captured.toList) := by
     rw [scL_iff] at *
     intro u hu
     rcases List.mem_append.1 hu with hu | hu
     · rcases List.mem_append.1 hu with hu | hu
       · exact hsf u hu
       · exact e2.2 u hu
     · exact hsc u hu
   rcases hr.call _ _ _ _ _ _ _ h p φ w hB.bare hsc' with ⟨hrun, hcall⟩ | ⟨φ', w', hrun, hd⟩
   · rw [hrun, Oper.uponIn_enter]
     refine ⟨depth_fence, CallsIn.mono (callsIn_fence hcall) fun e w' hh => ?_⟩
     obtain ⟨φ', he, hd⟩ := hh
     subst he
     exact hn φ' w' hd
   · rw [hrun, Oper.uponIn_value]
     exact hn φ' w' hd
 · cases ht
 · cases ht
end
theorem roundPost_of {P : Program} {l : Nat} {R : Ending → World → Prop} {e : Ex} {a : Act} {w : World} (h : ∃ v w', (Instr.endRound l (Code.ex e)).run P w = .ok v w' ∧ R (.returned v) w') : roundPost P l R e.to a w := by
 cases e <;> exact h
theorem Step.loop {P : Program} {φ : Vl} {n : Nat} {H : Heap} {w : World} (h : HRel P φ (hget H) w) {l : Nat} {s s' : LoopState} {pe pe' : Option Code} {fr : List (Nat × Value)} {sz : Nat} {vs vs' : List Nat} {ps : Array Tmp} {x y : Code} {d : Nat}
   (hl : hget H l = some (.loop s pe fr sz vs ps x y d)) {r' : Loop} (hr' : ∃ fn tmps, r' = { state := s', pending := pe', fn, tmps, params := ps, assign := x, body := y, defers := φ.loc d } ∧ FRel φ fr sz tmps) {i : Nat} (hi : i = φ.loc l) :
   Step P φ n (hget H) w φ n (hget (hset H l (.loop s' pe' fr sz vs' ps x y d))) (w.putObj i (.loop r')) := by
 subst hi
 rw [hget_hset_eq _ hl]
 obtain ⟨fn, tmps, hr', hf⟩ := hr'
 exact Step.put h hl rfl rfl rfl rfl rfl (by simp) (fun i hi => World.putObj_heap_other hi) ⟨fn, tmps, by rw [World.putObj_heap_same (h.lt hl), hr'], hf⟩
section
variable {P : Program} {p : Nat → Prop} {φ : Vl} {w : World} {a : Act} {o : Oper} {v : Value} {H' : Heap} {n' : Nat} {r : Rec} {m : Nat} {st : St}
theorem round_ok (hr : RecOk P r m) (hB : Base P p φ st.n (hget st.H) w st.fr a) {l : Nat} {vs : List Value} (hvs : scL p vs) (h : yieldF r l vs st.H st.n = some (v, H', n')) {R : Ending → World → Prop}
   (hn : ∀ φ' w', Dn P p φ st.n (hget st.H) w v n' (hget H') φ' w' → R (.returned (den φ' v)) w') :
   ∃ f tmps x y, (Instr.yield (φ.loc l) (denL φ vs).toArray).run P w = .ok (.round (φ.loc l) f tmps x y) w ∧ RoundIn Fence.wide 0 P (φ.loc l) f tmps x y w R := by
 unfold yieldF at h
 split at h
 · rename_i s0 pe0 fr sz vs0 ps x y d hl
   split at h
   · cases h
   · rename_i hc
     rw [Bool.and_eq_true] at hc
     have hlen := Nat.eq_of_beq_eq_true hc.1
     split at h
     · rename_i s1 h1
       split at h
       · rename_i pe1 fr1 sz1 vs1 ps1 x1 y1 d1 hl1
         split at h
         · rename_i e s2 h2
           split at h
           · rename_i st2 pe2 fr2 sz2 vs2 ps2 x2 y2 d2 hl2
             injection h with h; injection h with e1 e2; injection e2 with e2 e3; subst e1 e2 e3
             obtain ⟨fn, tmps, hheap, hfrel⟩ := hB.rel.blk l _ hl
             obtain ⟨hpl, hpd, hsfr⟩ := hB.sm l _ hl
             refine ⟨_, _, _, _, run_yield hheap (by simpa using hlen), roundIn_of_wpIn trivial ?_⟩
             have hz : ∀ q ∈ ps.toList.zip vs, q.1 < sz ∧ sc p q.2 := fun q hq => by
               obtain ⟨hq1, hq2⟩ := List.of_mem_zip (a := q.1) (b := q.2) hq
               exact ⟨(blt_iff _ _).1 (List.all_eq_true.1 hc.2 _ hq1), (scL_iff p _).1 hvs _ hq2⟩
             have hfold := fr_fold (φ := φ) (sz := sz) (ps.toList.zip vs) fr tmps hfrel fun q hq => (hz q hq).1
             rw [← zip_den] at hfold
             have hS1 : SRel P p φ { fr := (ps.toList.zip vs).foldl (fun fr (t, v) => (t, v) :: fr) fr, sz, H := st.H, n := st.n, marks := [], vs := vs0 }
                 { tmps := (ps.zip (denL φ vs).toArray).foldl (fun tmps (t, a) => tmps.setIfInBounds t a) tmps, defers := [] } w :=
               ⟨⟨hB.rel, hB.lt, hB.gl, hB.gn, hB.sm, hfold.2, sf_fold _ _ hsfr fun q hq => (hz q hq).2⟩, hfold.1, rfl, by simp⟩
             have hA := hr.code _ _ _ _ _ h1 p φ _ w hS1 (by intro l' hl'; injection hl' with hl'; subst hl'; exact hpl)
             refine wpIn_mono hA fun e2 a1 w1 hh => ?_
             obtain ⟨he, φ1, hs1, hst1⟩ := hh
             subst he
             have hloc : φ1.loc l = φ.loc l := (hst1.only l (.inl (hB.lt l hpl))).1
             obtain ⟨fn1, tmps1, hheap1, hfrel1⟩ := hs1.base.rel.blk l _ hl1
             refine ⟨_, run_beginRound (hloc ▸ hheap1) rfl, ?_⟩
             have hput := Step.loop (n := s1.n) (s' := .busy) (pe' := pe1) (vs' := vs1) hs1.base.rel hl1 ⟨fn1, tmps1, rfl, hfrel1⟩ hloc.symm
             have hsm1 := hs1.base.sm.set hl1 (b := .loop .busy pe1 fr1 sz1 vs1 ps1 x1 y1 d1) (hs1.base.sm l _ hl1).2
             rw [← hget_hset_eq _ hl1] at hsm1
             have hS2 : SRel P (Nx p st.n s1.n) φ1 { s1 with H := hset s1.H l (.loop .busy pe1 fr1 sz1 vs1 ps1 x1 y1 d1) } a1 _ :=
               ⟨⟨hput.rel, hs1.base.lt, hs1.base.gl, hs1.base.gn, hsm1, hs1.base.ar, hs1.base.sf⟩, hs1.size, hs1.defs, hs1.marks⟩
             have hC := hr.code _ _ _ _ _ h2 _ φ1 a1 _ hS2 (by intro l' hl'; injection hl' with hl'; subst hl'; exact .inl hpl)
             rw [show fence φ1 (some l) = Fence.wide.inRound (φ.loc l) by simp only [fence, hloc]] at hC
             refine wpIn_mono hC fun e3 a2 w2 hh => ?_
             have hpo := Post.trans hB.lt (hst1.trans hput) hh
             obtain ⟨he, φ2, hs2, hst2⟩ := hpo
             subst he
             have hloc2 : φ2.loc l = φ.loc l := (hst2.only l (.inl (hB.lt l hpl))).1
             obtain ⟨fn2, tmps2, hheap2, hfrel2⟩ := hs2.base.rel.blk l _ hl2
             refine roundPost_of ⟨_, _, run_endRound (Code.ex e) (hloc2 ▸ hheap2), ?_⟩
             have hput2 := Step.loop (n := s2.n) (s' := if (Code.ex e).isNone then .ready else .done) (pe' := Code.ex e) (vs' := vs2) hs2.base.rel hl2 ⟨fn2, tmps2, rfl, hfrel2⟩ hloc2.symm
             have hsm2 := hs2.base.sm.set hl2 (b := .loop (if (Code.ex e).isNone then .ready else .done) (Code.ex e) fr2 sz2 vs2 ps2 x2 y2 d2) (hs2.base.sm l _ hl2).2
             rw [← hget_hset_eq _ hl2] at hsm2
             exact hn φ2 _ ⟨hsm2, trivial, hst2.trans hput2⟩
           · cases h
         · cases h
       · cases h
     · cases h
 · cases h
end
section
variable {P : Program} {p : Nat → Prop} {φ : Vl} {w : World} {a : Act} {o : Oper} {v : Value} {H' : Heap} {n' : Nat} {r : Rec} {m : Nat} {st : St}
theorem callYield_ok (hr : RecOk P r m) (hB : Base P p φ st.n (hget st.H) w st.fr a) {c : Call} {f : Operand} {args : Array Operand} (ho : o.op = .call c) (hc : c.callee = .value f) (ha : c.args = args)
   {l : Nat} {vs : List Value} (ht : target P st.fr f args = some (.yield l vs)) (h : yieldF r l vs st.H st.n = some (v, H', n')) (ψ : Vl) (ro : Option Nat) {next : Act → World → Prop} {Q : Exit → Act → World → Prop}
   (hn : ∀ φ' w', Dn P p φ st.n (hget st.H) w v n' (hget H') φ' w' → next (a.put o.dst (den φ' v)) w') : o.wpIn (fence ψ ro) 0 P a w next Q := by
 refine ⟨fun f _ => fence_fn _ _ f, ?_⟩
 rw [Oper.semAt_eq _ _ _ (by simp [ho])]
 subst ha
 unfold target at ht
 split at ht
 · cases ht
 · rename_i l' first captured as hf has
   injection ht with ht
   injection ht with h1 h2
   subst h1 h2
   have e1 := hB.evO hf
   have e2 := evOs_ok hB.rel hB.gl hB.ar hB.sf has
   obtain ⟨hl, hsf, hsc⟩ := e1.2
   rw [run_vcall ho hc (e1.1.trans (den_yield φ l' first captured))]
   have harr : (denL φ first.toList).toArray ++ c.args.map a.eval = (denL φ (first.toList ++ as)).toArray := by
     rw [map_eval e2.1, denL_append]
     simp
   rw [harr]
   have hsc' : scL p (first.toList ++ as) := by
     rw [scL_iff] at *
     intro u hu
     rcases List.mem_append.1 hu with hu | hu
     · exact hsf u hu
     · exact e2.2 u hu
   obtain ⟨f', tmps, x, y, hrun, hround⟩ := round_ok hr hB hsc' h (R := fun e w'' => match e with
     | .returned v => next (a.put o.dst v) w''
     | .panicked chain => Q (.panic chain) a w''
     | .outgrown => LetsOut Q) hn
   rw [show (invoke (.fn (.yield (φ.loc l')) (denL φ captured.toList).toArray) (denL φ (first.toList ++ as)).toArray).run P w = (Instr.yield (φ.loc l') (denL φ (first.toList ++ as)).toArray).run P w from rfl, hrun, Oper.uponIn_round]
   exact ⟨depth_fence, roundIn_fence (hround.mono fun e w' hh => by cases e <;> exact hh)⟩
 · cases ht
theorem runOp_ok (hr : RecOk P r m) (hB : Base P p φ st.n (hget st.H) w st.fr a) (h : runOp P r o st = some (v, H', n')) (ψ : Vl) (ro : Option Nat) {next : Act → World → Prop} {Q : Exit → Act → World → Prop}
   (hn : ∀ φ' w', Dn P p φ st.n (hget st.H) w v n' (hget H') φ' w' → next (a.put o.dst (den φ' v)) w') : o.wpIn (fence ψ ro) 0 P a w next Q := by
 unfold runOp at h
 split at h
 · rename_i f args hv
   obtain ⟨c, ho, hc, ha⟩ := isVCall_spec hv
   unfold vcallF at h
   split at h
   · rename_i g vs ht
     exact callFn_ok hr hB ho hc ha ht h ψ ro hn
   · rename_i l vs ht
     exact callYield_ok hr hB ho hc ha ht h ψ ro hn
   · cases h
 · exact opA_wp hB h ψ ro hn

/-! ### a region in text order -/
theorem yieldedA_ok {φ : Vl} {fr : Fr} {a : Act} (ha : ARel φ fr a) {ops : Array Oper} {j : Nat} {y : Option Bool} (h : yieldedA ops fr j = some y) : yielded ops a.tmps j = y := by
 unfold yieldedA at h
 unfold yielded
 split at h
 · rename_i hd; injection h with h; subst h; simp [hd]
 · rename_i d hd
   rw [hd]
   simp only [Option.bind_some]
   split at h
   · rename_i b hb; injection h with h; subst h; rw [ha d _ hb, den]
   · rename_i u hnb hu
     injection h with h; subst h
     rw [ha d _ hu]
     cases u with
     | bool b => exact absurd rfl (hnb b)
     | pointer x => cases x <;> simp [den]
     | slice x => 
       cases x with
       | none => simp [den]
       | some x => obtain ⟨b, o, s⟩ := x; cases s <;> simp [den]
     | map x => cases x <;> simp [den]
     | func fn => cases fn <;> simp [den]
     | _ => simp [den]
   · cases h
theorem wantedA_ok {φ : Vl} {fr : Fr} {a : Act} (ha : ARel φ fr a) {ops : Array Oper} {b : Bool} (h : wantedA ops fr o = some b) : Region.wanted o (yielded ops a.tmps) = b := by
 unfold wantedA at h
 unfold Region.wanted
 split at h
 · rename_i hg; injection h with h; subst h; simp [hg]
 · rename_i j want hg
   rw [hg]
   rw [Option.map_eq_some_iff] at h
   obtain ⟨y, hy, h⟩ := h
   subst h
   simp [yieldedA_ok ha hy]
theorem put_size (a : Act) (d : Option Tmp) (v : Value) : (a.put d v).tmps.size = a.tmps.size := by cases d <;> simp [Act.put]
theorem put_defs (a : Act) (d : Option Tmp) (v : Value) : (a.put d v).defers = a.defers := by cases d <;> simp [Act.put]
theorem ARel.put {φ : Vl} {fr : Fr} {a : Act} (ha : ARel φ fr a) {sz : Nat} (hsz : a.tmps.size = sz) {dst : Option Tmp} (hd : dstOk sz dst = true) (v : Value) : ARel φ (putA fr dst v) (a.put dst (den φ v)) := by
 cases dst with
 | none => exact ha
 | some d =>
   intro t u hu
   have hd := (blt_iff _ _).1 hd
   simp only [putA, lk_cons] at hu
   simp only [Act.put]
   by_cases hdt : d = t
   · rw [if_pos hdt] at hu; injection hu with hu; subst hu hdt
     rw [Array.getElem?_setIfInBounds_self_of_lt (by omega)]
   · rw [if_neg hdt] at hu
     rw [Array.getElem?_setIfInBounds_ne hdt]
     exact ha t u hu
theorem SF.put {fr : Fr} (hf : SF p fr) {dst : Option Tmp} {v : Value} (hv : sc p v) : SF p (putA fr dst v) := by
 cases dst with
 | none => exact hf
 | some d =>
   intro t u hu
   simp only [putA, lk_cons] at hu
   by_cases hdt : d = t
   · rw [if_pos hdt] at hu; injection hu with hu; subst hu; exact hv
   · rw [if_neg hdt] at hu; exact hf t u hu
theorem ARel.congr {φ ψ : Vl} {fr : Fr} {a : Act} (ha : ARel φ fr a) (hf : SF p fr) (h : Agr p φ ψ) : ARel ψ fr a := fun t v hv => by rw [den_congr h v (hf t v hv)]; exact ha t v hv
theorem SRel.put (hS : SRel P p φ st a w) (hd : dstOk st.sz o.dst = true) {φ' : Vl} {w' : World} (h : Dn P p φ st.n (hget st.H) w v n' (hget H') φ' w') :
   SRel P (Nx p st.n n') φ' { fr := putA st.fr o.dst v, sz := st.sz, H := H', n := n', marks := st.marks, vs := st.vs } (a.put o.dst (den φ' v)) w' := by
 obtain ⟨hsm, hsv, hst⟩ := h
 have hagr := hst.agr hS.base.lt
 have hB := hS.base
 refine ⟨⟨hst.rel, fun k hk => Nx.lt hB.lt hst.le hk, fun g hg => .inl (hB.gl g hg), Nat.le_trans hB.gn hst.le, hsm, (hB.ar.congr hB.sf hagr).put hS.size hd v, SF.put (fun t u hu => sc_mono (fun _ h => .inl h) _ (hB.sf t u hu)) hsv⟩, ?_, ?_, fun k hk => .inl (hS.marks k hk)⟩
 · rw [put_size]; exact hS.size
 · rw [put_defs, hS.defs]
   exact List.map_congr_left fun k hk => by rw [(hagr k (hS.marks k hk)).1]
theorem SRel.skip (hS : SRel P p φ st a w) (hd : dstOk st.sz o.dst = true) : SRel P p φ { st with fr := putA st.fr o.dst undefV } (a.put o.dst undef) w := by
 have hB := hS.base
 refine ⟨⟨hB.rel, hB.lt, hB.gl, hB.gn, hB.sm, ?_, SF.put hB.sf (by simp [undefV, sc, scL])⟩, ?_, ?_, hS.marks⟩
 · have := hB.ar.put hS.size hd undefV
   rw [den_undef] at this
   exact this
 · rw [put_size]; exact hS.size
 · rw [put_defs]; exact hS.defs
theorem opsF_ok (hr : RecOk P r m) {ops : Array Oper} (ψ : Vl) (ro : Option Nat) {Q : Exit → Act → World → Prop} : ∀ (k : Nat) (st : St) (p : Nat → Prop) (φ : Vl) (a : Act) (w : World) (st' : St),
   k ≤ ops.size → opsF P r ops (ops.toList.drop (ops.size - k)) st = some st' → SRel P p φ st a w →
   (∀ φ' a' w', SRel P (Nx p st.n st'.n) φ' st' a' w' → Step P φ st.n (hget st.H) w φ' st'.n (hget st'.H) w' → Q .normal a' w') →
   wpOpsIn (fence ψ ro) 0 P ops Q ((List.range ops.size).drop (ops.size - k)) a w
 | 0, st, p, φ, a, w, st', _, h, hS, hQ => by
   rw [List.drop_of_length_le (by simp), opsF] at h
   injection h with h; subst h
   rw [List.drop_of_length_le (by simp), wpOpsIn]
   exact hQ φ a w (hS.mono (fun _ h => .inl h) (fun k hk => Nx.lt hS.base.lt (Nat.le_refl _) hk)) (Step.refl hS.base.rel)
 | k + 1, st, p, φ, a, w, st', hk, h, hS, hQ => by
   have hi : ops.size - (k + 1) < ops.size := by omega
   have hsucc : ops.size - (k + 1) + 1 = ops.size - k := by omega
   rw [List.drop_eq_getElem_cons (by simpa using hi), hsucc] at h
   rw [List.drop_eq_getElem_cons (by simpa using hi), hsucc, List.getElem_range, wpOpsIn_cons]
   have hget : ops[ops.size - (k + 1)]? = some ops[ops.size - (k + 1)] := Array.getElem?_eq_getElem hi
   rw [Array.getElem_toList] at h
   generalize ops[ops.size - (k + 1)] = o at h hget
   unfold wpOpIn
   rw [hget]
   simp only
   rw [opsF] at h
   split at h
   · rename_i st1 h1
     unfold oneF at h1
     split at h1
     · cases h1
     · rename_i hd
       split at h1
       · cases h1
       · rename_i hw
         injection h1 with h1; subst h1
         rw [wantedA_ok hS.base.ar hw]
         refine ⟨fun f _ => fence_fn _ _ f, opsF_ok hr ψ ro k _ p φ _ w st' (by omega) h (hS.skip hd) hQ⟩
       · rename_i hw
         rw [wantedA_ok hS.base.ar hw]
         simp only [if_true]
         split at h1
         · rename_i v H' n' hrun
           injection h1 with h1; subst h1
           refine runOp_ok hr hS.base hrun ψ ro fun φ1 w1 hd1 => ?_
           refine opsF_ok hr ψ ro k _ _ φ1 _ w1 st' (by omega) h (hS.put hd hd1) fun φ2 a2 w2 hS2 hst2 => ?_
           exact hQ φ2 a2 w2 (hS2.mono (fun k hk => Nx.trans hd1.2.2.le hst2.le hk) (fun k hk => Nx.lt hS.base.lt (Nat.le_trans hd1.2.2.le hst2.le) hk)) (hd1.2.2.trans hst2)
         · cases h1
   · cases h
theorem AT.ops (hr : RecOk P r m) {ops : Array Oper} {id : Nat} {ro : Option Nat} {st' : St} (h : opsF P r ops ops.toList st = some st') : AT P ro (.region id ops false) st .normal st' := fun p φ a w hS hl => by
 refine wpIn_region ?_
 have := opsF_ok hr φ ro (Q := Post P p φ st.n (hget st.H) w .normal st') ops.size st p φ a w st' (Nat.le_refl _) (by simpa using h) hS fun φ' a' w' h1 h2 => ⟨rfl, φ', h1, h2⟩
 simpa using this
end

/-! ### a function's end -/
theorem one_den (φ : Vl) (us : List Value) : (if h : (denL φ us).toArray.size = 1 then (denL φ us).toArray[0] else .tuple (denL φ us).toArray) = den φ (one us) := by
 match us with
 | [] => simp [denL, one, den]
 | [v] => simp [denL, one]
 | v :: u :: us => simp [denL, one, den]
theorem sc_one {p : Nat → Prop} {us : List Value} (h : scL p us) : sc p (one us) := by
 match us with
 | [] => trivial
 | [v] => exact h.1
 | v :: u :: us => exact h
section
variable {P : Program} {p : Nat → Prop} {φ : Vl} {w : World} {a : Act} {n : Nat} {H : Heap} {fr : Fr}
theorem resultsL_ok (hB : Base P p φ n (hget H) w fr a) (g : ResultVar → Sem Value) (hg1 : ∀ t, g (.tmp t) = pure (a.tmps.getD t undef)) (hg2 : ∀ x t, g (.cell x t) = (do loadVar t (← asAddr (a.tmps.getD x undef)))) :
   ∀ (rs : List ResultVar) (vs : List Value), resultsA P fr H rs = some vs → (rs.mapM g).run P w = .ok (denL φ vs) w ∧ scL p vs
 | [], vs, h => by
   simp only [resultsA] at h
   injection h with h; subst h
   exact ⟨by simp [denL], trivial⟩
 | r :: rs, vs, h => by
   simp only [resultsA] at h
   split at h
   · cases h
   · rename_i v hv
     rw [Option.map_eq_some_iff] at h
     obtain ⟨us, hus, h⟩ := h
     subst h
     have ih := resultsL_ok hB g hg1 hg2 rs us hus
     have hone : (g r).run P w = .ok (den φ v) w ∧ sc p v := by
       cases r with
       | tmp t =>
         rw [hg1]
         simp only [resultA] at hv
         exact ⟨by simp [Array.getD_eq_getD_getElem?, hB.ar t v hv], hB.sf t v hv⟩
       | cell x t =>
         rw [hg2]
         simp only [resultA] at hv
         split at hv
         · rename_i u hu
           obtain ⟨ad, rfl, hrun, hsc⟩ := loadA_ok hB.rel hB.sm hv
           refine ⟨?_, hsc⟩
           simp [Array.getD_eq_getD_getElem?, hB.ar x _ hu, den, asAddr, hrun]
         · cases hv
     refine ⟨?_, hone.2, ih.2⟩
     simp [List.mapM_cons, hone.1, ih.1, denL]
theorem results_ok (hB : Base P p φ n (hget H) w fr a) {fn : Func} {vs : List Value} (h : resultsA P fr H fn.results.toList = some vs) :
   (results fn a.tmps).run P w = .ok (den φ (one vs)) w ∧ sc p (one vs) := by
 let g : ResultVar → Sem Value := fun r => match r with
   | .tmp t => pure (a.tmps.getD t undef)
   | .cell x t => do loadVar t (← asAddr (a.tmps.getD x undef))
 have this := resultsL_ok hB g (fun _ => rfl) (fun _ _ => rfl) _ _ h
 refine ⟨?_, sc_one this.2⟩
 have he : results fn a.tmps = (do let vs ← fn.results.mapM g; pure (if h : vs.size = 1 then vs[0] else .tuple vs)) := rfl
 rw [he, Array.mapM_eq_mapM_toList, ← one_den]
 simp [this.1]
theorem Step.kill {M : Mp} (h : HRel P φ M w) {k : Nat} {b0 : Blk} (hk : M k = some b0) (ho : b0.own = true) {i : Nat} (hi : i = φ.loc k) (o : Obj) : Step P φ n M w φ n (fun j => if j = k then none else M j) (w.putObj i o) := by
 subst hi
 have hsub : ∀ j x, (fun j => if j = k then none else M j) j = some x → j ≠ k ∧ M j = some x := fun j x hx => by
   dsimp only at hx
   by_cases hj : j = k
   · simp [hj] at hx
   · rw [if_neg hj] at hx; exact ⟨hj, hx⟩
 refine ⟨Nat.le_refl _, fun _ _ => ⟨rfl, rfl⟩, ⟨fun j x hx => ?_, fun j x j' x' h1 h2 hne ho1 => ?_, h.glob⟩, fun j x hx ho1 => ?_, fun j x hx ho1 => ?_, ⟨rfl, rfl, rfl, by simp, fun i hi hf => ?_⟩⟩
 · obtain ⟨hj, hx⟩ := hsub j x hx
   rw [World.putObj_heap_other (fun e => h.apart k b0 j x hk hx (fun e => hj e.symm) ho e.symm)]
   exact h.blk j x hx
 · exact h.apart j x j' x' (hsub _ _ h1).2 (hsub _ _ h2).2 hne ho1
 · exact .inr ⟨j, x, (hsub _ _ hx).2, ho1, rfl⟩
 · exact (hsub _ _ hx).2
 · exact World.putObj_heap_other fun e => hf k b0 hk ho e.symm
theorem leaves_ok {fn : Func} {tmps : Array Value} {R : Ending → World → Prop} : ∀ (marks : List Nat) (H : Heap) (w : World) (H1 : Heap), shutA marks H = some H1 → HRel P φ (hget H) w →
   (∀ w1, Step P φ n (hget H) w φ n (hget H1) w1 → ∃ v, (results fn tmps).run P w1 = .ok v w1 ∧ R (.returned v) w1) →
   LeavesInM Fence.wide 0 P fn tmps R (marks.map fun k => { target := .collected (φ.loc k), args := #[] }) .returning w
 | [], H, w, H1, h, hr, hR => by
   simp only [shutA] at h
   injection h with h; subst h
   exact hR w (Step.refl hr)
 | k :: ks, H, w, H1, h, hr, hR => by
   simp only [shutA] at h
   split at h
   · rename_i hk
     have hheap : w.heap[φ.loc k]? = some (.deferred (some [])) := hr.blk k _ hk
     have hkill := Step.kill (n := n) hr hk rfl rfl (.deferred none)
     rw [← hget_hdel_eq] at hkill
     refine ⟨by simp, .inl ⟨φ.loc k, _, rfl, run_takeDeferred hheap, ?_⟩⟩
     exact leaves_ok ks _ _ H1 h hkill.rel fun w1 hs => hR w1 (hkill.trans hs)
   · cases h
theorem shutA_sub : ∀ (marks : List Nat) (H H1 : Heap), shutA marks H = some H1 → ∀ k b, hget H1 k = some b → hget H k = some b
 | [], H, H1, h, k, b, hb => by simp only [shutA] at h; injection h with h; subst h; exact hb
 | x :: xs, H, H1, h, k, b, hb => by
   simp only [shutA] at h
   split at h
   · have := shutA_sub xs _ H1 h k b hb
     rw [hget_hdel] at this
     by_cases hkx : k = x
     · simp [hkx] at this
     · rwa [if_neg hkx] at this
   · cases h
theorem SM.sub {p : Nat → Prop} {M M' : Mp} (h : SM p M) (hs : ∀ k b, M' k = some b → M k = some b) : SM p M' := fun k b hb => h k b (hs k b hb)
theorem lk_args : ∀ (args : List Value) (i t : Nat) (v : Value), lk (argsFr args i) t = some v → i ≤ t ∧ args[t - i]? = some v
 | [], i, t, v, h => by simp [argsFr, lk] at h
 | u :: us, i, t, v, h => by
   simp only [argsFr, lk_cons] at h
   by_cases hi : i = t
   · rw [if_pos hi] at h; injection h with h; subst h hi; exact ⟨Nat.le_refl _, by simp⟩
   · rw [if_neg hi] at h
     obtain ⟨h1, h2⟩ := lk_args us (i + 1) t v h
     refine ⟨by omega, ?_⟩
     rw [show t - i = (t - (i + 1)) + 1 by omega, List.getElem?_cons_succ]
     exact h2
end
theorem enter_run {P : Program} {f : FuncId} (h : enterable P f = true) (args : Array Value) (w : World) : (callFunc f args).run P w = .ok (.enter f args) w := by
 unfold enterable at h
 split at h
 · rename_i fn hf
   rw [Bool.and_eq_true] at h
   have h1 : fn.name ≠ "runtime.NumGoroutine" := by simpa using h.2
   have h2 : fn.body ≠ none := by
     intro hb
     rw [hb] at h
     simp at h
   simp [callFunc, hf, h1, h2]
 · cases h
theorem externF_ok {P : Program} {f : FuncId} {args : List Value} {H : Heap} {n : Nat} {v : Value} {H' : Heap} {n' : Nat} (h : externF P f args H n = some (v, H', n')) : AC P f args H n v H' n' := by
 intro p φ w hB hsc
 unfold externF at h
 split at h
 · rename_i haf
   split at h
   · rename_i u hu
     split at h
     · rename_i hau
       injection h with h; injection h with e1 e2; injection e2 with e2 e3; subst e1 e2 e3
       refine .inr ⟨φ, w, ?_, hB.sm.mono (fun _ h => .inl h), sc_af _ _ hau, Step.refl hB.rel⟩
       rw [denL_af _ _ haf, den_af _ _ hau]
       exact runP_ok w hu
     · cases h
   · cases h
 · cases h
theorem bodyAT_ok {P : Program} {f : FuncId} {fn : Func} {c : Code} {args : List Value} {H : Heap} {n : Nat} {v : Value} {H' : Heap} {n' : Nat} (hf : P.funcs[f]? = some fn) (hb : fn.body = some c)
   (he : enterable P f = true) (hlen : args.length ≤ fn.ntmps) {e : Ex} {st : St} (hen : e = .normal ∨ e = .ret) {vs : List Nat} (hA0 : AT P none c { fr := argsFr args 0, sz := fn.ntmps, H, n, marks := [], vs } e st) (hleave : leaveF P fn args n st = some (v, H', n')) : AC P f args H n v H' n' := by
 intro p φ w hB hsc
 refine .inl ⟨enter_run he _ w, callsIn_of_wp_marks hf hb trivial ?_⟩
 have hS : SRel P p φ { fr := argsFr args 0, sz := fn.ntmps, H, n, marks := [], vs } { tmps := (denL φ args).toArray ++ Array.replicate (fn.ntmps - (denL φ args).toArray.size) undef, defers := [] } w := by
   refine ⟨⟨hB.rel, hB.lt, hB.gl, hB.gn, hB.sm, fun t u hu => ?_, fun t u hu => ?_⟩, by simp; omega, rfl, by simp⟩
   · obtain ⟨_, h2⟩ := lk_args _ _ _ _ hu
     have hlt : t < args.length := (List.getElem?_eq_some_iff.1 h2).1
     show ((denL φ args).toArray ++ _)[t]? = _
     rw [Array.getElem?_append_left (by simpa using hlt)]
     simp only [List.getElem?_toArray]
     rw [denL_get, show args[t]? = some u from h2]
     rfl
   · obtain ⟨_, h2⟩ := lk_args _ _ _ _ hu
     exact (scL_iff p _).1 hsc _ (List.mem_of_getElem? h2)
 have hA := hA0 p φ _ w hS (by intro l hl; cases hl)
 refine wpIn_mono hA fun e2 a1 w1 hh => ?_
 obtain ⟨he2, φ1, hs1, hst1⟩ := hh
 have goal : LeavesInM Fence.wide 0 P fn a1.tmps (fun e w' => ∃ φ', e = .returned (den φ' v) ∧ Dn P p φ n (hget H) w v n' (hget H') φ' w') a1.defers .returning w1 := by
   unfold leaveF at hleave
   split at hleave
   · cases hleave
   · rename_i H1 hshut
     rw [hs1.defs]
     refine leaves_ok (n := st.n) st.marks st.H w1 H1 hshut hs1.base.rel fun w2 hst2 => ?_
     have hsub := shutA_sub _ _ _ hshut
     have hB2 : Base P (Nx p n st.n) φ1 st.n (hget H1) w2 st.fr a1 := ⟨hst2.rel, hs1.base.lt, hs1.base.gl, hs1.base.gn, hs1.base.sm.sub hsub, hs1.base.ar, hs1.base.sf⟩
     split at hleave
     · rename_i us hus
       obtain ⟨hrun, hscv⟩ := results_ok hB2 hus
       split at hleave
       · injection hleave with hl; injection hl with e1 e2; injection e2 with e2 e3; subst e1 e2 e3
         have hdn : ∀ k b, hget (dropNew n H1) k = some b → hget H1 k = some b := fun k b hk => by
           rw [hget_dropNew] at hk
           split at hk
           · exact hk
           · cases hk
         exact ⟨_, hrun, φ1, rfl, hB2.sm.sub hdn, hscv, (hst1.trans hst2).sub hdn⟩
       · injection hleave with hl; injection hl with e1 e2; injection e2 with e2 e3; subst e1 e2 e3
         exact ⟨_, hrun, φ1, rfl, hB2.sm, hscv, hst1.trans hst2⟩
     · cases hleave
 rcases hen with rfl | rfl <;> subst he2 <;> exact goal
theorem bodyF_ok {P : Program} {r : Rec} {m : Nat} (hr : RecOk P r m) {f : FuncId} {fn : Func} {c : Code} {args : List Value} {H : Heap} {n : Nat} {v : Value} {H' : Heap} {n' : Nat} (hf : P.funcs[f]? = some fn) (hb : fn.body = some c)
   (he : enterable P f = true) (hlen : args.length ≤ fn.ntmps) (h : bodyF P r fn c args H n = some (v, H', n')) : AC P f args H n v H' n' := by
 unfold bodyF at h
 split at h
 · rename_i st hcode; exact bodyAT_ok hf hb he hlen (.inl rfl) (hr.code _ _ _ _ _ hcode) h
 · rename_i st hcode; exact bodyAT_ok hf hb he hlen (.inr rfl) (hr.code _ _ _ _ _ hcode) h
 · cases h
def OracleOk (P : Program) (O : Oracle) : Prop := ∀ f args H n v H' n', O f args H n = some (v, H', n') → AC P f args H n v H' n'
theorem callF_ok {P : Program} {O : Oracle} (hO : OracleOk P O) {r : Rec} {m : Nat} (hr : RecOk P r m) {f : FuncId} {args : List Value} {H : Heap} {n : Nat} {v : Value} {H' : Heap} {n' : Nat} (h : callF P O r f args H n = some (v, H', n')) : AC P f args H n v H' n' := by
 unfold callF at h
 split at h
 · rename_i u hu
   injection h with h; subst h
   exact hO _ _ _ _ _ _ _ hu
 · split at h
   · cases h
   · rename_i fn hf
     split at h
     · exact externF_ok h
     · rename_i c hb
       split at h
       · rename_i hc
         rw [Bool.and_eq_true] at hc
         exact bodyF_ok hr hf hb hc.1 (by simpa using hc.2) h
       · cases h

/-! ### a range over a function -/
theorem run_range {P : Program} {a : Act} {f : Operand} {l : Nat} {fn : Fn} {first captured : Array Value} (hf : a.eval f = .func fn first captured) (w : World) :
   (resolve a.eval (rangeCall f l) 0).run P w = .ok { target := .fn fn captured, args := first ++ #[Value.func (.yield l) #[] #[]] } w := by
 have : a.eval (.const (Value.func (.yield l) #[] #[])) = Value.func (.yield l) #[] #[] := rfl
 simp [resolve, Deferred.ofValue, hf, this]
theorem rangeTail {P : Program} {r : Rec} {m : Nat} (hr : RecOk P r m) {p : Nat → Prop} {φ φ2 φ3 : Vl} {a : Act} {w W2 w' : World} {st : St} {e : Ex} {st' : St} {M2 : Mp} {H : Heap} {k : Nat} {v : Value} (hS : SRel P p φ st a w)
   (hloc2 : φ2.loc (st.n + 1) = w.heap.size + 1) (hloc2' : φ2.loc st.n = w.heap.size) (hst2 : Step P φ st.n (hget st.H) w φ2 (st.n + 2) M2 W2)
   (hsm3 : SM (Nx (Nx (Nx p st.n (st.n + 1)) (st.n + 1) (st.n + 1 + 1)) (st.n + 2) k) (hget H)) (hst3 : Step P φ2 (st.n + 2) M2 W2 φ3 k (hget H) w')
   (h : (match hget H (st.n + 1) with
       | some (.loop state pending fr sz vs ps a b d) => match state == .busy with
         | true => none
         | false => match pending with
           | none => some (.normal, { st with H := hset H (st.n + 1) (.loop .exhausted none fr sz vs ps a b d), n := k, marks := st.n :: st.marks })
           | some c => r.code none c { st with H := hset H (st.n + 1) (.loop .exhausted (some c) fr sz vs ps a b d), n := k, marks := st.n :: st.marks }
       | _ => none) = some (e, st')) :
   rangePost (fence φ none) 0 P (w.heap.size + 1) (Post P p φ st.n (hget st.H) w e st') { a with defers := [{ target := .collected w.heap.size, args := #[] }] ++ a.defers } (.returned v) w' := by
 have hB := hS.base
 split at h
 · rename_i state pending fr2 sz2 vs2 ps2 x2 y2 d2 hl2
   split at h
   · cases h
   · rename_i hbusy
     have hbusy : state ≠ .busy := by intro hb; subst hb; simp at hbusy
     have hloc3 : φ3.loc (st.n + 1) = w.heap.size + 1 := by rw [(hst3.only _ (.inl (by omega))).1, hloc2]
     have hloc3' : φ3.loc st.n = w.heap.size := by rw [(hst3.only _ (.inl (by omega))).1, hloc2']
     obtain ⟨fn2, tmps2, hheap2, hfrel2⟩ := hst3.rel.blk _ _ hl2
     rw [hloc3] at hheap2
     refine ⟨_, _, run_endLoop hheap2 hbusy, ?_⟩
     have hput := Step.loop (n := k) (s' := .exhausted) (pe' := pending) (vs' := vs2) hst3.rel hl2 ⟨fn2, tmps2, rfl, hfrel2⟩ hloc3.symm
     have hsm4 := hsm3.set hl2 (b := .loop .exhausted pending fr2 sz2 vs2 ps2 x2 y2 d2) (hsm3 _ _ hl2).2
     rw [← hget_hset_eq _ hl2] at hsm4
     have hstA := hst2.trans (hst3.trans hput)
     have hnx3 : ∀ q, Nx (Nx (Nx p st.n (st.n + 1)) (st.n + 1) (st.n + 1 + 1)) (st.n + 2) k q → Nx p st.n k q := fun q hq => by
       have := hst3.le
       rcases hq with ((hq | hq) | hq) | hq
       · exact .inl hq
       · exact .inr (by omega)
       · exact .inr (by omega)
       · exact .inr (by omega)
     have hagA : Agr p φ φ3 := hstA.agr hB.lt
     have hSR : ∀ pe, pe = pending → SRel P (Nx p st.n k) φ3 { st with H := hset H (st.n + 1) (.loop .exhausted pe fr2 sz2 vs2 ps2 x2 y2 d2), n := k, marks := st.n :: st.marks }
         { a with defers := [{ target := .collected w.heap.size, args := #[] }] ++ a.defers } _ := fun pe hpe => by
       subst hpe
       refine ⟨⟨hstA.rel, fun q hq => Nx.lt hB.lt hstA.le hq, fun g hg => .inl (hB.gl g hg), Nat.le_trans hB.gn hstA.le, hsm4.mono hnx3, hB.ar.congr hB.sf hagA, fun t v hv => sc_mono (fun _ h => .inl h) _ (hB.sf t v hv)⟩, hS.size, ?_, ?_⟩
       · simp only [List.map_cons, hloc3', List.singleton_append, hS.defs]
         congr 1
         exact List.map_congr_left fun q hq => by rw [(hagA q (hS.marks q hq)).1]
       · intro q hq
         rcases List.mem_cons.1 hq with rfl | hq
         · exact .inr (by have := hst3.le; omega)
         · exact .inl (hS.marks q hq)
     split at h
     · rename_i hpn
       injection h with h; injection h with h1 h2; subst h1 h2
       exact ⟨rfl, φ3, hSR none rfl, hstA⟩
     · rename_i c
       have hA := hr.code _ _ _ _ _ h
       have := AT.then (p := p) (φ := φ) (n := st.n) (M := hget st.H) (w := w) hA hB.lt (fun l h => by cases h) (e2 := .normal) ⟨rfl, φ3, hSR (some c) rfl, hstA⟩
       exact this
 · cases h
theorem rangeF_ok {P : Program} {r : Rec} {m : Nat} (hr : RecOk P r m) {ro : Option Nat} {f : Operand} {ps : Array Tmp} {x y : Code} {st : St} {e : Ex} {st' : St} (h : rangeF P r ro f ps x y st = some (e, st')) : AT P ro (.rangeFunc f ps x y) st e st' := by
 intro p φ a w hS hl
 unfold rangeF at h
 split at h
 · rename_i g first captured hf
   split at h
   · cases h
   · rename_i hen
     split at h
     · rename_i v H k hcall
       refine wpIn_rangeFunc fun fn _ => ?_
       have hB := hS.base
       have e1 := hB.evO hf
       obtain ⟨hsf, hsc⟩ := e1.2
       -- the block for the rounds' deferred calls, and the record
       have hs1 := Step.alloc (o := .deferred (some [])) (b := .defd) hB.rel hB.lt hB.gn hB.sm rfl 0 rfl
       have hsm1 : SM (Nx p st.n (st.n + 1)) (addM (hget st.H) st.n .defd) := fun k b hb => by
         unfold addM at hb
         by_cases hk : k = st.n
         · subst hk; simp only [if_true] at hb; injection hb with hb; subst hb; exact ⟨.inr (by omega), trivial⟩
         · rw [if_neg hk] at hb; exact ⟨.inl (hB.sm k b hb).1, scB_mono (fun _ h => .inl h) _ (hB.sm k b hb).2⟩
       have hlt1 : ∀ k, Nx p st.n (st.n + 1) k → k < st.n + 1 := fun k hk => Nx.lt hB.lt (Nat.le_succ _) hk
       have hag1 : Agr p φ (φ.at st.n w.heap.size 0) := agr_at hB.lt
       have hrec : FRel (φ.at st.n w.heap.size 0) st.fr st.sz a.tmps := ⟨hS.size, hB.ar.congr hB.sf hag1⟩
       have hsz1 : (w.alloc (.deferred (some []))).heap.size = w.heap.size + 1 := by simp
       have hs2 := Step.alloc (o := .loop { state := .ready, pending := none, fn, tmps := a.tmps, params := ps, assign := x, body := y, defers := w.heap.size }) (b := .loop .ready none st.fr st.sz st.vs ps x y st.n)
         hs1.rel hlt1 (Nat.le_trans hB.gn (Nat.le_succ _)) hsm1 rfl 0 (by
           refine ⟨fn, a.tmps, ?_, hrec.congr (p := Nx p st.n (st.n + 1)) (agr_at hlt1) fun t v hv => sc_mono (fun _ h => .inl h) _ (hB.sf t v hv)⟩
           rw [(Vl.at_other _ (by omega)).1, (Vl.at_same φ st.n w.heap.size 0).1])
       have hnx : ∀ q, Nx (Nx p st.n (st.n + 1)) (st.n + 1) (st.n + 1 + 1) q → q < st.n + 1 + 1 := fun k hk => Nx.lt hlt1 (Nat.le_succ _) hk
       have hag2 := agr_at (φ := φ.at st.n w.heap.size 0) (n := st.n + 1) (x := (w.alloc (.deferred (some []))).heap.size) (c := 0) hlt1
       have hsm2 : SM (Nx (Nx p st.n (st.n + 1)) (st.n + 1) (st.n + 1 + 1)) (addM (addM (hget st.H) st.n .defd) (st.n + 1) (.loop .ready none st.fr st.sz st.vs ps x y st.n)) := fun k b hb => by
         unfold addM at hb
         by_cases hk : k = st.n + 1
         · subst hk; simp only [if_true] at hb; injection hb with hb; subst hb
           exact ⟨.inr (by omega), .inl (.inr (by omega)), fun t v hv => sc_mono (fun _ h => .inl (.inl h)) _ (hB.sf t v hv)⟩
         · rw [if_neg hk] at hb; exact ⟨.inl (hsm1 k b hb).1, scB_mono (fun _ h => .inl h) _ (hsm1 k b hb).2⟩
       generalize hφ1 : φ.at st.n w.heap.size 0 = φ1 at *
       have hloc1 : φ1.loc st.n = w.heap.size := by rw [← hφ1]; exact (Vl.at_same φ st.n w.heap.size 0).1
       generalize hφ2 : φ1.at (st.n + 1) (w.alloc (.deferred (some []))).heap.size 0 = φ2 at *
       have hloc2 : φ2.loc (st.n + 1) = w.heap.size + 1 := by rw [← hφ2, ← hsz1]; exact (Vl.at_same φ1 (st.n + 1) _ 0).1
       have hloc2' : φ2.loc st.n = w.heap.size := by rw [← hφ2, (Vl.at_other _ (by omega)).1, hloc1]
       have hst := hs1.trans hs2
       have hB2 : Base P (Nx (Nx p st.n (st.n + 1)) (st.n + 1) (st.n + 1 + 1)) φ2 (st.n + 2) (hget ((st.n + 1, .loop .ready none st.fr st.sz st.vs ps x y st.n) :: (st.n, .defd) :: st.H)) ((w.alloc (.deferred (some []))).alloc (.loop { state := .ready, pending := none, fn, tmps := a.tmps, params := ps, assign := x, body := y, defers := w.heap.size })) [] act0 := by
         rw [hget_addM, hget_addM]
         exact ⟨hs2.rel, hnx, fun g hg => .inl (.inl (hB.gl g hg)), Nat.le_trans hB.gn (by omega), hsm2, fun t v hv => by simp [lk] at hv, fun t v hv => by simp [lk] at hv⟩
       have hagφ : Agr p φ φ2 := hst.agr hB.lt
       have hargs : denL φ2 (first.toList ++ [.func (.yield (st.n + 1)) #[] #[]] ++ captured.toList) = denL φ first.toList ++ [.func (.yield (w.heap.size + 1)) #[] #[]] ++ denL φ captured.toList := by
         rw [denL_append, denL_append, denL_congr hagφ _ hsf, denL_congr hagφ _ hsc]
         simp [denL, den, hloc2]
       have hsca : scL (Nx (Nx p st.n (st.n + 1)) (st.n + 1) (st.n + 1 + 1)) (first.toList ++ [.func (.yield (st.n + 1)) #[] #[]] ++ captured.toList) := by
         rw [scL_iff]
         intro u hu
         rcases List.mem_append.1 hu with hu | hu
         · rcases List.mem_append.1 hu with hu | hu
           · exact sc_mono (fun _ h => .inl (.inl h)) _ ((scL_iff p _).1 hsf u hu)
           · rw [List.mem_singleton] at hu
             subst hu
             exact ⟨.inr (by omega), trivial, trivial⟩
         · exact sc_mono (fun _ h => .inl (.inl h)) _ ((scL_iff p _).1 hsc u hu)
       have hen' := enter_run hen
       have hcb := hr.call _ _ _ _ _ _ _ hcall _ φ2 _ hB2 hsca
       rw [hargs] at hcb
       obtain ⟨W2, hW2⟩ : ∃ W2, W2 = ((w.alloc (.deferred (some []))).alloc (.loop { state := .ready, pending := none, fn, tmps := a.tmps, params := ps, assign := x, body := y, defers := w.heap.size })) := ⟨_, rfl⟩
       rw [← hW2] at hcb hB2 hst
       have hloop : (Instr.enterLoop fn a.tmps ps x y none).run P w = .ok (w.heap.size + 1, [{ target := .collected w.heap.size, args := #[] }]) W2 := by rw [hW2]; exact run_enterLoop_outer fn a.tmps ps x y
       clear hW2
       rcases hcb with ⟨_, hcl⟩ | ⟨φ', w', hrun, _⟩
       · refine ⟨w.heap.size + 1, [{ target := .collected w.heap.size, args := #[] }], W2, { target := .fn (.func g) (denL φ captured.toList).toArray, args := (denL φ first.toList).toArray ++ #[.func (.yield (w.heap.size + 1)) #[] #[]] }, W2, g, (denL φ first.toList ++ [Value.func (.yield (w.heap.size + 1)) #[] #[]] ++ denL φ captured.toList).toArray, W2, hloop, ?_, ?_, ?_, ?_, ?_⟩
         · exact run_range (e1.1.trans (den_fn φ g first captured)) W2
         · exact fun f _ => fence_fn _ _ f
         · show (callFunc g (((denL φ first.toList).toArray ++ #[.func (.yield (w.heap.size + 1)) #[] #[]]) ++ (denL φ captured.toList).toArray)).run P _ = _
           rw [hen']
           simp
         · exact depth_fence
         · refine CallsIn.mono hcl fun e w' hh => ?_
           obtain ⟨φ3, rfl, hdn⟩ := hh
           obtain ⟨hsm3, _, hst3⟩ := hdn
           rw [hget_addM, hget_addM] at hst3
           exact rangeTail hr hS hloc2 hloc2' hst hsm3 hst3 h
       · rw [hen'] at hrun
         cases hrun
     · cases h
 · cases h
def DrawSound (P : Program) : Prop := ∀ (r : Rec) (m : Nat), RecOk P r m → ∀ (ops : Array Oper) (id : Nat) (ro : Option Nat) (st st' : St), drawOk ops (Region.before ops) = true →
 opsD P r ops (Region.before ops) st.n ops.toList 0 [] st = some st' → AT P ro (.region id ops true) st .normal st'
theorem codeF_ok {P : Program} (hD : DrawSound P) {r : Rec} {m : Nat} (hr : RecOk P r m) {ro : Option Nat} {c : Code} {st : St} {e : Ex} {st' : St} (hnl : ∀ b, c ≠ .loop b) (h : codeF P r ro c st = some (e, st')) : AT P ro c st e st' := by
 unfold codeF at h
 split at h
 · injection h with h; injection h with h1 h2; subst h1 h2; exact .skip
 · injection h with h; injection h with h1 h2; subst h1 h2; exact .label
 · injection h with h; injection h with h1 h2; subst h1 h2; exact .ret
 · injection h with h; injection h with h1 h2; subst h1 h2; exact .exit
 · injection h with h; injection h with h1 h2; subst h1 h2; exact .goto
 · unfold seqF at h
   split at h
   · rename_i st1 h1
     exact (hr.code _ _ _ _ _ h1).seq (hr.code _ _ _ _ _ h)
   · rename_i hne
     exact AT.seq_out (fun he => hne st' (by rw [h, he])) (hr.code _ _ _ _ _ h)
 · unfold condF at h
   split at h
   · rename_i hc; exact AT.cond (t := true) hc (hr.code _ _ _ _ _ h)
   · rename_i hc; exact AT.cond (t := false) hc (hr.code _ _ _ _ _ h)
   · cases h
 · rename_i id b
   unfold blockF at h
   split at h
   · rename_i id' st1 h1
     split at h
     · rename_i hid
       injection h with h; injection h with e1 e2; subst e1 e2
       have := Nat.eq_of_beq_eq_true hid
       subst this
       exact .block_exit (hr.code _ _ _ _ _ h1)
     · rename_i hid
       injection h with h; injection h with e1 e2; subst e1 e2
       refine .block (fun he => ?_) (hr.code _ _ _ _ _ h1)
       injection he with he
       rw [he, Nat.beq_refl] at hid
       cases hid
   · rename_i hne
     exact .block (fun he => hne id st' (by rw [h, he])) (hr.code _ _ _ _ _ h)
 · exact absurd rfl (hnl _)
 · unfold scopeF at h
   split at h
   · cases h
   · split at h
     · cases h
     · rename_i hne
       exact .scope (fun l he => hne l st' (by rw [h, he])) (hr.code _ _ _ _ _ h)
 · unfold regionF at h
   split at h
   · split at h
     · rename_i st1 h1
       injection h with h; injection h with e1 e2; subst e1 e2
       exact .ops hr h1
     · cases h
   · split at h
     · rename_i hok
       split at h
       · rename_i st1 h1
         injection h with h; injection h with e1 e2; subst e1 e2
         exact hD r m hr _ _ _ _ _ hok h1
       · cases h
     · cases h
 · exact rangeF_ok hr h
 · cases h
theorem loopF_ok {P : Program} {r : Rec} {m : Nat} (hr : RecOk P r m) {ro : Option Nat} {b : Code} {st : St} {e : Ex} {st' : St} (h : loopF r ro b st = some (e, st')) :
   ∀ p φ a w, SRel P p φ st a w → (∀ l, ro = some l → p l) → ∀ Q : Exit → Act → World → Prop, (∀ e2 a' w', Post P p φ st.n (hget st.H) w e st' e2 a' w' → Q e2 a' w') → LoopN (fence φ ro) 0 P b Q (m + 1) a w := by
 intro p φ a w hS hl Q hQ
 unfold LoopN
 unfold loopF at h
 split at h
 · rename_i st1 h1
   refine wpIn_mono (hr.code _ _ _ _ _ h1 p φ a w hS.trim hl) fun e2 a1 w1 hh => ?_
   obtain ⟨he, φ1, hs1, hst1⟩ := hh
   subst he
   have := hr.loop _ _ _ _ _ h _ φ1 a1 w1 hs1 (fun l h => .inl (hl l h)) Q fun e2 a2 w2 h2 => hQ _ _ _ (Post.trans hS.base.lt hst1 h2)
   rw [fence_step hst1 hS.base.lt hl] at this
   exact this
 · rename_i hne
   refine wpIn_mono (hr.code _ _ _ _ _ h p φ a w hS.trim hl) fun e2 a1 w1 hh => ?_
   have he := hh.1
   have hh' := hQ _ _ _ hh
   subst he
   cases e with
   | normal => exact absurd h (hne st')
   | _ => exact hh'
theorem ev_ok {P : Program} {O : Oracle} (hD : DrawSound P) (hO : OracleOk P O) : ∀ m, RecOk P (ev P O m) m
 | 0 => ⟨fun _ _ _ _ _ h => by simp [ev] at h, fun _ _ _ _ _ h => by simp [ev] at h, fun _ _ _ _ _ _ _ h => by simp [ev] at h⟩
 | m + 1 => by
   have ih := ev_ok hD hO m
   have hloop : ∀ ro b st e st', (ev P O (m + 1)).code ro (.loop b) st = some (e, st') → ∀ p φ a w, SRel P p φ st a w → (∀ l, ro = some l → p l) →
       ∀ Q : Exit → Act → World → Prop, (∀ e2 a' w', Post P p φ st.n (hget st.H) w e st' e2 a' w' → Q e2 a' w') → LoopN (fence φ ro) 0 P b Q (m + 1) a w := fun ro b st e st' h => loopF_ok ih h
   refine ⟨fun ro c st e st' h => ?_, hloop, fun f args H n v H' n' h => callF_ok hO ih h⟩
   by_cases hc : ∃ b, c = .loop b
   · obtain ⟨b, rfl⟩ := hc
     exact fun p φ a w hS hl => (hloop ro b st e st' h p φ a w hS hl _ fun _ _ _ hh => hh).wpIn
   · exact codeF_ok hD ih (fun b hb => hc ⟨b, hb⟩) h
end Go.Ab
