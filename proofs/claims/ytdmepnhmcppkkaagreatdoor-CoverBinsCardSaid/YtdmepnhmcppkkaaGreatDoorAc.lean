/-
Each operation of the evaluator is sound against the model, second part; rules for code.
-/
import Derived.Laws.Append
import Derived.Scope
import Derived.Test.YtdmepnhmcppkkaaGreatDoorAb
namespace Go.Ab
open Go
section
variable {P : Program} {p : Nat → Prop} {φ : Vl} {n : Nat} {H : Heap} {w : World} {fr : Fr} {a : Act} {o : Oper} {v : Value} {H' : Heap} {n' : Nat}

theorem den_slice (φ : Vl) (a : Addr) (l c : Nat) : ∃ a' c', den φ (.slice (some a) l c) = .slice (some a') l c' := by
 obtain ⟨b, off, s⟩ := a
 cases s <;> simp [den]
theorem den_func (φ : Vl) (fn : Fn) (x y : Array Value) : ∃ fn' x' y', den φ (.func fn x y) = .func fn' x' y' := by
 cases fn <;> simp [den]
theorem nilEq_den (φ : Vl) {x y : Value} {r : Bool} (h : nilEqA x y = some r) : nilEqA (den φ x) (den φ y) = some r ∧ ∀ P t, nilTypeA P t (den φ x) = nilTypeA P t x := by
 unfold nilEqA at h
 split at h
 · rename_i b; cases b <;> exact ⟨h, fun _ _ => rfl⟩
 · exact ⟨h, fun _ _ => rfl⟩
 · rename_i b l c
   cases b with
   | none => exact ⟨h, fun _ _ => rfl⟩
   | some b => obtain ⟨a', c', he⟩ := den_slice φ b l c; rw [he]; exact ⟨h, fun _ _ => rfl⟩
 · rename_i b l c l' c'
   obtain ⟨a', c', he⟩ := den_slice φ b l c; rw [he]; exact ⟨h, fun _ _ => rfl⟩
 · rename_i b; cases b <;> exact ⟨h, fun _ _ => rfl⟩
 · exact ⟨h, fun _ _ => rfl⟩
 · rename_i fn x y; obtain ⟨fn', x', y', he⟩ := den_func φ fn x y; rw [he]; exact ⟨h, fun _ _ => rfl⟩
 · rename_i fn x y; obtain ⟨fn', x', y', he⟩ := den_func φ fn x y; rw [he]; exact ⟨h, fun _ _ => rfl⟩
 · exact ⟨h, fun _ _ => rfl⟩
 · exact ⟨h, fun _ _ => rfl⟩
 · cases h
theorem nilEq_run {t : TypeId} {x y : Value} {r : Bool} (d : Nat) (ht : nilTypeA P t x = true) (h : nilEqA x y = some r) (w : World) : (Op.equalIn (d + 1) t x y).run P w = .ok r w := by
 unfold nilEqA at h
 split at h
 all_goals first
   | (simp only [nilTypeA] at ht; split at ht
      · rename_i hu
        injection h with h; subst h
        simp [Op.equalIn, run_underlying hu]
      · cases ht)
   | cases h
theorem nilEq_guard {t : TypeId} {x y : Operand} {u1 u2 : Value} {r : Bool} (b : BinOp) (h : nilEqA u1 u2 = some r) (w : World) : (eqGuard b t x y u1 u2).run P w = .ok () w := by
 unfold nilEqA at h
 unfold eqGuard
 split at h
 all_goals first
   | (cases b <;> rfl)
   | cases h
theorem nilEq_bin {t : TypeId} {u1 u2 : Value} {r : Bool} (h : nilEqA u1 u2 = some r) : binOp .eql t u1 u2 = (do pure (.bool (← Op.equal t u1 u2))) ∧ binOp .neq t u1 u2 = (do pure (.bool (!(← Op.equal t u1 u2)))) := by
 unfold nilEqA at h
 split at h
 all_goals first
   | exact ⟨rfl, rfl⟩
   | cases h
theorem ok_binOp (hB : Base P p φ n (hget H) w fr a) {op : BinOp} {t ty : TypeId} {x y : Operand} (ho : o.op = .binOp op t x y ty) (h : opBinop P op t x y fr H n = some (v, H', n')) : Outc P p φ n (hget H) w ((execOp a.eval o).run P w) v n' (hget H') := by
 simp only [opBinop] at h
 split at h
 · rename_i u1 u2 hx hy
   have hx' := hB.evO hx
   have hy' := hB.evO hy
   split at h
   · rename_i haf
     rw [Bool.and_eq_true, afq_eq, afq_eq] at haf
     cases hr : runP P (do eqGuard op t x y u1 u2; binOp op t u1 u2) with
     | none => simp [hr] at h
     | some r =>
       simp only [hr, Option.bind_some] at h
       split at h
       · rename_i har
         injection h with h; injection h with h1 h2; injection h2 with h2 h3; subst h1 h2 h3
         refine ok_pure hB hr har ?_
         rw [den_af φ _ haf.1] at hx'
         rw [den_af φ _ haf.2] at hy'
         simp [execOp, ho, hx'.1, hy'.1]
       · cases h
   · split at h
     · rename_i r ht hr
       injection h with h; injection h with h1 h2; injection h2 with h2 h3; subst h1 h2 h3
       have hd := nilEq_den φ hr
       have hrun : (Op.equal t (den φ u1) (den φ u2)).run P w = .ok r w := nilEq_run 9999 (by rw [hd.2]; exact ht) hd.1 w
       refine .same hB.rel hB.sm trivial ?_
       simp only [execOp, ho, hx'.1, hy'.1, Sem.run_bind, nilEq_guard _ hd.1, Result.andThen_ok, (nilEq_bin hd.1).1, hrun, Sem.run_pure, den]
     · rename_i r ht hr
       injection h with h; injection h with h1 h2; injection h2 with h2 h3; subst h1 h2 h3
       have hd := nilEq_den φ hr
       have hrun : (Op.equal t (den φ u1) (den φ u2)).run P w = .ok r w := nilEq_run 9999 (by rw [hd.2]; exact ht) hd.1 w
       refine .same hB.rel hB.sm trivial ?_
       simp only [execOp, ho, hx'.1, hy'.1, Sem.run_bind, nilEq_guard _ hd.1, Result.andThen_ok, (nilEq_bin hd.1).2, hrun, Sem.run_pure, den]
     · cases h
 · cases h
end
section
variable {P : Program} {p : Nat → Prop} {φ : Vl} {n : Nat} {H : Heap} {w : World} {fr : Fr} {a : Act} {o : Oper} {v : Value} {H' : Heap} {n' : Nat}

theorem evI_ok (hB : Base P p φ n (hget H) w fr a) {x : Option Operand} {y : Option Value} (h : evI P fr x = some y) : x.map a.eval = y ∧ (y = none ∨ ∃ k i, y = some (.int k i)) := by
 cases x with
 | none => simp only [evI, Option.some.injEq] at h; subst h; exact ⟨rfl, .inl rfl⟩
 | some x =>
   simp only [evI] at h
   split at h
   · rename_i k i hx
     injection h with h; subst h
     exact ⟨by simp [(hB.evO hx).1, den], .inr ⟨k, i, rfl⟩⟩
   · cases h
theorem boundA_run {x : Option Value} {d k : Nat} (hx : x = none ∨ ∃ k i, x = some (.int k i)) (h : boundA x d = some k) (y : Nat) (hy : k ≤ y) (code : BoundsCode) (w : World) :
   (match x with | some v => Instr.sliceBound v y code | none => pure d).run P w = .ok k w := by
 rcases hx with rfl | ⟨kk, i, rfl⟩
 · simp only [boundA, Option.some.injEq] at h; subst h; rfl
 · simp only [boundA] at h
   split at h
   · rename_i hi
     injection h with h; subst h
     simp only [Instr.sliceBound, asIntOf, Sem.run_bind, Sem.run_pure, Result.andThen_ok]
     rw [if_pos (by omega)]; rfl
   · cases h
theorem bounds_run {b : Bool} {len cap l h m : Nat} {lo hi mx : Option Value} (hlo : lo = none ∨ ∃ k i, lo = some (.int k i)) (hhi : hi = none ∨ ∃ k i, hi = some (.int k i)) (hmx : mx = none ∨ ∃ k i, mx = some (.int k i))
   (h1 : boundA mx cap = some m) (h2 : boundA hi len = some h) (h3 : boundA lo 0 = some l) (hm : m ≤ cap) (hh : h ≤ m) (hl : l ≤ h) (hs : mx.isSome = true → hi.isSome = true) (w : World) :
   (Instr.sliceBounds b len cap lo hi mx).run P w = .ok (l, h, m) w := by
 have e1 := fun c => boundA_run (P := P) hmx h1 cap hm c w
 have e2 := fun c => boundA_run (P := P) hhi h2 m hh c w
 have e3 := fun c => boundA_run (P := P) hlo h3 h hl c w
 unfold Instr.sliceBounds
 rcases hmx with rfl | ⟨k1, i1, rfl⟩ <;> rcases hhi with rfl | ⟨k2, i2, rfl⟩ <;> rcases hlo with rfl | ⟨k3, i3, rfl⟩ <;>
   first
     | (simp at hs; done)
     | (simp only [boundA, Option.some.injEq] at h1 h2 h3 e1 e2 e3 ⊢
        try subst h1
        try subst h2
        try subst h3
        simp only [Sem.run_bind, Sem.run_pure, Result.andThen_ok, e1, e2, e3])
theorem usedA_le (hr : HRel P φ (hget H) w) {sz skip : Nat} {ad : Addr} (h : 0 < usedA H sz (some ad) skip) : ad.spot = some 0 ∧ usedA H sz (some ad) skip ≤ φ.cap ad.block - skip := by
 unfold usedA at h ⊢
 simp only at h ⊢
 split at h
 · rename_i cs t sz' hb
   split at h
   · rename_i hc
     obtain ⟨c, h1, h2, h3, h4⟩ := hr.blk _ _ hb
     refine ⟨hc.1, ?_⟩
     rw [if_pos hc]
     have hl : cs.length ≤ c.size := by
       have := congrArg List.length h2
       simp at this
       omega
     rw [h3] at hl
     have hz : 0 < sz := by rw [hc.2]; exact h4
     rw [← hc.2] at hl
     have : cs.length / sz ≤ φ.cap ad.block := by
       rw [Nat.mul_comm] at hl
       exact Nat.div_le_of_le_mul hl
     omega
   · omega
 · rename_i cs sz' hb
   split at h
   · rename_i hc
     obtain ⟨c, _, _, h1, h2, h3, h4⟩ := hr.blk _ _ hb
     refine ⟨hc.1, ?_⟩
     rw [if_pos hc]
     have hl : cs.length ≤ c.size := by
       have := congrArg List.length h2
       simp at this
       omega
     rw [h3] at hl
     have hz : 0 < sz := by rw [hc.2]; exact h4
     rw [← hc.2] at hl
     have : cs.length / sz ≤ φ.cap ad.block := by
       rw [Nat.mul_comm] at hl
       exact Nat.div_le_of_le_mul hl
     omega
   · omega
 · omega
theorem sliceA_ok (hr : HRel P φ (hget H) w) {sz : Nat} {ao : Option Addr} {len cap : Nat} {lo hi mx : Option Value} {u : Value} (b : Bool)
   (hlo : lo = none ∨ ∃ k i, lo = some (.int k i)) (hhi : hi = none ∨ ∃ k i, hi = some (.int k i)) (hmx : mx = none ∨ ∃ k i, mx = some (.int k i))
   {used : Nat} (hu : used = 0 ∨ used = usedA H sz ao cap) (hp : ∀ ad, ao = some ad → p ad.block) (h : sliceA sz ao len cap lo hi mx used = some u) :
   ∃ A C l k m, den φ (.slice ao len cap) = .slice A len C ∧ (Instr.sliceBounds b len C lo hi mx).run P w = .ok (l, k, m) w ∧ Value.slice (if m = l then A else A.map (·.add (l * sz))) (k - l) (m - l) = den φ u ∧ sc p u := by
 unfold sliceA at h
 split at h
 · -- nil
   split at h
   · rename_i l k hl hk
     split at h
     · rename_i h0
       obtain ⟨rfl, rfl⟩ := h0
       injection h with h; subst h
       refine ⟨none, cap, 0, 0, cap, by simp [den], bounds_run hlo hhi hmx rfl hk hl (Nat.le_refl _) (Nat.zero_le _) (Nat.zero_le _) (by simp) w, by simp [den], trivial⟩
     · cases h
   · cases h
 · rename_i ad
   split at h
   · rename_i hsp
     split at h
     · cases h
     · rename_i m hm
       split at hm
       · cases hm
       · rename_i hms
         split at h
         · rename_i hmc
           split at h
           · cases h
           · rename_i k hk
             split at h
             · rename_i hkm
               split at h
               · cases h
               · rename_i l hl
                 split at h
                 · rename_i hlk
                   injection h with h; subst h
                   obtain ⟨blk, off, s⟩ := ad
                   dsimp only at hsp
                   subst hsp
                   refine ⟨some ⟨φ.loc blk, off, none⟩, cap, l, k, m, by simp [den], bounds_run hlo hhi hmx hm hk hl hmc hkm hlk (by
                     intro hx
                     cases hi with
                     | none => simp [hx] at hms
                     | some _ => rfl) w, ?_, ?_⟩
                   · by_cases hml : m = l
                     · simp [hml, den]
                     · simp [hml, den, add_none]
                   · have := hp _ rfl
                     by_cases hml : m = l <;> simpa [hml, sc] using this
                 · cases h
             · cases h
         · cases h
   · rename_i j hsp
     have hpb := hp _ rfl
     have hden : ∀ l' : Nat, den φ (.slice (some ad) l' cap) = .slice (some ⟨φ.loc ad.block, if φ.cap ad.block = cap then ad.off - j else ad.off, if ad.off < j then some (j - ad.off - 1) else none⟩) l' (φ.cap ad.block - cap) := fun l' => by
       obtain ⟨blk, off, s⟩ := ad
       dsimp only at hsp
       subst hsp
       simp [den]
     split at h
     · rename_i k l hk hl
       split at h
       · rename_i hle
         have hused : used ≤ φ.cap ad.block - cap := by
           rcases hu with hu | hu
           · omega
           · by_cases h0 : 0 < usedA H sz (some ad) cap
             · rw [hu]; exact (usedA_le hr h0).2
             · omega
         have hsp0 : 0 < used → ad.spot = some 0 := fun h0 => by
           rcases hu with hu | hu
           · omega
           · exact (usedA_le hr (hu ▸ h0)).1
         split at h
         · split at h
           · rename_i hlu
             injection h with h; subst h
             have hj : j = 0 := by have := hsp0 (by omega); rw [hsp] at this; exact Option.some.inj this
             subst hj
             refine ⟨_, _, l, k, φ.cap ad.block - cap, hden len, bounds_run hlo hhi hmx rfl hk hl (Nat.le_refl _) (by omega) hle.1 (by simp) w, ?_, hpb⟩
             rw [if_neg (by omega)]
             simp [den, add_none, Nat.sub_sub]
           · split at h
             · rename_i hlu hc
               injection h with h; subst h
               have hj : j = 0 := by have := hc.1; rw [hsp] at this; exact Option.some.inj this
               subst hj
               refine ⟨_, _, l, k, φ.cap ad.block - cap, hden len, bounds_run hlo hhi hmx rfl hk hl (Nat.le_refl _) (by omega) hle.1 (by simp) w, ?_, hpb⟩
               by_cases hml : φ.cap ad.block - cap = l
               · have hcap : φ.cap ad.block = cap + l ∨ l = 0 := by omega
                 rw [if_pos hml]
                 rcases hcap with hcap | hcap
                 · simp [den, hcap]
                 · subst hcap; simp at hc
               · have hcap : ¬ φ.cap ad.block = cap + l := by omega
                 rw [if_neg hml]
                 simp [den, hcap, add_none, Nat.sub_sub]
             · split at h
               · rename_i hl0
                 injection h with h; subst h
                 subst hl0
                 refine ⟨_, _, 0, k, φ.cap ad.block - cap, hden len, bounds_run hlo hhi hmx rfl hk hl (Nat.le_refl _) (by omega) hle.1 (by simp) w, ?_, by simpa [sc] using hpb⟩
                 rw [hden]
                 simp [Addr.add]
               · cases h
         · rename_i kk i
           split at h
           · rename_i hc
             injection h with h; subst h
             have hj : j = 0 := by have := hsp0 (by omega); rw [hsp] at this; exact Option.some.inj this
             subst hj
             have hi0 : 0 ≤ i := by omega
             refine ⟨_, _, l, k, i.toNat, hden len, bounds_run hlo hhi hmx (by simp [boundA, hi0]) hk hl (by omega) (by omega) hle.1 (fun _ => hc.1) w, ?_, hpb⟩
             rw [if_neg (by omega)]
             simp [den, add_none]
           · cases h
         · cases h
       · cases h
     · cases h
theorem ok_slice (hB : Base P p φ n (hget H) w fr a) {t : TypeId} {x : Operand} {lo hi mx : Option Operand} (ho : o.op = .slice t x lo hi mx) (h : opSlice P t x lo hi mx fr H n = some (v, H', n')) : Outc P p φ n (hget H) w ((execOp a.eval o).run P w) v n' (hget H') := by
 simp only [opSlice] at h
 split at h
 · cases h
 · rename_i u hx
   have hx' := hB.evO hx
   split at h
   · rename_i lo' hi' mx' hlo hhi hmx
     obtain ⟨l1, l2⟩ := evI_ok hB hlo
     obtain ⟨h1, h2⟩ := evI_ok hB hhi
     obtain ⟨m1, m2⟩ := evI_ok hB hmx
     split at h
     · rename_i s hu
       cases hr : runP P (Instr.sliceAt t (.string s) lo' hi' mx') with
       | none => simp [hr] at h
       | some r =>
         simp only [hr, Option.bind_some] at h
         split at h
         · rename_i har
           injection h with h; injection h with e1 e2; injection e2 with e2 e3; subst e1 e2 e3
           refine ok_pure hB hr har ?_
           simp only [execOp, ho, hx'.1, den, l1, h1, m1]
         · cases h
     · rename_i elem ao len cap hu
       split at h
       · rename_i sz hsz
         cases hsl : sliceA sz ao len cap lo' hi' mx' (usedA H sz ao cap) with
         | none => simp [hsl] at h
         | some r =>
           simp only [hsl, Option.map_some, Option.some.injEq, Prod.mk.injEq] at h
           obtain ⟨e1, e2, e3⟩ := h
           subst e1 e2 e3
           obtain ⟨A, C, l, k, m, q1, q2, q3, q4⟩ := sliceA_ok (P := P) (p := p) hB.rel true l2 h2 m2 (.inr rfl) (fun ad had => by subst had; exact hx'.2) hsl
           refine .same hB.rel hB.sm q4 ?_
           simp only [execOp, ho, hx'.1, q1, l1, h1, m1, Instr.sliceAt, Sem.run_bind, run_underlying hu, Result.andThen_ok, Instr.slice, q2, run_size' hsz, Sem.run_pure, q3]
       · cases h
     · rename_i k0 elem ad hu
       split at h
       · rename_i sz hsz
         split at h
         · rename_i hmn
           cases hsl : sliceA sz (some ⟨ad.block, ad.off, none⟩) k0 k0 lo' hi' none 0 with
           | none => simp [hsl] at h
           | some r =>
             simp only [hsl, Option.map_some, Option.some.injEq, Prod.mk.injEq] at h
             obtain ⟨e1, e2, e3⟩ := h
             subst e1 e2 e3
             have hmx0 : mx' = none := by cases mx' <;> simp at hmn ⊢
             subst hmx0
             obtain ⟨A, C, l, k, m, q1, q2, q3, q4⟩ := sliceA_ok (P := P) (p := p) hB.rel false l2 h2 (.inl rfl) (.inl rfl) (fun ad' had => by injection had with had; subst had; exact hx'.2) hsl
             simp only [den] at q1
             injection q1 with q1 _ q1'
             subst q1 q1'
             refine .same hB.rel hB.sm q4 ?_
             simp only [execOp, ho, hx'.1, den, l1, h1, m1, Instr.sliceAt, Sem.run_bind, run_underlying hu, Result.andThen_ok, Instr.sureAddr, Sem.run_pure, q2, run_size' hsz]
             rw [← q3]
             by_cases hml : m = l <;> simp [hml]
         · cases h
       · cases h
     · cases h
   · cases h
end
section
variable {P : Program} {p : Nat → Prop} {φ : Vl} {n : Nat} {H : Heap} {w : World} {fr : Fr} {a : Act} {o : Oper} {v : Value} {H' : Heap} {n' : Nat}

theorem execOp_builtin {b : Builtin} {args : Array Operand} {argTypes : Array TypeId} {vs : List Value} (ho : o.op = .call { callee := .builtin b, args, argTypes }) (h : args.toList.map a.eval = vs) :
   (execOp a.eval o).run P w = (builtin b argTypes o.type (args.map isConstO) vs.toArray).run P w := by
 have : args.map a.eval = vs.toArray := by rw [← h]; apply Array.ext'; simp
 simp only [execOp, ho, resolve, this, Sem.run_bind, Sem.run_pure, Result.andThen_ok, invoke]
 rfl
theorem lenV_den (φ : Vl) {x : Value} {m : Nat} (h : lenV x = some m) (w : World) : (Builtin.lenOf (den φ x)).run P w = .ok m w := by
 unfold lenV at h
 split at h
 · rename_i ao l c
   injection h with h; subst h
   cases ao with
   | none => rfl
   | some ad => obtain ⟨A, C, he⟩ := den_slice φ ad l c; rw [he]; rfl
 · injection h with h; subst h; rfl
 · cases h
theorem srcA_ok (hr : HRel P φ (hget H) w) (hs : SM p (hget H)) {sz m : Nat} {x : Value} {cs : List Value} (h : srcA H sz m x = some cs) :
   (Builtin.firstCells sz m (den φ x)).run P w = .ok (denL φ cs).toArray w ∧ scL p cs := by
 unfold srcA at h
 split at h
 · injection h with h; subst h; exact ⟨rfl, trivial⟩
 · rename_i ad l c
   split at h
   · rename_i h0
     injection h with h; subst h
     obtain ⟨A, C, he⟩ := den_slice φ ad l c
     rw [he]
     exact ⟨by simp [Builtin.firstCells, h0, loadCells, loadCellsFrom, denL], trivial⟩
   · split at h
     · rename_i hf
       obtain ⟨c', he⟩ := den_flat φ (l := l) (c := c) hf
       rw [he]
       exact cellsA_ok hr hs h
     · cases h
 · rename_i s
   injection h with h; subst h
   refine ⟨?_, ?_⟩
   · simp only [den, Builtin.firstCells, Sem.run_pure]
     congr 1
     apply Array.ext'
     rw [denL_eq, List.map_map]
     simp only [Array.toList_map]
     exact (List.map_congr_left fun b _ => by simp [den]).symm
   · rw [scL_iff]
     intro v hv
     obtain ⟨b, _, rfl⟩ := List.mem_map.1 hv
     trivial
 · cases h
inductive Src (P : Program) (w : World) (xt elem : TypeId) (i : TypeInfo) (X : Value) (m : Nat) (new : Array Value) : Prop
 | val (xd : TypeDesc) (hxt : P.underlying xt = some xd) (hnot : ∀ k, xd ≠ .int k) (hl : ∀ w2, (Builtin.lenOf X).run P w2 = .ok m w2) (hf : ∀ w2 : World, w2.heap = w.heap → (Builtin.firstCells i.size m X).run P w2 = .ok new w2)
 | zer (k k' : IntKind) (j : Int) (z : Value) (hxt : P.underlying xt = some (.int k)) (hX : X = .int k' j) (h0 : 0 ≤ j) (hm : m = j.toNat) (hw : IntKind.i64.wrap j = j) (hbig : ¬ (281474976710656 < j * (i.bytes : Int))) (hz : i.zero = some z) (hn : new = if m * i.size = 0 then #[] else Builtin.zeroCells z.cells m)
theorem src_ok (hr : HRel P φ (hget H) w) (hs : SM p (hget H)) {xt elem : TypeId} {i : TypeInfo} {xd : TypeDesc} {x : Value} {m : Nat} {new : List Value} (hxt : P.underlying xt = some xd) 
   (hm : lenX xd x = some m) (h : srcX i xd H m x = some new) : Src P w xt elem i (den φ x) m (denL φ new).toArray ∧ scL p new := by
 have hH : ∀ w2 : World, w2.heap = w.heap → HRel P φ (hget H) w2 := fun w2 h2 => ⟨fun k b hb => by rw [h2]; exact hr.blk k b hb, hr.apart, hr.glob⟩
 by_cases hint : ∃ k, xd = .int k
 · obtain ⟨k, rfl⟩ := hint
   unfold lenX at hm
   split at hm
   · rename_i k1 k2 j hd
     split at hm
     · rename_i hj
       injection hm with hm; subst hm
       cases hz : i.zero with
       | none => simp [srcX, hz] at h
       | some z =>
         simp only [srcX, hz] at h
         split at h
         · rename_i hc
           simp only [Bool.and_eq_true, smallA, decide_eq_true_eq] at hc
           injection h with h; subst h
           have hwr := wrap_small hj.1 (by omega)
           have hbig : ¬ (281474976710656 < j * (i.bytes : Int)) := by
             have : j * (i.bytes : Int) = ((j.toNat * i.bytes : Nat) : Int) := by rw [Int.natCast_mul, Int.toNat_of_nonneg hj.1]
             rw [this]
             have := hc.2.1
             simp at this
             omega
           refine ⟨.zer k k2 j z hxt (by simp [den]) hj.1 rfl hwr hbig hz ?_, ?_⟩
           · split
             · simp [denL]
             · simp [denL_af φ _ hc.1]
           · split
             · trivial
             · exact scL_af p _ hc.1
         · cases h
     · cases hm
   · cases hm
   · rename_i hne _; exact absurd rfl (hne _)
 · have hm' : lenV x = some m := by
     unfold lenX at hm
     split at hm
     · exact absurd ⟨_, rfl⟩ hint
     · exact absurd ⟨_, rfl⟩ hint
     · exact hm
   have h' : srcA H i.size m x = some new := by
     unfold srcX at h
     split at h
     · exact absurd ⟨_, rfl⟩ hint
     · exact h
   exact ⟨.val xd hxt (fun k e => hint ⟨k, e⟩) (fun w2 => lenV_den φ hm' w2) (fun w2 h2 => (srcA_ok (hH w2 h2) hs h').1), (srcA_ok (P := P) hr hs h').2⟩
end
section
variable {P : Program} {p : Nat → Prop} {φ : Vl} {n : Nat} {H : Heap} {w : World} {fr : Fr} {a : Act} {o : Oper} {v : Value} {H' : Heap} {n' : Nat}

theorem append_room {argTypes : Array TypeId} {ty st xt elem : TypeId} {i : TypeInfo} {X : Value} {m : Nat} {new : Array Value} {base : Option Addr} {len cap : Nat} (h0 : argTypes[0]? = some st) (h1 : argTypes[1]? = some xt)
   (hst : P.underlying st = some (.slice elem)) (hi : P.info? elem = some i) (hS : Src P w xt elem i X m new) (hle : len + m ≤ cap) (w' : World)
   (hb : (match base with | some a => (storeCells (a.add (len * i.size)) new.toList).run P w | none => .ok () w) = .ok () w') :
   (Builtin.append_ argTypes ty #[.slice base len cap, X]).run P w = .ok (.slice base (len + m) cap) w' := by
 have hsz := run_size' (P := P) (szA_of hi) w
 have hin := run_info (P := P) hi w
 cases hS with
 | val xd hxt hnot hl hf =>
   have hm : (match xd with | .int _ => true | _ => false) = false := by cases xd <;> first | rfl | exact absurd rfl (hnot _)
   have hf' := hf w rfl
   have hl' := hl w
   cases base with
   | none =>
     simp only at hb; injection hb with _ hb; subst hb
     simp [Builtin.append_, h0, h1, run_underlying hst, run_underlying hxt, hsz, hl', hle, hf']
   | some ad =>
     simp only at hb
     simp [Builtin.append_, h0, h1, run_underlying hst, run_underlying hxt, hsz, hl', hle, hf', hb]
 | zer k k' j z hxt hX hj hm hw hbig hz hn =>
   subst hX hm
   have hz' := run_zero' (P := P) (t := elem) (z := z) (by rw [zeroA_of hi, hz]) w
   have hj' : ¬ j < 0 := by omega
   by_cases hs : j.toNat * i.size = 0
   · rw [if_pos hs] at hn
     subst hn
     cases base with
     | none =>
       simp only at hb; injection hb with _ hb; subst hb
       simp [Builtin.append_, h0, h1, run_underlying hst, run_underlying hxt, hsz, asInt, asIntOf, hw, hj', hin, hbig, hle, hs]
     | some ad =>
       simp only [storeCells, Sem.run_pure] at hb; injection hb with _ hb; subst hb
       simp [Builtin.append_, h0, h1, run_underlying hst, run_underlying hxt, hsz, asInt, asIntOf, hw, hj', hin, hbig, hle, hs, storeCells]
   · rw [if_neg hs] at hn
     subst hn
     cases base with
     | none =>
       simp only at hb; injection hb with _ hb; subst hb
       simp [Builtin.append_, h0, h1, run_underlying hst, run_underlying hxt, hsz, asInt, asIntOf, hw, hj', hin, hbig, hle, hs, hz']
     | some ad =>
       simp only at hb
       simp [Builtin.append_, h0, h1, run_underlying hst, run_underlying hxt, hsz, asInt, asIntOf, hw, hj', hin, hbig, hle, hs, hz', hb]
theorem append_grow {argTypes : Array TypeId} {ty st xt elem : TypeId} {i : TypeInfo} {z : Value} {X : Value} {m : Nat} {new old : Array Value} {base : Option Addr} {len cap : Nat} (h0 : argTypes[0]? = some st) (h1 : argTypes[1]? = some xt)
   (hst : P.underlying st = some (.slice elem)) (hi : P.info? elem = some i) (hz : i.zero = some z) (_hb0 : 0 < i.size) (hS : Src P w xt elem i X m new) (hgt : cap < len + m) (hsm : smallA i.bytes (len + m) = true)
   (hold : (Builtin.firstCells i.size len (.slice base len cap)).run P w.drew = .ok old w.drew) :
   (Builtin.append_ argTypes ty #[.slice base len cap, X]).run P w =
     .ok (.slice (some ⟨w.heap.size, 0, none⟩) (len + m) (grownCap w (len + m) cap elem)) (w.drew.alloc (.cells (old ++ new ++ Builtin.zeroCells z.cells (grownCap w (len + m) cap elem - (len + m))) elem (0, 0))) := by
 have hsz := run_size' (P := P) (szA_of hi) w
 have hin := run_info (P := P) hi w
 have hin' := run_info (P := P) hi w.drew
 have hzr := run_zero' (P := P) (t := elem) (z := z) (by rw [zeroA_of hi, hz]) w.drew
 simp only [smallA, Bool.and_eq_true, decide_eq_true_eq] at hsm
 have hfit : Builtin.nextslicecap (len + m) cap * i.bytes ≤ 281474976710656 := growslice_fits hgt (by have := hsm.1; simp at this; omega)
 have hbig1 : ¬ (281474976710656 < Builtin.nextslicecap (len + m) cap * i.bytes) := by omega
 have h63 : ¬ (9223372036854775807 < (len : Int) + (m : Int)) := by
   have := hsm.2
   simp at this
   omega
 have hnle : ¬ len + m ≤ cap := by omega
 cases hS with
 | val xd hxt hnot hl hf =>
   have hm : (match xd with | .int _ => true | _ => false) = false := by cases xd <;> first | rfl | exact absurd rfl (hnot _)
   have hf' := hf w.drew rfl
   have hl' := hl w
   simp [Builtin.append_, h0, h1, run_underlying hst, run_underlying hxt, hsz, hl', hnle, h63, hin, hin', hbig1, Question.forced, hold, hf', hzr, newRow, grownCap]
 | zer k k' j z' hxt hX hj hm hw hbig hz' hn =>
   subst hX hm
   rw [hz] at hz'
   injection hz' with hz'
   subst hz'
   have hj' : ¬ j < 0 := by omega
   have h63' : ¬ (9223372036854775807 < (len : Int) + max j 0) := by omega
   by_cases hs : j.toNat * i.size = 0
   · rw [if_pos hs] at hn
     subst hn
     simp [Builtin.append_, h0, h1, run_underlying hst, run_underlying hxt, hsz, asInt, asIntOf, hw, hj', hin, hin', hbig, hnle, h63', hbig1, Question.forced, hold, hzr, hs, newRow, grownCap]
   · rw [if_neg hs] at hn
     subst hn
     simp [Builtin.append_, h0, h1, run_underlying hst, run_underlying hxt, hsz, asInt, asIntOf, hw, hj', hin, hin', hbig, hnle, h63', hbig1, Question.forced, hold, hzr, hs, newRow, grownCap]
theorem grownCap_ge (w : World) (need old : Nat) (e : TypeId) : need ≤ grownCap w need old e := by
 unfold grownCap Question.cut
 simp only
 omega
theorem zeroCells_size (zs : Array Value) (k : Nat) : (Builtin.zeroCells zs k).size = k * zs.size := by simp [Builtin.zeroCells]
theorem Outc.ext {M : Mp} (hr : HRel P φ M w) (hp : ∀ k, p k → k < n) (hn : P.globals.size ≤ n) (hs : SM p M) {elem : TypeId} {sz need c : Nat} {cs : List Value} {rest : Array Value} {r : Result Next}
   (hcs : scL p cs) (hl : cs.length = need * sz) (hrest : rest.size = (c - need) * sz) (hle : need ≤ c) (hsz : 0 < sz)
   (hrun : r = .ok (.value (.slice (some ⟨w.heap.size, 0, none⟩) need c)) (w.drew.alloc (.cells ((denL φ cs).toArray ++ rest) elem (0, 0)))) :
   Outc P p φ n M w r (.slice (some ⟨n, 0, some 0⟩) need 0) (n + 1) (addM M n (.ext cs elem sz)) := by
 have hstep := Step.alloc (P := P) (p := p) (w := w.drew) hr.drew hp hn hs (b := .ext cs elem sz) (o := .cells ((denL φ cs).toArray ++ rest) elem (0, 0)) rfl c ⟨_, rfl, ?_, ?_, hsz⟩
 · refine ⟨fun k x hx => ?_, .inr ⟨Nat.le_refl _, Nat.lt_succ_self _⟩, _, _, .inl ?_, (Step.drew hr).trans hstep⟩
   · by_cases hk : k = n
     · subst hk; simp only [addM, if_true] at hx; injection hx with hx; subst hx; exact ⟨.inr (by omega), scL_mono (fun _ h => .inl h) _ hcs⟩
     · simp only [addM, hk, if_false] at hx; exact ⟨.inl (hs k x hx).1, scB_mono (fun _ h => .inl h) _ (hs k x hx).2⟩
   · rw [hrun]
     simp [den, Vl.at]
 · rw [denL_congr (agr_at hp) _ hcs]
   simp
 · rw [(Vl.at_same φ n _ c).2]
   simp only [Array.size_append, List.size_toArray, denL_length, hl, hrest]
   rw [← Nat.add_mul]
   congr 1
   omega
theorem zeroOk_get {i : TypeInfo} (h : zeroOk i = true) : ∃ z, i.zero = some z ∧ z.cells.size = i.size ∧ 0 < i.size := by
 unfold zeroOk at h
 cases hz : i.zero with
 | none => simp [hz] at h
 | some z =>
   simp only [hz, Bool.and_eq_true] at h
   exact ⟨z, rfl, Nat.eq_of_beq_eq_true h.1, (blt_iff _ _).1 h.2⟩
theorem hget_hdel (H : Heap) (k i : Nat) : hget (hdel H k) i = if i = k then none else hget H i := by
 induction H with
 | nil => by_cases h : i = k <;> simp [hdel, hget, h]
 | cons e H ih =>
   obtain ⟨j, x⟩ := e
   rcases beq_cases j k with ⟨h1, h2⟩ | ⟨h1, h2⟩
   · simp only [hdel, h1, hget_cons, ih]
     by_cases h : i = k
     · simp [h]
     · rw [if_neg h, if_neg h, if_neg (by omega)]
   · simp only [hdel, h1, hget_cons, ih]
     by_cases h : i = k
     · subst h; simp [h2]
     · simp [h]
theorem hget_hdel_eq (H : Heap) (k : Nat) : hget (hdel H k) = fun j => if j = k then none else hget H j := funext fun i => hget_hdel H k i
theorem ok_appendTo (hB : Base P p φ n (hget H) w fr a) {argTypes : Array TypeId} {ty st xt elem : TypeId} {i : TypeInfo} {X : Value} {m : Nat} {new : List Value} {base : Option Addr} {len cap : Nat} (h0 : argTypes[0]? = some st) (h1 : argTypes[1]? = some xt)
   (hst : P.underlying st = some (.slice elem)) (hi : P.info? elem = some i) (hS : Src P w xt elem i X m (denL φ new).toArray) (hsn : scL p new) (hl : new.length = m * i.size) (hone : oneL new = true)
   (hp : ∀ ad, base = some ad → p ad.block) {r : Result Next} (hr : r = ((Builtin.append_ argTypes ty #[den φ (.slice base len cap), X]).run P w).andThen fun v w' => .ok (.value v) w')
   (h : appendTo elem i H n m new base len cap = some (v, H', n')) : Outc P p φ n (hget H) w r v n' (hget H') := by
 unfold appendTo at h
 split at h
 · -- nil
   split at h
   · rename_i hz0
     obtain ⟨rfl, rfl⟩ := hz0
     split at h
     · rename_i hm0
       subst hm0
       injection h with h; injection h with e1 e2; injection e2 with e2 e3; subst e1 e2 e3
       refine .same hB.rel hB.sm trivial ?_
       rw [hr, show den φ (.slice none 0 0) = .slice none 0 0 by simp [den], append_room h0 h1 hst hi hS (Nat.le_refl _) w rfl]
       rfl
     · rename_i hm0
       split at h
       · rename_i hc
         rw [Bool.and_eq_true] at hc
         obtain ⟨z, hz, hzs, hsz⟩ := zeroOk_get hc.2
         simp only [newA] at h
         injection h with h; injection h with e1 e2; injection e2 with e2 e3; subst e1 e2 e3
         rw [hget_addM]
         refine Outc.ext (c := grownCap w (0 + m) 0 elem) (rest := Builtin.zeroCells z.cells (grownCap w (0 + m) 0 elem - (0 + m))) hB.rel hB.lt hB.gn hB.sm hsn (by simpa using hl) (by rw [zeroCells_size, hzs]; simp) (by have := grownCap_ge w (0 + m) 0 elem; omega) hsz ?_
         rw [hr, show den φ (.slice none 0 0) = .slice none 0 0 by simp [den], append_grow h0 h1 hst hi hz hsz hS (by omega) (by simpa using hc.1) (old := #[]) rfl]
         simp
       · cases h
   · cases h
 · rename_i ad
   split at h
   · -- exact
     rename_i hsp
     have hden : den φ (.slice (some ad) len cap) = .slice (some ⟨φ.loc ad.block, ad.off, none⟩) len cap := by
       obtain ⟨blk, off, s⟩ := ad; dsimp only at hsp; subst hsp; simp [den]
     split at h
     · rename_i hle
       split at h
       · rename_i hm0
         subst hm0
         injection h with h; injection h with e1 e2; injection e2 with e2 e3; subst e1 e2 e3
         have hnew : new = [] := by cases new with | nil => rfl | cons x xs => simp at hl
         subst hnew
         refine .same hB.rel hB.sm (hp _ rfl) ?_
         rw [hr, hden, append_room h0 h1 hst hi hS hle w (by simp [denL, storeCells])]
         simp
       · split at h
         · rename_i H1 hst1
           injection h with h; injection h with e1 e2; injection e2 with e2 e3; subst e1 e2 e3
           obtain ⟨w', hrun, hstep, hsm⟩ := storeA_ok (P := P) hB.rel hB.sm hsn hone hst1
           refine ⟨hsm.mono fun _ h => .inl h, .inl (hp _ rfl), φ, w', .inl ?_, hstep⟩
           rw [hr, hden, append_room h0 h1 hst hi hS hle w' (by simp only [add_none]; exact hrun)]
           obtain ⟨blk, off, s⟩ := ad; dsimp only at hsp; subst hsp; simp [den]
         · cases h
     · rename_i hnle
       split at h
       · rename_i old hold
         split at h
         · rename_i hc
           rw [Bool.and_eq_true] at hc
           obtain ⟨z, hz, hzs, hsz⟩ := zeroOk_get hc.2
           simp only [newA] at h
           injection h with h; injection h with e1 e2; injection e2 with e2 e3; subst e1 e2 e3
           have hd : HRel P φ (hget H) w.drew := hB.rel.drew
           have ho := cellsA_ok (P := P) hd hB.sm hold
           have hol := (cellsA_at hold).1
           rw [hget_addM]
           refine Outc.ext (c := grownCap w (len + m) cap elem) (rest := Builtin.zeroCells z.cells (grownCap w (len + m) cap elem - (len + m))) hB.rel hB.lt hB.gn hB.sm ?_ ?_ (by rw [zeroCells_size, hzs]) (grownCap_ge w (len + m) cap elem) hsz ?_
           · rw [scL_iff]
             intro u hu
             rcases List.mem_append.1 hu with hu | hu
             · exact (scL_iff p old).1 ho.2 u hu
             · exact (scL_iff p new).1 hsn u hu
           · rw [List.length_append, hol, hl, Nat.add_mul]
           · rw [hr, hden, append_grow h0 h1 hst hi hz hsz hS (by omega) hc.1 (show (Builtin.firstCells i.size len (.slice (some ⟨φ.loc ad.block, ad.off, none⟩) len cap)).run P w.drew = _ from ho.1)]
             simp [denL_append]
         · cases h
       · cases h
   · -- open
     rename_i j hsp
     split at h
     · rename_i cs t sz hb
       split at h
       · rename_i hc
         obtain ⟨ht, rfl, hoff, rfl, rfl, hlen⟩ := hc
         obtain rfl : elem = t := ht.symm
         obtain ⟨c, hb1, hb2, hb3, hb4⟩ := hB.rel.blk _ _ hb
         have hcl : cs.length ≤ c.size := by
           have := congrArg List.length hb2
           simp at this
           omega
         have hden : ∀ l, den φ (.slice (some ad) l 0) = .slice (some ⟨φ.loc ad.block, 0, none⟩) l (φ.cap ad.block) := fun l => by
           obtain ⟨blk, off, s⟩ := ad; dsimp only at hsp hoff; subst hsp hoff; simp [den]
         split at h
         · rename_i hle
           have hroom : len + m ≤ φ.cap ad.block := by
             have : (len + m) * i.size ≤ φ.cap ad.block * i.size := by omega
             exact Nat.le_of_mul_le_mul_right this hb4
           split at h
           · rename_i hm0
             subst hm0
             injection h with h; injection h with e1 e2; injection e2 with e2 e3; subst e1 e2 e3
             have hnew : new = [] := by cases new with | nil => rfl | cons x xs => simp at hl
             subst hnew
             refine .same hB.rel hB.sm (hp _ rfl) ?_
             rw [hr, hden, append_room h0 h1 hst hi hS hroom w (by simp [denL, storeCells])]
             simp
           · split at h
             · rename_i H1 hst1
               injection h with h; injection h with e1 e2; injection e2 with e2 e3; subst e1 e2 e3
               obtain ⟨w', hrun, hstep, hsm⟩ := storeA_ok (P := P) hB.rel hB.sm hsn hone hst1
               refine ⟨hsm.mono fun _ h => .inl h, .inl (hp _ rfl), φ, w', .inl ?_, hstep⟩
               rw [hr, hden, hden, append_room h0 h1 hst hi hS hroom w' (by simp only [add_none, Nat.zero_add]; exact hrun)]
               rfl
             · cases h
         · rename_i hnle
           split at h
           · rename_i hcc
             rw [Bool.and_eq_true] at hcc
             obtain ⟨z, hz, hzs, hsz⟩ := zeroOk_get hcc.2
             simp only [newA] at h
             injection h with h; injection h with e1 e2; injection e2 with e2 e3; subst e1 e2 e3
             rw [hget_addM, hget_hdel_eq]
             have hsc : scL p (cs.take (len * i.size) ++ new) := by
               rw [scL_iff]
               intro u hu
               rcases List.mem_append.1 hu with hu | hu
               · exact (scL_iff p cs).1 (hB.sm _ _ hb).2 u (List.mem_of_mem_take hu)
               · exact (scL_iff p new).1 hsn u hu
             have hlenc : (cs.take (len * i.size) ++ new).length = (len + m) * i.size := by
               simp [hl, Nat.add_mul]; omega
             have hsub : ∀ k b, (fun j => if j = ad.block then none else hget H j) k = some b → hget H k = some b := fun k b hkb => by
               dsimp only at hkb
               split at hkb
               · cases hkb
               · exact hkb
             by_cases hroom : len + m ≤ φ.cap ad.block
             · -- the row has room: it goes on under a new name
               have hlt : len * i.size + (denL φ new).length ≤ c.size := by
                 rw [denL_length, hl, hb3, ← Nat.add_mul]
                 exact Nat.mul_le_mul_right _ hroom
               have hone' : ∀ v ∈ denL φ new, v.oneCell' = true := fun v hv => by
                 rw [denL_eq, List.mem_map] at hv
                 obtain ⟨u, hu, rfl⟩ := hv
                 exact den_oneCell φ u (oneL_mem hone u hu)
               have hrun := run_storeCells_at (P := P) (φ.loc ad.block) (len * i.size) elem (denL φ new) 0 c w hb1 (by simpa using hlt) hone'
               have hmove := Step.move (P := P) (p := p) (w' := w.setRow (φ.loc ad.block) (c.toList.take (len * i.size) ++ denL φ new ++ c.toList.drop (len * i.size + (denL φ new).length)).toArray) hB.rel hB.lt hB.gn hB.sm hb rfl (b := .ext (cs.take (len * i.size) ++ new) elem i.size) rfl rfl rfl rfl (by simp) (fun k hk => setRow_other w _ k _ hk)
                 ⟨_, by rw [setRow_heap w _ _ _ elem (0, 0) hb1], by
                   rw [denL_congr (agr_at hB.lt) _ hsc, hlenc, denL_append]
                   have e1 : (len + m) * i.size = len * i.size + (denL φ new).length := by rw [denL_length, hl, Nat.add_mul]
                   have e2 : denL φ (cs.take (len * i.size)) = c.toList.take (len * i.size) := by
                     have : (c.toList.take cs.length).take (len * i.size) = (denL φ cs).take (len * i.size) := by rw [hb2]
                     rw [List.take_take, Nat.min_eq_left hlen] at this
                     rw [this]; simp [denL_eq, List.map_take]
                   rw [e1, e2]
                   simp only []
                   rw [List.take_left' (by simp; omega)], by rw [(Vl.at_same φ n _ _).2, ← hb3]; simp only [List.size_toArray, List.length_append, List.length_take, List.length_drop, Array.length_toList]; omega, hsz⟩
               refine ⟨fun k x hx => ?_, .inr ⟨Nat.le_refl _, Nat.lt_succ_self _⟩, _, _, .inl ?_, hmove⟩
               · by_cases hk : k = n
                 · subst hk; simp only [addM, if_true] at hx; injection hx with hx; subst hx; exact ⟨.inr (by omega), scL_mono (fun _ h => .inl h) _ hsc⟩
                 · simp only [addM, hk, if_false] at hx
                   have := hsub k x hx
                   exact ⟨.inl (hB.sm k x this).1, scB_mono (fun _ h => .inl h) _ (hB.sm k x this).2⟩
               · rw [hr, hden, append_room h0 h1 hst hi hS hroom _ (by simp only [add_none, Nat.zero_add]; simpa using hrun)]
                 simp [den, Vl.at]
             · have hd : HRel P φ (hget H) w.drew := hB.rel.drew
               have hold : (Builtin.firstCells i.size len (.slice (some ⟨φ.loc ad.block, 0, none⟩) len (φ.cap ad.block))).run P w.drew = .ok (denL φ (cs.take (len * i.size))).toArray w.drew := by
                 have := cellsA_ok (P := P) hd hB.sm (b := ad.block) (off := 0) (k := len * i.size) (cs := cs.take (len * i.size)) (by simp [cellsA, hb, hlen])
                 exact this.1
               have hr' : HRel P φ (fun j => if j = ad.block then none else hget H j) w := hB.rel.sub hsub
               have hs' : SM p (fun j => if j = ad.block then none else hget H j) := fun k b hkb => hB.sm k b (hsub k b hkb)
               have := Outc.ext (P := P) (p := p) (c := grownCap w (len + m) (φ.cap ad.block) elem) (rest := Builtin.zeroCells z.cells (grownCap w (len + m) (φ.cap ad.block) elem - (len + m))) hr' hB.lt hB.gn hs' (elem := elem) (sz := i.size) (need := len + m) hsc hlenc (by rw [zeroCells_size, hzs]) (grownCap_ge w (len + m) _ elem) hsz (r := r) ?_
               · obtain ⟨q1, q2, φ', w', q3, q4⟩ := this
                 exact ⟨q1, q2, φ', w', q3, q4.weaken hsub⟩
               · rw [hr, hden, append_grow h0 h1 hst hi hz hsz hS (by omega) hcc.1 hold]
                 simp [denL_append]
           · cases h
       · cases h
     · cases h
end
section
variable {P : Program} {p : Nat → Prop} {φ : Vl} {n : Nat} {H : Heap} {w : World} {fr : Fr} {a : Act} {o : Oper} {v : Value} {H' : Heap} {n' : Nat}

theorem run_value (s : Sem Value) (w : World) : ((do pure (Next.value (← s))) : Sem Next).run P w = (s.run P w).andThen fun v w' => .ok (.value v) w' := by
 simp
@[simp] theorem den_undef (φ : Vl) : den φ undefV = undefV := by simp [undefV, den, denL]
theorem den_slice_len (φ : Vl) (ao : Option Addr) (l c : Nat) : ∃ A C, den φ (.slice ao l c) = .slice A l C := by
 cases ao with
 | none => exact ⟨_, _, by simp [den]; exact ⟨rfl, rfl⟩⟩
 | some ad => obtain ⟨A, C, h⟩ := den_slice φ ad l c; exact ⟨_, _, h⟩
theorem ok_builtin (hB : Base P p φ n (hget H) w fr a) {b : Builtin} {args : Array Operand} {argTypes : Array TypeId} (ho : o.op = .call { callee := .builtin b, args, argTypes }) (h : opBuiltin P b args argTypes o.type fr H n = some (v, H', n')) :
   Outc P p φ n (hget H) w ((execOp a.eval o).run P w) v n' (hget H') := by
 simp only [opBuiltin] at h
 split at h
 · rename_i vs hvs
   obtain ⟨hv1, hv2⟩ := evOs_ok hB.rel hB.gl hB.ar hB.sf hvs
   rw [execOp_builtin ho hv1]
   split at h
   · rename_i r0 hb
     injection h with h; subst h
     unfold builtinA at hb
     split at hb
     · -- len
       rename_i ao l c
       split at hb
       · rename_i t ht
         split at hb
         · rename_i e hu
           injection hb with hb; injection hb with e1 e2; injection e2 with e2 e3; subst e1 e2 e3
           obtain ⟨A, C, hd⟩ := den_slice_len φ ao l c
           refine .same hB.rel hB.sm trivial ?_
           simp [builtin, Builtin.len_, denL, ht, run_underlying hu, hd, den, goInt]
         · cases hb
       · cases hb
     · -- cap
       rename_i ao l c
       split at hb
       · rename_i t ht
         split at hb
         · rename_i e hu
           injection hb with hb; injection hb with e1 e2; injection e2 with e2 e3; subst e1 e2 e3
           refine .same hB.rel hB.sm trivial ?_
           simp [builtin, Builtin.cap_, denL, ht, run_underlying hu, den, goInt]
         · rename_i e ad hu
           split at hb
           · rename_i hsp
             injection hb with hb; injection hb with e1 e2; injection e2 with e2 e3; subst e1 e2 e3
             refine .same hB.rel hB.sm trivial ?_
             obtain ⟨blk, off, s⟩ := ad; dsimp only at hsp; subst hsp
             simp [builtin, Builtin.cap_, denL, ht, run_underlying hu, den, goInt]
           · cases hb
         · cases hb
       · cases hb
     · -- append
       rename_i s x
       unfold appendA at hb
       split at hb
       · rename_i st xt base len cap h0 h1
         split at hb
         · rename_i elem xd hst hxt
           split at hb
           · rename_i i m hi hm
             split at hb
             · rename_i new hnew
               split at hb
               · rename_i hc
                 rw [Bool.and_eq_true] at hc
                 obtain ⟨hS, hsn⟩ := src_ok (P := P) hB.rel hB.sm hxt hm hnew
                 refine ok_appendTo hB h0 h1 hst hi hS hsn (Nat.eq_of_beq_eq_true hc.1) hc.2 (fun ad had => by subst had; exact hv2.1) (ty := o.type) ?_ hb
                 simp only [builtin, denL, run_value]
               · cases hb
             · cases hb
           · cases hb
         · cases hb
       · cases hb
     · -- copy
       rename_i base dl c x
       split at hb
       · rename_i t ht
         split at hb
         · rename_i elem hu
           split at hb
           · rename_i sz m hsz hm
             have hmain : ∀ cs, srcA H sz (Nat.min m dl) x = some cs → ∀ A C, den φ (.slice base dl c) = .slice A dl C → ∀ w' , (match A with | some a => (storeCells a (denL φ cs)).run P w | none => .ok () w) = .ok () w' →
                 (builtin .copy argTypes o.type (args.map isConstO) (denL φ [.slice base dl c, x]).toArray).run P w = .ok (.value (.int .i64 (Nat.min m dl))) w' := by
               intro cs hcs A C hd w' hst
               have h1 := (srcA_ok (P := P) hB.rel hB.sm hcs).1
               cases A with
               | none =>
                 simp only at hst; injection hst with _ hst; subst hst
                 simp [builtin, Builtin.copy_, denL, ht, run_underlying hu, hd, lenV_den φ hm w, run_size' hsz, h1, goInt]
               | some A =>
                 simp only at hst
                 simp [builtin, Builtin.copy_, denL, ht, run_underlying hu, hd, lenV_den φ hm w, run_size' hsz, h1, goInt, hst]
             split at hb
             · rename_i hcs
               injection hb with hb; injection hb with e1 e2; injection e2 with e2 e3; subst e1 e2 e3
               obtain ⟨A, C, hd⟩ := den_slice_len φ _ dl c
               refine .same hB.rel hB.sm trivial ?_
               rw [hmain _ hcs A C hd w (by cases A <;> simp [denL, storeCells])]
               simp [den]
             · rename_i cs ad hne hcs
               split at hb
               · rename_i hf
                 rw [Bool.and_eq_true] at hf
                 split at hb
                 · rename_i H1 hst1
                   injection hb with hb; injection hb with e1 e2; injection e2 with e2 e3; subst e1 e2 e3
                   obtain ⟨c', hd⟩ := den_flat φ (l := dl) (c := c) hf.1
                   obtain ⟨w', hrun, hstep, hsm⟩ := storeA_ok (P := P) hB.rel hB.sm (srcA_ok (P := P) hB.rel hB.sm hcs).2 hf.2 hst1
                   refine ⟨hsm.mono fun _ h => .inl h, trivial, φ, w', .inl ?_, hstep⟩
                   rw [hmain _ hcs _ _ hd w' hrun]
                   simp [den]
                 · cases hb
               · cases hb
             · cases hb
           · cases hb
         · cases hb
       · cases hb
     · -- clear
       rename_i base l c
       split at hb
       · rename_i t ht
         split at hb
         · rename_i elem hu
           split at hb
           · injection hb with hb; injection hb with e1 e2; injection e2 with e2 e3; subst e1 e2 e3
             refine .same hB.rel hB.sm (by simp [undefV, sc, scL]) ?_
             simp [builtin, Builtin.clear_, denL, ht, run_underlying hu, den, undefV]
           · injection hb with hb; injection hb with e1 e2; injection e2 with e2 e3; subst e1 e2 e3
             refine .same hB.rel hB.sm (by simp [undefV, sc, scL]) ?_
             rename_i ad
             obtain ⟨A, C, hd⟩ := den_slice φ ad 0 c
             rw [den_undef]
             simp [builtin, Builtin.clear_, denL, ht, run_underlying hu, hd, undefV]
           · rename_i ad l'
             split at hb
             · rename_i z hz
               split at hb
               · rename_i hc
                 rw [Bool.and_eq_true, Bool.and_eq_true] at hc
                 split at hb
                 · rename_i H1 hst1
                   injection hb with hb; injection hb with e1 e2; injection e2 with e2 e3; subst e1 e2 e3
                   obtain ⟨c', hd⟩ := den_flat φ (l := l' + 1) (c := c) hc.2
                   obtain ⟨w', hrun, hstep, hsm⟩ := storeA_ok (P := P) hB.rel hB.sm (scL_af p _ hc.1.1) hc.1.2 hst1
                   rw [denL_af _ _ hc.1.1] at hrun
                   refine ⟨hsm.mono fun _ h => .inl h, by simp [undefV, sc, scL], φ, w', .inl ?_, hstep⟩
                   rw [den_undef]
                   simp [builtin, Builtin.clear_, denL, ht, run_underlying hu, hd, run_zero' hz, hrun, undefV]
                 · cases hb
               · cases hb
             · cases hb
         · cases hb
       · cases hb
     · cases hb
   · split at h
     · rename_i haf
       split at h
       · rename_i u hr
         split at h
         · rename_i hau
           injection h with h; injection h with e1 e2; injection e2 with e2 e3; subst e1 e2 e3
           rw [afq_eq] at hau
           refine .same hB.rel hB.sm (sc_af p _ hau) ?_
           rw [den_af φ _ hau, denL_af φ _ haf]
           exact runP_ok w hr
         · cases h
       · cases h
     · cases h
 · cases h
theorem opA_ok (hB : Base P p φ n (hget H) w fr a) (h : opA P o fr H n = some (v, H', n')) : Outc P p φ n (hget H) w ((execOp a.eval o).run P w) v n' (hget H') := by
 unfold opA at h
 split at h
 · exact ok_move hB (.inl ‹_›) h
 · exact ok_move hB (.inr ‹_›) h
 · exact ok_pick hB ‹_› h
 · exact ok_alloc hB ‹_› h
 · exact ok_box hB ‹_› h
 · exact ok_build hB ‹_› h
 · exact ok_buildSlice hB ‹_› h
 · exact ok_load hB ‹_› h
 · exact ok_store hB ‹_› h
 · exact ok_nilCheck hB ‹_› h
 · exact ok_binOp hB ‹_› h
 · exact ok_unOp hB ‹_› h
 · exact ok_convert hB ‹_› h
 · exact ok_slicetoarray hB ‹_› h
 · exact ok_makeInterface hB ‹_› h
 · exact ok_makeFunc hB ‹_› h
 · exact ok_makeMap hB ‹_› h
 · exact ok_makeSlice hB ‹_› h
 · exact ok_slice hB ‹_› h
 · exact ok_fieldAddr hB ‹_› h
 · exact ok_field hB ‹_› h
 · exact ok_indexAddr hB ‹_› h
 · exact ok_index hB ‹_› h
 · exact ok_lookup hB ‹_› h
 · exact ok_mapUpdate hB (.inl ‹_›) h
 · exact ok_mapUpdate hB (.inr ‹_›) h
 · exact ok_range hB ‹_› h
 · exact ok_next hB ‹_› h
 · exact ok_entry hB ‹_› h
 · exact ok_typeAssert hB ‹_› h
 · exact ok_extract hB ‹_› h
 · exact ok_builtin hB ‹_› h
 · cases h
end

def Ex.to : Ex → Exit
 | .normal => .normal
 | .exit id => .exit id
 | .goto l => .goto l
 | .ret => .ret
def fence (φ : Vl) : Option Nat → Fence
 | none => Fence.wide
 | some l => Fence.wide.inRound (φ.loc l)
theorem fence_fn (φ : Vl) (ro : Option Nat) (f : FuncId) : (fence φ ro).fn f := by cases ro <;> trivial
theorem fence_depth (φ : Vl) (ro : Option Nat) : (fence φ ro).depth = none := by cases ro <;> rfl
structure SRel (P : Program) (p : Nat → Prop) (φ : Vl) (st : St) (a : Act) (w : World) : Prop where
 base : Base P p φ st.n (hget st.H) w st.fr a
 size : a.tmps.size = st.sz
 defs : a.defers = st.marks.map fun k => { target := .collected (φ.loc k), args := #[] }
 marks : ∀ k ∈ st.marks, p k
theorem Base.mono {P : Program} {p q : Nat → Prop} {φ : Vl} {n : Nat} {M : Mp} {w : World} {fr : Fr} {a : Act} (h : Base P p φ n M w fr a) (hpq : ∀ k, p k → q k) (hq : ∀ k, q k → k < n) : Base P q φ n M w fr a :=
 ⟨h.rel, hq, fun g hg => hpq g (h.gl g hg), h.gn, h.sm.mono hpq, h.ar, fun t v hv => sc_mono hpq _ (h.sf t v hv)⟩
theorem SRel.mono {P : Program} {p q : Nat → Prop} {φ : Vl} {st : St} {a : Act} {w : World} (h : SRel P p φ st a w) (hpq : ∀ k, p k → q k) (hq : ∀ k, q k → k < st.n) : SRel P q φ st a w :=
 ⟨h.base.mono hpq hq, h.size, h.defs, fun k hk => hpq k (h.marks k hk)⟩
def Post (P : Program) (p : Nat → Prop) (φ : Vl) (n : Nat) (M : Mp) (w : World) (e : Ex) (st' : St) (e2 : Exit) (a' : Act) (w' : World) : Prop :=
 e2 = e.to ∧ ∃ φ', SRel P (Nx p n st'.n) φ' st' a' w' ∧ Step P φ n M w φ' st'.n (hget st'.H) w'
theorem Post.trans {P : Program} {p : Nat → Prop} {φ φ1 : Vl} {n n1 : Nat} {M M1 : Mp} {w w1 : World} {e : Ex} {st' : St} {e2 : Exit} {a' : Act} {w' : World}
   (hp : ∀ k, p k → k < n) (hs : Step P φ n M w φ1 n1 M1 w1) (h : Post P (Nx p n n1) φ1 n1 M1 w1 e st' e2 a' w') : Post P p φ n M w e st' e2 a' w' := by
 obtain ⟨he, φ', hr, hst⟩ := h
 refine ⟨he, φ', hr.mono (fun k hk => Nx.trans hs.le hst.le hk) (fun k hk => Nx.lt hp (Nat.le_trans hs.le hst.le) hk), hs.trans hst⟩
theorem Post.weaken {P : Program} {p q : Nat → Prop} {φ : Vl} {n : Nat} {M : Mp} {w : World} {e : Ex} {st' : St} {e2 : Exit} {a' : Act} {w' : World}
   (hpq : ∀ k, p k → q k) (hq : ∀ k, q k → k < n) (h : Post P p φ n M w e st' e2 a' w') : Post P q φ n M w e st' e2 a' w' := by
 obtain ⟨he, φ', hr, hst⟩ := h
 exact ⟨he, φ', hr.mono (fun k hk => hk.imp (hpq k) id) (fun k hk => Nx.lt hq hst.le hk), hst⟩
def AT (P : Program) (ro : Option Nat) (c : Code) (st : St) (e : Ex) (st' : St) : Prop :=
 ∀ p φ a w, SRel P p φ st a w → (∀ l, ro = some l → p l) → c.wpIn (fence φ ro) 0 P (Post P p φ st.n (hget st.H) w e st') a w
theorem fence_step {P : Program} {p : Nat → Prop} {φ φ' : Vl} {n n' : Nat} {M M' : Mp} {w w' : World} {ro : Option Nat} (hs : Step P φ n M w φ' n' M' w') (hp : ∀ k, p k → k < n) (hl : ∀ l, ro = some l → p l) : fence φ' ro = fence φ ro := by
 cases ro with
 | none => rfl
 | some l => simp only [fence]; rw [(hs.only l (.inl (hp l (hl l rfl)))).1]

section
variable {P : Program} {ro : Option Nat} {st st' : St} {e : Ex}
theorem AT.skip : AT P ro .skip st .normal st := fun _p φ _a _w h _ =>
 wpIn_skip ⟨rfl, φ, h.mono (fun _ h => .inl h) (fun _k hk => Nx.lt h.base.lt (Nat.le_refl _) hk), Step.refl h.base.rel⟩
theorem Post.refl {p : Nat → Prop} {φ : Vl} {a : Act} {w : World} (h : SRel P p φ st a w) : Post P p φ st.n (hget st.H) w e st e.to a w :=
 ⟨rfl, φ, h.mono (fun _ h => .inl h) (fun _k hk => Nx.lt h.base.lt (Nat.le_refl _) hk), Step.refl h.base.rel⟩
theorem AT.label {l : Nat} : AT P ro (.label l) st .normal st := fun _ _ _ _ h _ => wpIn_label (Post.refl (e := .normal) h)
theorem AT.ret : AT P ro .ret st .ret st := fun _ _ _ _ h _ => wpIn_ret (Post.refl (e := .ret) h)
theorem AT.exit {id : Nat} : AT P ro (.exit id) st (.exit id) st := fun _ _ _ _ h _ => wpIn_exit (Post.refl (e := .exit id) h)
theorem AT.goto {l : Nat} : AT P ro (.goto l) st (.goto l) st := fun _ _ _ _ h _ => wpIn_goto (Post.refl (e := .goto l) h)
theorem AT.then {b : Code} {st1 : St} (hb : AT P ro b st1 e st') {p : Nat → Prop} {φ : Vl} {n : Nat} {M : Mp} {w : World} (hp : ∀ k, p k → k < n) (hl : ∀ l, ro = some l → p l) {e2 : Exit} {a1 : Act} {w1 : World} (h : Post P p φ n M w .normal st1 e2 a1 w1) :
   b.wpIn (fence φ ro) 0 P (Post P p φ n M w e st') a1 w1 := by
 obtain ⟨_, φ1, hr, hs⟩ := h
 have := hb _ φ1 a1 w1 hr (fun l h => .inl (hl l h))
 rw [fence_step hs hp hl] at this
 exact wpIn_mono this fun _ _ _ hh => Post.trans hp hs hh
theorem AT.seq {x y : Code} {st1 : St} (hx : AT P ro x st .normal st1) (hy : AT P ro y st1 e st') : AT P ro (.seq x y) st e st' := fun p φ a w h hl =>
 wpIn_seq (wpIn_mono (hx p φ a w h hl) fun e2 a1 w1 hh => by
   have he := hh.1
   subst he
   exact hy.then h.base.lt hl hh)
theorem AT.seq_out {x y : Code} (he : e ≠ .normal) (hx : AT P ro x st e st') : AT P ro (.seq x y) st e st' := fun p φ a w h hl =>
 wpIn_seq (wpIn_mono (hx p φ a w h hl) fun e2 a1 w1 hh => by
   have he' := hh.1
   subst he'
   cases e <;> first | exact absurd rfl he | exact hh)
theorem AT.cond {c : Operand} {x y : Code} {t : Bool} (hc : evO P st.fr c = some (.bool t)) (h : AT P ro (if t then x else y) st e st') : AT P ro (.cond c x y) st e st' := fun p φ a w hs hl =>
 wpIn_cond (t := t) (by rw [(hs.base.evO hc).1, den]) (h p φ a w hs hl)
theorem AT.block_exit {id : Nat} {b : Code} (h : AT P ro b st (.exit id) st') : AT P ro (.block id b) st .normal st' := fun p φ a w hs hl =>
 wpIn_block (wpIn_mono (h p φ a w hs hl) fun e2 a1 w1 hh => by
   have he := hh.1
   subst he
   simp only [Ex.to, Exit.inBlock, if_true]
   exact ⟨rfl, hh.2⟩)
theorem AT.block {id : Nat} {b : Code} (he : e ≠ .exit id) (h : AT P ro b st e st') : AT P ro (.block id b) st e st' := fun p φ a w hs hl =>
 wpIn_block (wpIn_mono (h p φ a w hs hl) fun e2 a1 w1 hh => by
   have he' := hh.1
   subst he'
   cases e with
   | exit id' =>
     have : id' ≠ id := fun h => he (by rw [h])
     simp only [Ex.to, Exit.inBlock, this, if_false]
     exact hh
   | _ => exact hh)
theorem AT.scope {b : Code} (he : ∀ l, e ≠ .goto l) (h : AT P none b st e st') : AT P none (.scope b) st e st' := fun p φ a w hs hl =>
 wpIn_wide.2 (wp_scope_straight (wpIn_wide.1 (wpIn_mono (h p φ a w hs hl) fun e2 a1 w1 hh => by
   have he' := hh.1
   subst he'
   cases e with
   | goto l => exact absurd rfl (he l)
   | _ => exact hh)))
end

/-! ### loops -/
def LoopN (F : Fence) (n : Nat) (P : Program) (c : Code) (Q : Exit → Act → World → Prop) : Nat → Act → World → Prop
 | 0, _, _ => False
 | k + 1, a, w => c.wpIn F n P (Exit.then (LoopN F n P c Q k) Q) a w
theorem exists_least {p : Nat → Prop} (h : ∃ k, p k) : ∃ k, p k ∧ ∀ j, p j → k ≤ j := by
 obtain ⟨k, hk⟩ := h
 induction k using Nat.strongRecOn with
 | _ k ih =>
   by_cases hj : ∃ j, j < k ∧ p j
   · obtain ⟨j, hlt, hp⟩ := hj; exact ih j hlt hp
   · exact ⟨k, hk, fun j hp => Nat.le_of_not_lt fun hlt => hj ⟨j, hlt, hp⟩⟩
open Classical in
noncomputable def least (p : Nat → Prop) : Nat := if h : ∃ k, p k then Classical.choose (exists_least h) else 0
theorem least_spec {p : Nat → Prop} {k : Nat} (h : p k) : p (least p) ∧ least p ≤ k := by
 have hk : ∃ k, p k := ⟨k, h⟩
 unfold least
 rw [dif_pos hk]
 exact ⟨(Classical.choose_spec (exists_least hk)).1, (Classical.choose_spec (exists_least hk)).2 k h⟩
theorem LoopN.wpIn {F : Fence} {n : Nat} {P : Program} {c : Code} {Q : Exit → Act → World → Prop} {k : Nat} {a : Act} {w : World} (h : LoopN F n P c Q k a w) : (Code.loop c).wpIn F n P Q a w :=
 wpIn_loop (fun a w => ∃ k, LoopN F n P c Q k a w) (fun a w => least fun k => LoopN F n P c Q k a w) ⟨k, h⟩ fun a w hI => by
   obtain ⟨j, hj⟩ := hI
   have hl := (least_spec (p := fun k => LoopN F n P c Q k a w) hj).1
   generalize (least fun k => LoopN F n P c Q k a w) = m at hl
   cases m with
   | zero => exact hl.elim
   | succ m =>
     refine wpIn_mono hl fun e2 a1 w1 hh => ?_
     cases e2 with
     | normal =>
       have hh : LoopN F n P c Q m a1 w1 := hh
       exact ⟨⟨m, hh⟩, Nat.lt_succ_of_le (least_spec (p := fun k => LoopN F n P c Q k a1 w1) hh).2⟩
     | _ => exact hh

/-! ### slots that are let go -/
theorem lk_filterMap (fr : Fr) : ∀ (vars : List Nat) (t : Nat) (v : Value), lk (vars.filterMap fun t => (lk fr t).map fun v => (t, v)) t = some v → lk fr t = some v
 | [], t, v, h => by simp [lk] at h
 | x :: xs, t, v, h => by
   rw [List.filterMap_cons] at h
   cases hx : lk fr x with
   | none => rw [hx] at h; exact lk_filterMap fr xs t v h
   | some u =>
     rw [hx] at h
     simp only [Option.map_some, lk_cons] at h
     by_cases hxt : x = t
     · rw [if_pos hxt] at h; rw [← hxt, hx]; exact h
     · rw [if_neg hxt] at h; exact lk_filterMap fr xs t v h
theorem SRel.fr {P : Program} {p : Nat → Prop} {φ : Vl} {st : St} {a : Act} {w : World} (h : SRel P p φ st a w) {fr : Fr} (hf : ∀ t v, lk fr t = some v → lk st.fr t = some v) : SRel P p φ { st with fr } a w :=
 ⟨⟨h.base.rel, h.base.lt, h.base.gl, h.base.gn, h.base.sm, fun t v hv => h.base.ar t v (hf t v hv), fun t v hv => h.base.sf t v (hf t v hv)⟩, h.size, h.defs, h.marks⟩
theorem SRel.trim {P : Program} {p : Nat → Prop} {φ : Vl} {st : St} {a : Act} {w : World} (h : SRel P p φ st a w) : SRel P p φ { st with fr := Ab.trim st.vs st.fr } a w :=
 h.fr fun t v hv => lk_filterMap st.fr st.vs t v hv

def Dn (P : Program) (p : Nat → Prop) (φ : Vl) (n : Nat) (M : Mp) (w : World) (v : Value) (n' : Nat) (M' : Mp) (φ' : Vl) (w' : World) : Prop :=
 SM (Nx p n n') M' ∧ sc (Nx p n n') v ∧ Step P φ n M w φ' n' M' w'
def act0 : Act := { tmps := #[], defers := [] }
def AC (P : Program) (f : FuncId) (args : List Value) (H : Heap) (n : Nat) (v : Value) (H' : Heap) (n' : Nat) : Prop :=
 ∀ p φ w, Base P p φ n (hget H) w [] act0 → scL p args →
   ((callFunc f (denL φ args).toArray).run P w = .ok (.enter f (denL φ args).toArray) w ∧
     CallsIn Fence.wide 0 P f (denL φ args).toArray w fun e w' => ∃ φ', e = .returned (den φ' v) ∧ Dn P p φ n (hget H) w v n' (hget H') φ' w') ∨
   ∃ φ' w', (callFunc f (denL φ args).toArray).run P w = .ok (.value (den φ' v)) w' ∧ Dn P p φ n (hget H) w v n' (hget H') φ' w'
structure RecOk (P : Program) (r : Rec) (m : Nat) : Prop where
 code : ∀ ro c st e st', r.code ro c st = some (e, st') → AT P ro c st e st'
 loop : ∀ ro b st e st', r.code ro (.loop b) st = some (e, st') → ∀ p φ a w, SRel P p φ st a w → (∀ l, ro = some l → p l) →
   ∀ Q : Exit → Act → World → Prop, (∀ e2 a' w', Post P p φ st.n (hget st.H) w e st' e2 a' w' → Q e2 a' w') → LoopN (fence φ ro) 0 P b Q m a w
 call : ∀ f args H n v H' n', r.call f args H n = some (v, H', n') → AC P f args H n v H' n'
theorem Base.bare {P : Program} {p : Nat → Prop} {φ : Vl} {n : Nat} {M : Mp} {w : World} {fr : Fr} {a a' : Act} (h : Base P p φ n M w fr a) : Base P p φ n M w [] a' :=
 ⟨h.rel, h.lt, h.gl, h.gn, h.sm, fun t v hv => by simp [lk] at hv, fun t v hv => by simp [lk] at hv⟩
theorem callsIn_fence {P : Program} {φ : Vl} {ro : Option Nat} {f : FuncId} {args : Array Value} {w : World} {R : Ending → World → Prop} (h : CallsIn Fence.wide 0 P f args w R) : CallsIn (fence φ ro) 0 P f args w R := by
 cases ro <;> exact h
theorem roundIn_fence {P : Program} {φ : Vl} {ro : Option Nat} {l : Nat} {f : FuncId} {tmps : Array Value} {x y : Code} {w : World} {R : Ending → World → Prop} (h : RoundIn Fence.wide 0 P l f tmps x y w R) : RoundIn (fence φ ro) 0 P l f tmps x y w R := by
 cases ro <;> exact h

/-! ### a round's slots -/
theorem fr_fold {φ : Vl} {sz : Nat} : ∀ (l : List (Nat × Value)) (fr : Fr) (tmps : Array Value), FRel φ fr sz tmps → (∀ x ∈ l, x.1 < sz) →
   FRel φ (l.foldl (fun fr (t, v) => (t, v) :: fr) fr) sz ((l.map (denP φ)).foldl (fun tmps (t, a) => tmps.setIfInBounds t a) tmps)
 | [], _, _, h, _ => h
 | (t, v) :: l, fr, tmps, h, hl => by
   simp only [List.foldl_cons, List.map_cons, denP]
   refine fr_fold l _ _ ⟨by simp [h.1], fun i u hu => ?_⟩ fun x hx => hl x (List.mem_cons_of_mem _ hx)
   rw [lk_cons] at hu
   have ht := hl (t, v) (List.mem_cons_self ..)
   by_cases hti : t = i
   · rw [if_pos hti] at hu
     injection hu with hu
     subst hu hti
     have ht : t < tmps.size := by rw [h.1]; exact ht
     simp [ht]
   · rw [if_neg hti] at hu
     rw [Array.getElem?_setIfInBounds_ne hti]
     exact h.2 i u hu
theorem sf_fold {p : Nat → Prop} : ∀ (l : List (Nat × Value)) (fr : Fr), SF p fr → (∀ x ∈ l, sc p x.2) → SF p (l.foldl (fun fr (t, v) => (t, v) :: fr) fr)
 | [], _, h, _ => h
 | (t, v) :: l, fr, h, hl => by
   simp only [List.foldl_cons]
   refine sf_fold l _ (fun i u hu => ?_) fun x hx => hl x (List.mem_cons_of_mem _ hx)
   rw [lk_cons] at hu
   by_cases hti : t = i
   · rw [if_pos hti] at hu; injection hu with hu; subst hu; exact hl (t, v) (List.mem_cons_self ..)
   · rw [if_neg hti] at hu; exact h i u hu
theorem zip_den (φ : Vl) (ps : Array Tmp) (args : List Value) (tmps : Array Value) : (ps.zip (denL φ args).toArray).foldl (fun tmps (t, a) => tmps.setIfInBounds t a) tmps = ((ps.toList.zip args).map (denP φ)).foldl (fun tmps (t, a) => tmps.setIfInBounds t a) tmps := by
 rw [← Array.foldl_toList, Array.toList_zip]
 congr 1
 rw [denL_eq, List.zip_map_right]
 rfl

/-! ### a step's end, an operation's -/
section
variable {P : Program} {p : Nat → Prop} {φ : Vl} {w : World} {a : Act} {o : Oper} {v : Value} {H' : Heap} {n' : Nat} {r : Rec} {m : Nat} {st : St}
theorem opA_defer {fr : Fr} {H : Heap} {n : Nat} {x : Value × Heap × Nat} (h : opA P o fr H n = some x) : ∀ c, o.op ≠ .defer c := by
 intro c hc
 unfold opA at h
 rw [hc] at h
 cases h
theorem opA_wp (hB : Base P p φ st.n (hget st.H) w st.fr a) (h : opA P o st.fr st.H st.n = some (v, H', n')) (ψ : Vl) (ro : Option Nat) {next : Act → World → Prop} {Q : Exit → Act → World → Prop}
   (hn : ∀ φ' w', Dn P p φ st.n (hget st.H) w v n' (hget H') φ' w' → next (a.put o.dst (den φ' v)) w') : o.wpIn (fence ψ ro) 0 P a w next Q := by
 obtain ⟨h1, h2, φ', w', hr, hs⟩ := opA_ok hB h
 refine ⟨fun f _ => fence_fn _ _ f, ?_⟩
 rw [Oper.semAt_eq _ _ _ (opA_defer h)]
 rcases hr with hr | ⟨hr, hv⟩
 · rw [hr, Oper.uponIn_value]
   exact hn φ' w' ⟨h1, h2, hs⟩
 · rw [hr, Oper.uponIn_skip]
   have := hn φ' w' ⟨h1, h2, hs⟩
   rw [hv, den_undef] at this
   exact this
theorem isVCall_spec {op : Op} {f : Operand} {args : Array Operand} (h : isVCall op = some (f, args)) : ∃ c, op = .call c ∧ c.callee = .value f ∧ c.args = args := by
 unfold isVCall at h
 split at h
 · rename_i c
   split at h
   · rename_i g hg
     injection h with h
     injection h with h1 h2
     subst h1 h2
     exact ⟨c, rfl, hg, rfl⟩
   · cases h
 · cases h
theorem run_vcall {ρ : Operand → Value} {c : Call} {f : Operand} (ho : o.op = .call c) (hc : c.callee = .value f) {fn : Fn} {first captured : Array Value} (hf : ρ f = .func fn first captured) (w : World) :
   (execOp ρ o).run P w = (invoke (.fn fn captured) (first ++ c.args.map ρ)).run P w := by
 simp [execOp, ho, resolve, hc, Deferred.ofValue, hf]
end
end Go.Ab
