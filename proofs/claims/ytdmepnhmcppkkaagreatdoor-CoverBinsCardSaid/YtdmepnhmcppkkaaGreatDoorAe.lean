/-
Regions whose order is open: the evaluator is sound where its own look at the region lets it.
-/
import Derived.Test.YtdmepnhmcppkkaaGreatDoorAd
namespace Go.Ab
section
open Go
open Classical in
noncomputable def mixM (T : Nat → Prop) (M' M : Mp) : Mp := fun k => if T k then M' k else M k
theorem mixM_pos {T : Nat → Prop} {M' M : Mp} {k : Nat} (h : T k) : mixM T M' M k = M' k := by simp [mixM, h]
theorem mixM_neg {T : Nat → Prop} {M' M : Mp} {k : Nat} (h : ¬ T k) : mixM T M' M k = M k := by simp [mixM, h]
theorem Step.frame {P : Program} {φ φ' : Vl} {lo hi : Nat} {M Mh M' : Mp} {w w' : World} {T : Nat → Prop} (hr : HRel P φ M w) (hs : Step P φ lo Mh w φ' hi M' w')
   (hout : ∀ k b, M k = some b → (k < lo ∨ hi ≤ k) ∧ scB (fun j => j < lo ∨ hi ≤ j) b)
   (h0 : ∀ k b, Mh k = some b → ∃ b0, M k = some b0)
   (h1 : ∀ k b, Mh k = some b → b.own = true → T k ∧ M k = some b)
   (h2 : ∀ k b, T k → Mh k = some b → M k = some b) :
   Step P φ lo M w φ' hi (mixM (fun k => T k ∨ (lo ≤ k ∧ k < hi)) M' M) w' := by
 have hag : Agr (fun j => j < lo ∨ hi ≤ j) φ φ' := fun k hk => hs.only k hk
 have hcase : ∀ k b, mixM (fun k => T k ∨ (lo ≤ k ∧ k < hi)) M' M k = some b → ((T k ∨ (lo ≤ k ∧ k < hi)) ∧ M' k = some b) ∨ (¬ T k ∧ M k = some b ∧ φ'.loc k = φ.loc k ∧ w'.heap[φ.loc k]? = w.heap[φ.loc k]?) := by
   intro k b hk
   by_cases ht : T k ∨ (lo ≤ k ∧ k < hi)
   · rw [mixM_pos (T := fun k => T k ∨ (lo ≤ k ∧ k < hi)) ht] at hk; exact .inl ⟨ht, hk⟩
   · rw [mixM_neg (T := fun k => T k ∨ (lo ≤ k ∧ k < hi)) ht] at hk
     have hnt : ¬ T k := fun h => ht (.inl h)
     refine .inr ⟨hnt, hk, (hag k (hout k b hk).1).1, hs.frm.keep _ (hr.lt hk) fun k' x hx ho => ?_⟩
     obtain ⟨ht', hm⟩ := h1 k' x hx ho
     exact hr.apart k' x k b hm hk (fun e => hnt (e ▸ ht')) ho
 have hnew : ∀ k b, (T k ∨ (lo ≤ k ∧ k < hi)) → M' k = some b → b.own = true → w.heap.size ≤ φ'.loc k ∨ ∃ k0 b0, M k0 = some b0 ∧ b0.own = true ∧ T k0 ∧ φ.loc k0 = φ'.loc k := by
   intro k b _ hk ho
   rcases hs.new k b hk ho with h | ⟨k0, b0, hk0, ho0, he⟩
   · exact .inl h
   · obtain ⟨ht0, hm0⟩ := h1 k0 b0 hk0 ho0
     exact .inr ⟨k0, b0, hm0, ho0, ht0, he⟩
 have hinp : ∀ k b, (T k ∨ (lo ≤ k ∧ k < hi)) → M' k = some b → b.own = false → T k ∧ M k = some b ∧ φ'.loc k = φ.loc k := by
   intro k b ht hk ho
   have hh := hs.inp k b hk ho
   obtain ⟨b0, hb0⟩ := h0 k b hh
   have hq := (hout k b0 hb0).1
   have ht' : T k := ht.resolve_right (by omega)
   exact ⟨ht', h2 k b ht' hh, (hag k hq).1⟩
 refine ⟨hs.le, hs.only, ⟨fun k b hk => ?_, fun k b k' b' hk hk' hne ho => ?_, hs.rel.glob⟩, fun k b hk ho => ?_, fun k b hk ho => ?_,
   ⟨hs.frm.os, hs.frm.tape, hs.frm.output, hs.frm.size, fun b hb hf => hs.frm.keep b hb fun k x hx ho => hf k x (h1 k x hx ho).2 ho⟩⟩
 · rcases hcase k b hk with ⟨_, hk⟩ | ⟨_, hk, hl, hw⟩
   · exact hs.rel.blk k b hk
   · rw [hl, hw]
     exact (hr.blk k b hk).congr hag (hout k b hk).1 (hout k b hk).2
 · rcases hcase k b hk with ⟨ht, hk⟩ | ⟨ht, hk, hl, _⟩
   · rcases hcase k' b' hk' with ⟨ht', hk'⟩ | ⟨ht', hk', hl', _⟩
     · exact hs.rel.apart k b k' b' hk hk' hne ho
     · rw [hl']
       have hlt := hr.lt hk'
       rcases hnew k b ht hk ho with h | ⟨k0, b0, hm0, ho0, ht0, he⟩
       · omega
       · rw [← he]
         exact hr.apart k0 b0 k' b' hm0 hk' (fun e => ht' (e ▸ ht0)) ho0
   · rw [hl]
     have hlt := hr.lt hk
     rcases hcase k' b' hk' with ⟨ht', hk'⟩ | ⟨ht', hk', hl', _⟩
     · cases ho' : b'.own with
       | true =>
         rcases hnew k' b' ht' hk' ho' with h | ⟨k0, b0, hm0, ho0, ht0, he⟩
         · omega
         · rw [← he]
           exact hr.apart k b k0 b0 hk hm0 (fun e => ht (e ▸ ht0)) ho
       | false =>
         obtain ⟨_, hm, hl'⟩ := hinp k' b' ht' hk' ho'
         rw [hl']
         exact hr.apart k b k' b' hk hm hne ho
     · rw [hl']
       exact hr.apart k b k' b' hk hk' hne ho
 · rcases hcase k b hk with ⟨ht, hk⟩ | ⟨_, hk, hl, _⟩
   · exact (hnew k b ht hk ho).imp id fun ⟨k0, b0, hm, ho0, _, he⟩ => ⟨k0, b0, hm, ho0, he⟩
   · exact .inr ⟨k, b, hk, ho, hl.symm⟩
 · rcases hcase k b hk with ⟨ht, hk⟩ | ⟨_, hk, _, _⟩
   · exact (hinp k b ht hk ho).2.1
   · exact hk
theorem Step.into {P : Program} {φ φ1 φ2 : Vl} {n n1 lo hi : Nat} {M M1 M2 : Mp} {w w1 w2 : World} (h1 : Step P φ n M w φ1 n1 M1 w1) (h2 : Step P φ1 lo M1 w1 φ2 hi M2 w2) (hlo : n ≤ lo) (hhi : hi ≤ n1) : Step P φ n M w φ2 n1 M2 w2 := by
 refine ⟨h1.le, fun k hk => ?_, h2.rel, fun k b hb ho => ?_, fun k b hb ho => h1.inp k b (h2.inp k b hb ho) ho, ?_⟩
 · have a := h1.only k hk
   have b := h2.only k (by omega)
   exact ⟨b.1.trans a.1, b.2.trans a.2⟩
 · rcases h2.new k b hb ho with h | ⟨k0, b0, hk0, ho0, he⟩
   · exact .inl (Nat.le_trans h1.frm.size h)
   · rcases h1.new k0 b0 hk0 ho0 with h | ⟨k1, b1, hk1, ho1, he1⟩
     · exact .inl (he ▸ h)
     · exact .inr ⟨k1, b1, hk1, ho1, he1.trans he⟩
 · refine ⟨h2.frm.os.trans h1.frm.os, h2.frm.tape.trans h1.frm.tape, h2.frm.output.trans h1.frm.output, Nat.le_trans h1.frm.size h2.frm.size, fun b hb hk => ?_⟩
   rw [h2.frm.keep b (Nat.lt_of_lt_of_le hb h1.frm.size) (fun k x hx ho => ?_)]
   · exact h1.frm.keep b hb hk
   · rcases h1.new k x hx ho with h | ⟨k0, b0, hk0, ho0, he⟩
     · omega
     · exact he ▸ hk k0 b0 hk0 ho0

/-! ### what a set of operations has left -/
section fold
variable {β : Type}
open Classical in
noncomputable def foldD (T : Nat → Nat → Prop) (out : Nat → Nat → β) (init : Nat → β) (D : Nat → Prop) : Nat → Nat → β
 | 0 => init
 | i + 1 => fun k => if D i ∧ T i k then out i k else foldD T out init D i k
variable {T : Nat → Nat → Prop} {out : Nat → Nat → β} {init : Nat → β} {D D' : Nat → Prop}
theorem foldD_pos {i k : Nat} (h : D i ∧ T i k) : foldD T out init D (i + 1) k = out i k := by simp [foldD, h]
theorem foldD_neg {i k : Nat} (h : ¬ (D i ∧ T i k)) : foldD T out init D (i + 1) k = foldD T out init D i k := by rw [foldD]; simp [h]
theorem foldD_congr : ∀ {i k : Nat}, (∀ j, j < i → T j k → (D j ↔ D' j)) → foldD T out init D i k = foldD T out init D' i k
 | 0, _, _ => rfl
 | i + 1, k, h => by
   have ih := foldD_congr (i := i) (k := k) fun j hj => h j (by omega)
   have hi := h i (by omega)
   by_cases hd : D i ∧ T i k
   · rw [foldD_pos hd, foldD_pos ⟨(hi hd.2).1 hd.1, hd.2⟩]
   · rw [foldD_neg hd, foldD_neg (fun h' => hd ⟨(hi h'.2).2 h'.1, h'.2⟩), ih]
theorem foldD_skip : ∀ {i i' k : Nat}, i' ≤ i → (∀ j, i' ≤ j → j < i → ¬ (D j ∧ T j k)) → foldD T out init D i k = foldD T out init D i' k
 | 0, i', k, hle, _ => by rw [Nat.le_zero.1 hle]
 | i + 1, i', k, hle, h => by
   by_cases he : i' = i + 1
   · rw [he]
   · rw [foldD_neg (h i (by omega) (by omega)), foldD_skip (by omega) fun j h1 h2 => h j h1 (by omega)]
theorem foldD_add {N i k : Nat} (hi : i < N) (hD' : ∀ j, D' j ↔ D j ∨ j = i) (hlast : T i k → ∀ j, D j → i < j → j < N → ¬ T j k) :
   (T i k → foldD T out init D' N k = out i k) ∧ (¬ T i k → foldD T out init D' N k = foldD T out init D N k) := by
 constructor
 · intro ht
   rw [foldD_skip (i' := i + 1) (by omega) (fun j h1 h2 h => hlast ht j (((hD' j).1 h.1).resolve_right (by omega)) (by omega) h2 h.2), foldD_pos ⟨(hD' i).2 (.inr rfl), ht⟩]
 · intro ht
   refine foldD_congr fun j _ hj => ?_
   rw [hD']
   exact ⟨fun h => h.resolve_right fun e => ht (e ▸ hj), .inl⟩
theorem foldD_cases : ∀ {N k : Nat}, (foldD T out init D N k = init k ∧ ∀ j, j < N → D j → ¬ T j k) ∨ ∃ j, j < N ∧ D j ∧ T j k ∧ foldD T out init D N k = out j k
 | 0, _ => .inl ⟨rfl, fun j hj => by omega⟩
 | N + 1, k => by
   by_cases h : D N ∧ T N k
   · exact .inr ⟨N, by omega, h.1, h.2, foldD_pos h⟩
   · rw [foldD_neg h]
     rcases foldD_cases (N := N) (k := k) with ⟨h1, h2⟩ | ⟨j, hj, h1, h2, h3⟩
     · refine .inl ⟨h1, fun j hj hd ht => ?_⟩
       by_cases he : j = N
       · exact h ⟨he ▸ hd, he ▸ ht⟩
       · exact h2 j (by omega) hd ht
     · exact .inr ⟨j, by omega, h1, h2, h3⟩
end fold
end
section
open Go

theorem testBit_edges {b : Edge → Bool} {g : Edge → Nat} (j : Nat) : ∀ (l : List Edge) (s : Nat), (l.foldl (fun s e => if b e = true then s ||| 2 ^ e.on ||| g e else s) s).testBit j = (s.testBit j || l.any fun e => b e && (decide (e.on = j) || (g e).testBit j))
 | [], s => by simp
 | e :: l, s => by
   rw [List.foldl_cons, testBit_edges j l]
   cases hb : b e
   · simp [hb]
   · simp [hb, Nat.testBit_or, Nat.testBit_two_pow, Bool.or_assoc]
def stepB (acc : Array Nat) (o : Oper) : Array Nat := acc.push (o.after.foldl (fun s e => if Region.binds .any e then s ||| 2 ^ e.on ||| acc.getD e.on 0 else s) 0)
def bL (l : List Oper) : Array Nat := l.foldl stepB #[]
theorem before_bL (ops : Array Oper) : Region.before ops = bL ops.toList := by
 unfold Region.before bL
 rw [← Array.foldl_toList]
 rfl
theorem bL_snoc (l : List Oper) (o : Oper) : bL (l ++ [o]) = stepB (bL l) o := by simp [bL]
theorem foldl_size : ∀ (m : List Oper) (acc : Array Nat), (m.foldl stepB acc).size = acc.size + m.length
 | [], acc => rfl
 | o :: m, acc => by rw [List.foldl_cons, foldl_size m]; simp [stepB]; omega
theorem bL_size (l : List Oper) : (bL l).size = l.length := by unfold bL; rw [foldl_size]; simp
theorem foldl_prefix : ∀ (m : List Oper) (acc : Array Nat) (k : Nat), k < acc.size → (m.foldl stepB acc).getD k 0 = acc.getD k 0
 | [], _, _, _ => rfl
 | o :: m, acc, k, hk => by
   rw [List.foldl_cons, foldl_prefix m _ k (by simp [stepB]; omega)]
   simp [stepB, Array.getElem?_push, show k ≠ acc.size by omega]
theorem bL_prefix (l m : List Oper) (k : Nat) (hk : k < l.length) : (bL (l ++ m)).getD k 0 = (bL l).getD k 0 := by
 unfold bL
 rw [List.foldl_append]
 exact foldl_prefix m _ k (by rw [← bL, bL_size]; exact hk)
def Edges (ops : Array Oper) : Prop := ∀ i o, ops[i]? = some o → ∀ e ∈ o.after, Region.binds .any e = true → e.on < i
theorem edgesOk_spec : ∀ (l : List Oper) (i : Nat), edgesOk l i = true → ∀ j o, l[j]? = some o → ∀ e ∈ o.after, Region.binds .any e = true → e.on < i + j
 | [], i, _, j, o, h => by simp at h
 | x :: l, i, h, j, o, ho => by
   unfold edgesOk at h
   rw [Bool.and_eq_true] at h
   cases j with
   | zero =>
     simp only [List.getElem?_cons_zero, Option.some.injEq] at ho
     subst ho
     intro e he hb
     have := Array.all_eq_true_iff_forall_mem.1 h.1 e he
     rw [hb] at this
     simp only [Bool.not_true, Bool.false_or] at this
     exact (blt_iff _ _).1 this
   | succ j =>
     rw [List.getElem?_cons_succ] at ho
     intro e he hb
     have := edgesOk_spec l (i + 1) h.2 j o ho e he hb
     omega
theorem ahead_iff {ops : Array Oper} (hE : Edges ops) {i : Nat} {o : Oper} (ho : ops[i]? = some o) (j : Nat) :
   ahead (Region.before ops) j i = true ↔ ∃ e ∈ o.after, Region.binds .any e = true ∧ (e.on = j ∨ ahead (Region.before ops) j e.on = true) := by
 have hlt : i < ops.toList.length := by simpa using (Array.getElem?_eq_some_iff.1 ho).1
 obtain ⟨l1, l2, hsplit, hlen⟩ : ∃ l1 l2, ops.toList = l1 ++ (o :: l2) ∧ l1.length = i := by
   refine ⟨ops.toList.take i, ops.toList.drop (i + 1), ?_, by simp; simp at hlt; omega⟩
   have : ops.toList[i] = o := by simpa using (Array.getElem?_eq_some_iff.1 ho).2
   rw [← this, ← List.drop_eq_getElem_cons hlt, List.take_append_drop]
 have hb : (Region.before ops).getD i 0 = o.after.foldl (fun s e => if Region.binds .any e then s ||| 2 ^ e.on ||| (bL l1).getD e.on 0 else s) 0 := by
   rw [before_bL, hsplit, show (l1 ++ (o :: l2)) = ((l1 ++ [o]) ++ l2) by simp, bL_prefix _ _ i (by simp; omega), bL_snoc]
   have hs : (bL l1).size = i := by rw [bL_size, hlen]
   unfold stepB
   rw [Array.getD_eq_getD_getElem?, Array.getElem?_push, if_pos hs.symm]
   rfl
 have hp : ∀ k, k < i → (bL l1).getD k 0 = (Region.before ops).getD k 0 := fun k hk => by
   rw [before_bL, hsplit, bL_prefix _ _ k (by rw [hlen]; exact hk)]
 unfold ahead
 rw [hb, ← Array.foldl_toList, testBit_edges]
 simp only [Nat.zero_testBit, Bool.false_or, List.any_eq_true, Bool.and_eq_true, Bool.or_eq_true, decide_eq_true_eq]
 constructor
 · rintro ⟨e, he, hb, h⟩
   have he : e ∈ o.after := by simpa using he
   exact ⟨e, he, hb, h.imp id fun h => by rw [hp _ (hE i o ho e he hb)] at h; exact h⟩
 · rintro ⟨e, he, hb, h⟩
   exact ⟨e, by simpa using he, hb, h.imp id fun h => by rw [hp _ (hE i o ho e he hb)]; exact h⟩
theorem ahead_none {ops : Array Oper} {i j : Nat} (ho : ops[i]? = none) : ahead (Region.before ops) j i = false := by
 have h : ops.size ≤ i := Array.getElem?_eq_none_iff.1 ho
 have hs : (Region.before ops).size = ops.size := by rw [before_bL, bL_size]; simp
 unfold ahead
 rw [Array.getD_eq_getD_getElem?, Array.getElem?_eq_none (by omega)]
 simp
theorem ahead_lt {ops : Array Oper} (hE : Edges ops) : ∀ (i j : Nat), ahead (Region.before ops) j i = true → j < i := by
 intro i
 induction i using Nat.strongRecOn with
 | _ i ih =>
   intro j h
   cases ho : ops[i]? with
   | none => rw [ahead_none ho] at h; cases h
   | some o =>
     obtain ⟨e, he, hb, h⟩ := (ahead_iff hE ho j).1 h
     have hlt := hE i o ho e he hb
     rcases h with h | h
     · omega
     · have := ih e.on hlt j h; omega
theorem ahead_trans {ops : Array Oper} (hE : Edges ops) : ∀ (i j l : Nat), ahead (Region.before ops) l j = true → ahead (Region.before ops) j i = true → ahead (Region.before ops) l i = true := by
 intro i
 induction i using Nat.strongRecOn with
 | _ i ih =>
   intro j l h1 h2
   cases ho : ops[i]? with
   | none => rw [ahead_none ho] at h2; cases h2
   | some o =>
     obtain ⟨e, he, hb, h⟩ := (ahead_iff hE ho j).1 h2
     have hlt := hE i o ho e he hb
     refine (ahead_iff hE ho l).2 ⟨e, he, hb, .inr ?_⟩
     rcases h with h | h
     · rw [h]; exact h1
     · exact ih e.on hlt j l h1 h
def DoneB (listed : Array Bool) (j : Nat) : Prop := listed.getD j false = true
def Closed (ops : Array Oper) (D : Nat → Prop) : Prop := ∀ i j, D i → ahead (Region.before ops) j i = true → D j
theorem ready_spec {ops : Array Oper} (hE : Edges ops) {listed : Array Bool} (hs : listed.size = ops.size) (hc : Closed ops (DoneB listed)) {i : Nat} (hi : i ∈ Region.ready .any ops listed) :
   i < ops.size ∧ ¬ DoneB listed i ∧ ∀ j, ahead (Region.before ops) j i = true → DoneB listed j := by
 obtain ⟨h0, o, ho, hall⟩ := mem_ready.1 hi
 have hlt := (Array.getElem?_eq_some_iff.1 ho).1
 refine ⟨hlt, fun h => ?_, fun j hj => ?_⟩
 · unfold DoneB at h
   have hl : i < listed.size := by omega
   simp [hl] at h h0
   rw [h] at h0
   cases h0
 · obtain ⟨e, he, hb, h⟩ := (ahead_iff hE ho j).1 hj
   have := hall e he hb
   rcases h with h | h
   · rw [← h]; exact this
   · exact hc _ _ this h
theorem doneB_set {listed : Array Bool} {i : Nat} (hi : i < listed.size) (j : Nat) : DoneB (listed.setIfInBounds i true) j ↔ DoneB listed j ∨ j = i := by
 unfold DoneB
 by_cases hij : i = j
 · subst hij; simp [hi]
 · rw [getD_set_ne false hij]
   exact ⟨.inl, fun h => h.resolve_right fun e => hij e.symm⟩
theorem closed_set {ops : Array Oper} {listed : Array Bool} {i : Nat} (hi : i < listed.size) (hc : Closed ops (DoneB listed)) (ha : ∀ j, ahead (Region.before ops) j i = true → DoneB listed j) : Closed ops (DoneB (listed.setIfInBounds i true)) := by
 intro k j hk hj
 rw [doneB_set hi] at hk ⊢
 rcases hk with hk | rfl
 · exact .inl (hc k j hk hj)
 · exact .inl (ha j hj)
theorem ready_nil {ops : Array Oper} (hE : Edges ops) {listed : Array Bool} (hs : listed.size = ops.size) (h : Region.ready .any ops listed = []) : ∀ i, i < ops.size → DoneB listed i := by
 intro i
 induction i using Nat.strongRecOn with
 | _ i ih =>
   intro hi
   cases hd : listed.getD i false with
   | true => exact hd
   | false =>
     have ho : ops[i]? = some ops[i] := Array.getElem?_eq_getElem hi
     have : i ∈ Region.ready .any ops listed := mem_ready.2 ⟨by
       have hl : i < listed.size := by omega
       simp [hl] at hd ⊢
       exact hd, ops[i], ho, fun e he hb => ih e.on (hE i _ ho e he hb) (by have := hE i _ ho e he hb; omega)⟩
     rw [h] at this
     cases this
def undone (ops : Array Oper) (listed : Array Bool) : Nat := ((List.range ops.size).filter fun j => !listed.getD j false).length
theorem filter_lt {α : Type} {p q : α → Bool} : ∀ {l : List α} {x : α}, x ∈ l → p x = true → q x = false → (∀ y, q y = true → p y = true) → (l.filter q).length < (l.filter p).length
 | [], _, hx, _, _, _ => by cases hx
 | y :: l, x, hx, hp, hq, h => by
   have hle : (l.filter q).length ≤ (l.filter p).length := by
     clear hx
     induction l with
     | nil => simp
     | cons z l ih =>
       cases hz : q z with
       | true => simp [hz, h z hz]; exact ih
       | false =>
         cases hz' : p z <;> simp [hz, hz'] <;> omega
   rcases List.mem_cons.1 hx with rfl | hx
   · simp [hp, hq]; omega
   · have ih := filter_lt hx hp hq h
     cases hy : q y with
     | true => simp [hy, h y hy]; exact ih
     | false => cases hy' : p y <;> simp [hy, hy'] <;> omega
theorem undone_set {ops : Array Oper} {listed : Array Bool} (hs : listed.size = ops.size) {i : Nat} (hi : i < ops.size) (hd : ¬ DoneB listed i) : undone ops (listed.setIfInBounds i true) < undone ops listed := by
 unfold undone
 refine filter_lt (x := i) (List.mem_range.2 hi) ?_ ?_ fun j hj => ?_
 · unfold DoneB at hd; simpa using hd
 · have : i < listed.size := by omega
   simp [this]
 · cases h : listed.getD j false with
   | true => rw [getD_set_true h] at hj; cases hj
   | false => rfl
theorem undone_zero {ops : Array Oper} {listed : Array Bool} (h : undone ops listed = 0) : ∀ i, i < ops.size → DoneB listed i := by
 intro i hi
 unfold undone at h
 have := List.filter_eq_nil_iff.1 (List.length_eq_zero_iff.1 h) i (List.mem_range.2 hi)
 simpa [DoneB] using this
inductive Kd where
 | none
 | hand (see put : List Nat)
 | alone
def Kd.V (lo : Nat) : Kd → Nat → Prop
 | .none, _ => False
 | .hand see _, k => memN see k = true
 | .alone, k => k < lo
def Kd.T (lo hi : Nat) : Kd → Nat → Prop
 | .none, _ => False
 | .hand _ put, k => memN put k = true ∨ (lo ≤ k ∧ k < hi)
 | .alone, k => k < hi
def Kd.ds (i lo hi : Nat) (ds : List Done) : Kd → List Done
 | .none => ds
 | .hand see put => ⟨i, see, put, lo, hi⟩ :: ds
 | .alone => ⟨i, [], [], lo, hi⟩ :: ds
inductive Froz : Blk → Blk → Prop
 | same (b : Blk) : Froz b b
 | cells (cs : List Value) (t : TypeId) : Froz (.cells cs t) (.inp 0 cs)
 | ext (cs : List Value) (t : TypeId) (sz : Nat) : Froz (.ext cs t sz) (.row cs sz)
structure Ran (P : Program) (r : Rec) (o : Oper) (S S1 : St) (fr : Fr) (v : Value) (V Tc : Nat → Prop) (Hh H' : Heap) (Tf : Nat → Prop) : Prop where
 run : runOp P r o { S with fr := fr, H := Hh } = some (v, H', S1.n)
 view : ∀ k b, hget Hh k = some b → V k ∧ ∃ b0, hget S.H k = some b0 ∧ Froz b0 b ∧ (Tf k → b = b0) ∧ (b.own = true → Tf k)
 res : ∀ k b, hget S1.H k = some b → (Tc k → hget H' k = some b) ∧ (¬ Tc k → hget S.H k = some b)
 tc : ∀ k, Tc k → Tf k ∨ (S.n ≤ k ∧ k < S1.n)
 keep : ∀ k, ¬ Tc k → (Tf k ∨ (S.n ≤ k ∧ k < S1.n)) → (∃ b, hget Hh k = some b) ∧ hget H' k = hget Hh k
structure OneOk (P : Program) (r : Rec) (ops : Array Oper) (n0 i : Nat) (ds : List Done) (o : Oper) (S : St) (S1 : St) (ds1 : List Done) (K : Kd) (v : Value) : Prop where
 dst : dstOk S.sz o.dst = true
 le : S.n ≤ S1.n
 fr : S1.fr = putA S.fr o.dst v
 sz : S1.sz = S.sz
 marks : S1.marks = S.marks
 done : ds1 = K.ds i S.n S1.n ds
 none : K = .none → S1.n = S.n
 hand : ∀ see put, K = .hand see put → footOk (Region.before ops) n0 i ds see put = true
 alone : K = .alone → aloneA (Region.before ops) i ops.toList 0 = true
 nonpure : K ≠ .none → isPure o.op = false
 how : (wantedA ops (trim (lookTmps ops o) S.fr) o = some false ∧ v = undefV ∧ K = .none ∧ S1.H = S.H) ∨
   (wantedA ops (trim (lookTmps ops o) S.fr) o = some true ∧ ∃ Hh H' Tf, Ran P r o S S1 (trim (lookTmps ops o) S.fr) v (K.V S.n) (K.T S.n S1.n) Hh H' Tf)

theorem memN_iff (xs : List Nat) (i : Nat) : memN xs i = true ↔ i ∈ xs := by
 induction xs with
 | nil => simp [memN]
 | cons x xs ih =>
   rcases beq_cases x i with ⟨h, h'⟩ | ⟨h, h'⟩
   · simp [memN, h']
   · simp only [memN, h, ih, List.mem_cons]
     exact ⟨.inr, fun hh => hh.resolve_left fun e => h' e.symm⟩
theorem hget_readA (see : List Nat) (H : Heap) (k : Nat) : hget (readA see H) k = if memN see k = true then hget H k else none := by
 induction H with
 | nil => simp [readA, hget]
 | cons e H ih =>
   obtain ⟨j, x⟩ := e
   cases hm : memN see j with
   | true =>
     simp only [readA, hm, hget_cons, ih]
     by_cases hj : j = k
     · subst hj; simp [hm]
     · simp [hj]
   | false =>
     simp only [readA, hm, hget_cons, ih]
     by_cases hj : j = k
     · subst hj; simp [hm]
     · simp [hj]
theorem hget_handA (see put : List Nat) (H : Heap) (k : Nat) (b : Blk) (h : hget (handA see put H) k = some b) : ∃ b0, hget H k = some b0 ∧ Froz b0 b ∧ (memN put k = true → b = b0) ∧ (b.own = true → memN put k = true) ∧ (memN put k = true ∨ memN see k = true) := by
 induction H with
 | nil => simp [handA, hget] at h
 | cons e H ih =>
   obtain ⟨j, x⟩ := e
   have skip : hget (handA see put H) k = some b → j ≠ k → ∃ b0, hget ((j, x) :: H) k = some b0 ∧ Froz b0 b ∧ (memN put k = true → b = b0) ∧ (b.own = true → memN put k = true) ∧ (memN put k = true ∨ memN see k = true) := fun h hj => by
     rw [hget_cons, if_neg hj]; exact ih h
   unfold handA at h
   split at h
   · rename_i hp
     rw [hget_cons] at h
     by_cases hj : j = k
     · subst hj
       rw [if_pos rfl] at h
       injection h with h; subst h
       exact ⟨x, by rw [hget_cons, if_pos rfl], .same _, fun _ => rfl, fun _ => hp, .inl hp⟩
     · rw [if_neg hj] at h; exact skip h hj
   · rename_i hp
     split at h
     · rename_i hs
       by_cases hj : j = k
       · -- the name is not seen: a later one of the same name is none of ours
         subst hj
         obtain ⟨b0, _, _, _, _, hh⟩ := ih h
         rcases hh with hh | hh
         · rw [hp] at hh; cases hh
         · rw [hs] at hh; cases hh
       · exact skip h hj
     · rename_i hs
       have fz : ∀ y : Blk, Froz x y → y.own = false → hget ((j, y) :: handA see put H) k = some b → ∃ b0, hget ((j, x) :: H) k = some b0 ∧ Froz b0 b ∧ (memN put k = true → b = b0) ∧ (b.own = true → memN put k = true) ∧ (memN put k = true ∨ memN see k = true) := fun y hf ho h => by
         rw [hget_cons] at h
         by_cases hj : j = k
         · subst hj
           rw [if_pos rfl] at h
           injection h with h; subst h
           exact ⟨x, by rw [hget_cons, if_pos rfl], hf, fun hh => (by rw [hp] at hh; cases hh), fun hh => (by rw [ho] at hh; cases hh), .inr hs⟩
         · rw [if_neg hj] at h; exact skip h hj
       split at h
       · exact fz _ (.cells _ _) rfl h
       · exact fz _ (.ext _ _ _) rfl h
       · exact fz _ (.same _) rfl h
       · exact fz _ (.same _) rfl h
       · exact fz _ (.same _) rfl h
       · simp [hget] at h
theorem hget_append (A B : Heap) (k : Nat) : hget (A ++ B) k = match hget A k with | some b => some b | none => hget B k := by
 induction A with
 | nil => rfl
 | cons e A ih =>
   obtain ⟨j, x⟩ := e
   rw [List.cons_append, hget_cons, hget_cons, ih]
   by_cases hj : j = k <;> simp [hj]
theorem hget_takeNew (n : Nat) (H : Heap) (k : Nat) (b : Blk) (h : hget (takeNew n H) k = some b) : hget H k = some b ∧ n ≤ k := by
 induction H with
 | nil => simp [takeNew, hget] at h
 | cons e H ih =>
   obtain ⟨j, x⟩ := e
   rcases ble_cases n j with ⟨hb, hj⟩ | ⟨hb, hj⟩
   · simp only [takeNew, hb, hget_cons] at h
     rw [hget_cons]
     by_cases hjk : j = k
     · rw [if_pos hjk] at h ⊢; exact ⟨h, hjk ▸ hj⟩
     · rw [if_neg hjk] at h ⊢; exact ih h
   · simp [takeNew, hb, hget] at h
theorem namesOk_spec (n : Nat) (H : Heap) (h : namesOk n H = true) (k : Nat) (b : Blk) (hk : hget H k = some b) : k < n := by
 induction H with
 | nil => simp [hget] at hk
 | cons e H ih =>
   obtain ⟨j, x⟩ := e
   unfold namesOk at h
   split at h
   · rename_i hj
     rw [hget_cons] at hk
     by_cases hjk : j = k
     · rw [← hjk]; exact (blt_iff _ _).1 hj
     · rw [if_neg hjk] at hk; exact ih h hk
   · cases h
theorem hget_backA (put : List Nat) (H' H : Heap) (k : Nat) (b : Blk) (h : hget (backA put H' H) k = some b) : (memN put k = true → hget H' k = some b) ∧ (memN put k = false → hget H k = some b) ∧ ∃ b0, hget H k = some b0 := by
 induction H with
 | nil => simp [backA, hget] at h
 | cons e H ih =>
   obtain ⟨j, x⟩ := e
   unfold backA at h
   by_cases hj : j = k
   · subst hj
     refine ⟨fun hp => ?_, fun hp => ?_, x, by rw [hget_cons, if_pos rfl]⟩
     · rw [hp] at h
       simp only at h
       split at h
       · rename_i b' hb'
         rw [hget_cons, if_pos rfl] at h
         rw [hb', h]
       · exact (ih h).1 hp
     · rw [hp] at h
       simp only [hget_cons, if_true] at h
       rw [hget_cons, if_pos rfl, h]
   · have : hget (backA put H' H) k = some b := by
       split at h
       · rw [hget_cons, if_neg hj] at h; exact h
       · split at h
         · rw [hget_cons, if_neg hj] at h; exact h
         · exact h
     have := ih this
     rw [hget_cons, if_neg hj]
     exact this
theorem isPure_call {op : Op} (h : isPure op = true) : isVCall op = none := by
 cases op with
 | call c =>
   obtain ⟨callee, args, argTypes⟩ := c
   cases callee with
   | value f => simp [isPure] at h
   | _ => rfl
 | _ => rfl
theorem isRead_call {op : Op} (h : isRead op = true) : isVCall op = none := by
 cases op with
 | call c => simp [isRead] at h
 | _ => rfl
theorem runOp_op {P : Program} {r : Rec} {o : Oper} (h : isVCall o.op = none) (st : St) : runOp P r o st = opA P o st.fr st.H st.n := by
 unfold runOp; rw [h]
theorem isRead_pure {op : Op} (h : isRead op = true) : isPure op = false := by
 cases op <;> first | rfl | simp [isRead] at h
theorem isRead_same {P : Program} {o : Oper} {fr : Fr} {H : Heap} {n : Nat} {v : Value} {H' : Heap} {n' : Nat} (hr : isRead o.op = true) (h : opA P o fr H n = some (v, H', n')) : H' = H ∧ n' = n := by
 unfold isRead at hr
 unfold opA at h
 split at hr
 · rename_i t x ho
   rw [ho] at h
   simp only [opLoad] at h
   split at h
   · rw [Option.map_eq_some_iff] at h
     obtain ⟨_, _, h⟩ := h
     injection h with h1 h2; injection h2 with h2 h3
     exact ⟨h2.symm, h3.symm⟩
   · cases h
 · rename_i t x k ok ho
   rw [ho] at h
   simp only [opLookup] at h
   repeat' split at h
   all_goals first
     | (cases h; done)
     | (cases h; exact ⟨rfl, rfl⟩)
     | (injection h with h; injection h with h1 h2; injection h2 with h2 h3; exact ⟨h2.symm, h3.symm⟩)
 · rename_i s d x ho
   rw [ho] at h
   simp only [opConvert] at h
   repeat' split at h
   all_goals first
     | (cases h; done)
     | (cases h; exact ⟨rfl, rfl⟩)
     | (rw [Option.bind_eq_some_iff] at h
        obtain ⟨u, _, h⟩ := h
        first
          | (split at h
             · injection h with h; injection h with h1 h2; injection h2 with h2 h3; exact ⟨h2.symm, h3.symm⟩
             · cases h)
          | (rw [Option.map_eq_some_iff] at h
             obtain ⟨_, _, h⟩ := h
             injection h with h1 h2; injection h2 with h2 h3; exact ⟨h2.symm, h3.symm⟩))
 · rename_i t x lo hi mx ho
   rw [ho] at h
   simp only [opSlice] at h
   repeat' split at h
   all_goals first
     | (cases h; done)
     | (cases h; exact ⟨rfl, rfl⟩)
     | (rw [Option.bind_eq_some_iff] at h
        obtain ⟨u, _, h⟩ := h
        split at h
        · injection h with h; injection h with h1 h2; injection h2 with h2 h3; exact ⟨h2.symm, h3.symm⟩
        · cases h)
     | (rw [Option.map_eq_some_iff] at h
        obtain ⟨_, _, h⟩ := h
        injection h with h1 h2; injection h2 with h2 h3; exact ⟨h2.symm, h3.symm⟩)
 · cases hr
def NB (S : St) : Prop := ∀ k b, hget S.H k = some b → k < S.n
section
variable {P : Program} {r : Rec} {ops : Array Oper} {n0 i : Nat} {ds : List Done} {o : Oper} {S S1 : St} {ds1 : List Done} {fr : Fr}
def DoneOk (P : Program) (r : Rec) (ops : Array Oper) (n0 i : Nat) (ds : List Done) (o : Oper) (fr : Fr) (S S1 : St) (ds1 : List Done) : Prop :=
 ∃ (K : Kd) (v : Value), S.n ≤ S1.n ∧ S1.fr = putA S.fr o.dst v ∧ S1.sz = S.sz ∧ S1.marks = S.marks ∧ S1.vs = S.vs ∧ ds1 = K.ds i S.n S1.n ds ∧ (K = .none → S1.n = S.n) ∧
   (∀ see put, K = .hand see put → footOk (Region.before ops) n0 i ds see put = true) ∧ (K = .alone → aloneA (Region.before ops) i ops.toList 0 = true) ∧ (K ≠ .none → isPure o.op = false) ∧ NB S1 ∧
   ∃ Hh H' Tf, Ran P r o S S1 fr v (K.V S.n) (K.T S.n S1.n) Hh H' Tf
theorem pureOp_ok (hNB : NB S) (hp : isPure o.op = true) (h : pureOp P ds o fr S = some (S1, ds1)) : DoneOk P r ops n0 i ds o fr S S1 ds1 := by
 unfold pureOp at h
 split at h
 · rename_i v Hx k hrun
   split at h
   · rename_i hk
     have hk := Nat.eq_of_beq_eq_true hk
     subst hk
     injection h with h; injection h with e1 e2; subst e1 e2
     refine ⟨.none, v, Nat.le_refl _, rfl, rfl, rfl, rfl, rfl, fun _ => rfl, fun _ _ h => (by cases h), fun h => (by cases h), fun h => absurd rfl h, hNB, [], Hx, fun _ => False, ?_, fun k b hk => ?_, fun k b hk => ⟨fun h => h.elim, fun _ => hk⟩, fun k hk => hk.elim, fun k _ h => ?_⟩
     · rw [runOp_op (isPure_call hp)]; exact hrun
     · simp [hget] at hk
     · rcases h with h | h
       · exact h.elim
       · have h : S.n ≤ k ∧ k < S.n := h
         omega
   · cases h
 · cases h
theorem readOp_ok (hNB : NB S) (hp : isRead o.op = true) {see : List Nat} (h : readOp P (Region.before ops) n0 i ds o see fr S = some (S1, ds1)) : DoneOk P r ops n0 i ds o fr S S1 ds1 := by
 unfold readOp at h
 split at h
 · cases h
 · rename_i hfoot
   split at h
   · rename_i v Hx k hrun
     injection h with h; injection h with e1 e2; subst e1 e2
     obtain ⟨e1, e2⟩ := isRead_same hp hrun
     subst e1 e2
     refine ⟨.hand see [], v, Nat.le_refl _, rfl, rfl, rfl, rfl, rfl, fun h => (by cases h), fun _ _ h => (by injection h with h1 h2; subst h1 h2; exact hfoot), fun h => (by cases h), fun _ => isRead_pure hp, hNB, readA see S.H, readA see S.H, fun k => ∃ b, hget (readA see S.H) k = some b, ?_, fun k b hk => ?_, fun k b hk => ⟨fun h => ?_, fun _ => hk⟩, fun k hk => ?_, fun k _ h => ?_⟩
     · rw [runOp_op (isRead_call hp)]; exact hrun
     · have h1 := hk
       rw [hget_readA] at h1
       split at h1
       · rename_i hm
         exact ⟨hm, b, h1, .same _, fun _ => rfl, fun _ => ⟨b, hk⟩⟩
       · cases h1
     · rcases h with h | h
       · simp [memN] at h
       · have h : S.n ≤ k ∧ k < S.n := h
         omega
     · rcases hk with h | h
       · simp [memN] at h
       · have h : S.n ≤ k ∧ k < S.n := h
         omega
     · rcases h with h | h
       · exact ⟨h, rfl⟩
       · have h : S.n ≤ k ∧ k < S.n := h
         omega
   · cases h
theorem handOp_ok (hNB : NB S) (hp : isPure o.op = false) {see put : List Nat} (h : handOp P r (Region.before ops) n0 i ds o see put fr S = some (S1, ds1)) : DoneOk P r ops n0 i ds o fr S S1 ds1 := by
 unfold handOp at h
 split at h
 · cases h
 · rename_i hfoot
   split at h
   · rename_i v H' k hrun
     split at h
     · rename_i hc
       rw [Bool.and_eq_true] at hc
       have hle := Nat.le_of_ble_eq_true hc.1
       injection h with h; injection h with e1 e2; subst e1 e2
       have hres : ∀ j b, hget (takeNew S.n H' ++ backA put H' S.H) j = some b → (hget H' j = some b ∧ S.n ≤ j ∧ j < k) ∨ ((memN put j = true → hget H' j = some b) ∧ (memN put j = false → hget S.H j = some b) ∧ j < S.n) := fun j b hj => by
         rw [hget_append] at hj
         split at hj
         · rename_i b' hb'
           injection hj with hj; subst hj
           have h1 := hget_takeNew _ _ _ _ hb'
           exact .inl ⟨h1.1, h1.2, namesOk_spec _ _ hc.2 _ _ hb'⟩
         · obtain ⟨h1, h2, b0, h3⟩ := hget_backA _ _ _ _ _ hj
           exact .inr ⟨h1, h2, hNB _ _ h3⟩
       refine ⟨.hand see put, v, hle, rfl, rfl, rfl, rfl, rfl, fun h => (by cases h), fun _ _ h => (by injection h with h1 h2; subst h1 h2; exact hfoot), fun h => (by cases h), fun _ => hp, fun j b hj => ?_, handA see put S.H, H', fun j => memN put j = true, hrun, fun j b hj => ?_, fun j b hj => ⟨fun ht => ?_, fun ht => ?_⟩, fun j hj => hj, fun j ht h => absurd h ht⟩
       · rcases hres j b hj with h | h
         · exact h.2.2
         · exact Nat.lt_of_lt_of_le h.2.2 hle
       · obtain ⟨b0, h1, h2, h3, h4, h5⟩ := hget_handA _ _ _ _ _ hj
         refine ⟨?_, b0, h1, h2, h3, h4⟩
         rcases h5 with h5 | h5
         · unfold footOk at hfoot
           simp only [Bool.and_eq_true] at hfoot
           exact List.all_eq_true.1 hfoot.2 j ((memN_iff _ _).1 h5)
         · exact h5
       · rcases hres j b hj with h | h
         · exact h.1
         · rcases ht with ht | ht
           · exact h.1 ht
           · have ht : S.n ≤ j ∧ j < k := ht
             omega
       · rcases hres j b hj with h | h
         · exact absurd (.inr h.2) ht
         · refine h.2.1 ?_
           cases hm : memN put j with
           | false => rfl
           | true => exact absurd (.inl hm) ht
     · cases h
   · cases h
theorem aloneOp_ok (hNB : NB S) (hp : isPure o.op = false) (ha : aloneA (Region.before ops) i ops.toList 0 = true) (h : aloneOp P r i ds o fr S = some (S1, ds1)) : DoneOk P r ops n0 i ds o fr S S1 ds1 := by
 unfold aloneOp at h
 split at h
 · rename_i v H' k hrun
   split at h
   · rename_i hc
     rw [Bool.and_eq_true] at hc
     have hle := Nat.le_of_ble_eq_true hc.1
     injection h with h; injection h with e1 e2; subst e1 e2
     refine ⟨.alone, v, hle, rfl, rfl, rfl, rfl, rfl, fun h => (by cases h), fun _ _ h => (by cases h), fun _ => ha, fun _ => hp, fun j b hj => namesOk_spec _ _ hc.2 j b hj, S.H, H', fun j => j < S.n, hrun, fun j b hj => ?_, fun j b hj => ⟨fun _ => hj, fun ht => absurd (namesOk_spec _ _ hc.2 j b hj) ht⟩, fun j hj => ?_, fun j ht h => ?_⟩
     · exact ⟨hNB j b hj, b, hj, .same _, fun _ => rfl, fun _ => hNB j b hj⟩
     · have hj : j < k := hj
       show j < S.n ∨ (S.n ≤ j ∧ j < k)
       omega
     · have ht : ¬ j < k := ht
       have h : j < S.n ∨ (S.n ≤ j ∧ j < k) := h
       omega
   · cases h
 · cases h
theorem doneD_ok (hNB : NB S) (h : doneD P r ops (Region.before ops) n0 i ds o fr S = some (S1, ds1)) : DoneOk P r ops n0 i ds o fr S S1 ds1 := by
 unfold doneD at h
 split at h
 · rename_i hp; exact pureOp_ok hNB hp h
 · rename_i hp
   split at h
   · rename_i hr
     split at h
     · exact readOp_ok hNB hr h
     · cases h
   · split at h
     · rename_i ha; exact aloneOp_ok hNB hp ha h
     · split at h
       · exact handOp_ok hNB hp h
       · exact handOp_ok hNB hp h
theorem oneD_ok (hNB : NB S) (h : oneD P r ops (Region.before ops) n0 i ds o S = some (S1, ds1)) : NB S1 ∧ S1.vs = S.vs ∧ ∃ K v, OneOk P r ops n0 i ds o S S1 ds1 K v := by
 unfold oneD at h
 split at h
 · cases h
 · rename_i hd
   split at h
   · cases h
   · rename_i hw
     injection h with h; injection h with e1 e2; subst e1 e2
     exact ⟨hNB, rfl, .none, undefV, hd, Nat.le_refl _, rfl, rfl, rfl, rfl, fun _ => rfl, fun _ _ h => (by cases h), fun h => (by cases h), fun h => absurd rfl h, .inl ⟨hw, rfl, rfl, rfl⟩⟩
   · rename_i hw
     obtain ⟨K, v, h1, h2, h3, h4, h5, h6, h7, h8, h9, h10, h11, h12⟩ := doneD_ok hNB h
     exact ⟨h11, h5, K, v, hd, h1, h2, h3, h4, h6, h7, h8, h9, h10, .inr ⟨hw, h12⟩⟩
end
structure Plan (P : Program) (r : Rec) (ops : Array Oper) (n0 : Nat) (S : Nat → St) (DS : Nat → List Done) (K : Nat → Kd) (vv : Nat → Value) (lo hi : Nat) : Prop where
 one : ∀ j o, lo ≤ j → j < hi → ops[j]? = some o → OneOk P r ops n0 j (DS j) o (S j) (S (j + 1)) (DS (j + 1)) (K j) (vv j)
theorem opsD_plan {P : Program} {r : Rec} {ops : Array Oper} {n0 : Nat} : ∀ (l : List Oper) (i : Nat) (ds : List Done) (st st' : St), NB st → opsD P r ops (Region.before ops) n0 l i ds st = some st' → (∀ j, l[j]? = ops[i + j]?) →
   ∃ S DS K vv, S i = st ∧ DS i = ds ∧ S (i + l.length) = st' ∧ NB st' ∧ st'.vs = st.vs ∧ Plan P r ops n0 S DS K vv i (i + l.length)
 | [], i, ds, st, st', hNB, h, _ => by
   simp only [opsD] at h
   injection h with h; subst h
   exact ⟨fun _ => st, fun _ => ds, fun _ => .none, fun _ => undefV, rfl, rfl, rfl, hNB, rfl, ⟨fun j o h1 h2 _ => by simp at h2; omega⟩⟩
 | o :: l, i, ds, st, st', hNB, h, hl => by
   simp only [opsD] at h
   split at h
   · rename_i st1 ds1 h1
     obtain ⟨hNB1, hvs, Ki, vi, hok⟩ := oneD_ok hNB h1
     obtain ⟨S, DS, K, vv, e1, e2, e3, hNB', hvs', hp⟩ := opsD_plan l (i + 1) ds1 st1 st' hNB1 h fun j => by
       have := hl (j + 1)
       rw [List.getElem?_cons_succ] at this
       rw [this]
       congr 1
       omega
     refine ⟨fun j => if j = i then st else S j, fun j => if j = i then ds else DS j, fun j => if j = i then Ki else K j, fun j => if j = i then vi else vv j, by simp, by simp, ?_, hNB', hvs'.trans hvs, ⟨fun j o' h1 h2 ho => ?_⟩⟩
     · have : i + (o :: l).length = i + 1 + l.length := by simp; omega
       simp only [this, show i + 1 + l.length ≠ i by omega, if_false]
       exact e3
     · by_cases hj : j = i
       · subst hj
         have h0 := hl 0
         simp only [List.getElem?_cons_zero, Nat.add_zero] at h0
         rw [← h0] at ho
         injection ho with ho
         subst ho
         simp only [if_true, show j + 1 ≠ j by omega, if_false, e1, e2]
         exact hok
       · simp only [hj, show j + 1 ≠ i by omega, if_false]
         exact hp.one j o' (by omega) (by simp at h2; omega) ho
   · cases h
theorem disj_spec {xs ys : List Nat} (h : disj xs ys = true) {k : Nat} (h1 : memN xs k = true) (h2 : memN ys k = true) : False := by
 have := List.all_eq_true.1 h k ((memN_iff _ _).1 h1)
 rw [h2] at this
 cases this
theorem footOk_spec {ops : Array Oper} {n0 i : Nat} {ds : List Done} {see put : List Nat} (h : footOk (Region.before ops) n0 i ds see put = true) :
   (∀ d ∈ ds, ahead (Region.before ops) d.i i = true ∨ (∀ k, memN put k = true → memN d.see k = true → False) ∧ ∀ k, memN d.put k = true → memN see k = true → False) ∧
   (∀ k, memN see k = true → k < n0 ∨ ∃ d ∈ ds, d.lo ≤ k ∧ k < d.hi ∧ ahead (Region.before ops) d.i i = true) ∧ ∀ k, memN put k = true → memN see k = true := by
 unfold footOk at h
 simp only [Bool.and_eq_true] at h
 obtain ⟨⟨h1, h2⟩, h3⟩ := h
 refine ⟨fun d hd => ?_, fun k hk => ?_, fun k hk => List.all_eq_true.1 h3 k ((memN_iff _ _).1 hk)⟩
 · have := List.all_eq_true.1 h1 d hd
   rw [Bool.or_eq_true] at this
   rcases this with h | h
   · exact .inl h
   · rw [Bool.and_eq_true] at h
     exact .inr ⟨fun k a b => disj_spec h.1 a b, fun k a b => disj_spec h.2 a b⟩
 · have := List.all_eq_true.1 h2 k ((memN_iff _ _).1 hk)
   unfold visA at this
   rw [Bool.or_eq_true] at this
   rcases this with h | h
   · exact .inl ((blt_iff _ _).1 h)
   · obtain ⟨d, hd, h⟩ := List.any_eq_true.1 h
     simp only [Bool.and_eq_true] at h
     exact .inr ⟨d, hd, Nat.le_of_ble_eq_true h.1.1, (blt_iff _ _).1 h.1.2, h.2⟩
theorem aloneA_spec {ops : Array Oper} {i : Nat} : ∀ (l : List Oper) (j0 : Nat), aloneA (Region.before ops) i l j0 = true → ∀ j o, l[j]? = some o → isPure o.op = true ∨ j0 + j = i ∨ ahead (Region.before ops) (j0 + j) i = true ∨ ahead (Region.before ops) i (j0 + j) = true
 | [], _, _, j, o, h => by simp at h
 | x :: l, j0, h, j, o, ho => by
   unfold aloneA at h
   rw [Bool.and_eq_true] at h
   cases j with
   | zero =>
     simp only [List.getElem?_cons_zero, Option.some.injEq] at ho
     subst ho
     have := h.1
     simp only [Bool.or_eq_true] at this
     rcases this with ((h | h) | h) | h
     · exact .inl h
     · exact .inr (.inl (Nat.eq_of_beq_eq_true h))
     · exact .inr (.inr (.inl h))
     · exact .inr (.inr (.inr h))
   | succ j =>
     rw [List.getElem?_cons_succ] at ho
     have := aloneA_spec l (j0 + 1) h.2 j o ho
     rw [show j0 + 1 + j = j0 + (j + 1) by omega] at this
     exact this
section
variable {P : Program} {r : Rec} {ops : Array Oper} {n0 : Nat} {S : Nat → St} {DS : Nat → List Done} {K : Nat → Kd} {vv : Nat → Value}
structure Full (P : Program) (r : Rec) (ops : Array Oper) (n0 : Nat) (S : Nat → St) (DS : Nat → List Done) (K : Nat → Kd) (vv : Nat → Value) : Prop where
 edges : Edges ops
 plan : Plan P r ops n0 S DS K vv 0 ops.size
 start : (S 0).n = n0
 none : DS 0 = []
def Tc (S : Nat → St) (K : Nat → Kd) (j k : Nat) : Prop := (K j).T (S j).n (S (j + 1)).n k
def Vw (S : Nat → St) (K : Nat → Kd) (j k : Nat) : Prop := (K j).V (S j).n k
variable (h : Full P r ops n0 S DS K vv)
include h
theorem Full.at (j : Nat) (hj : j < ops.size) : OneOk P r ops n0 j (DS j) ops[j] (S j) (S (j + 1)) (DS (j + 1)) (K j) (vv j) := h.plan.one j _ (Nat.zero_le _) (by omega) (Array.getElem?_eq_getElem hj)
theorem Full.mono : ∀ (j i : Nat), i ≤ j → j ≤ ops.size → (S i).n ≤ (S j).n
 | 0, i, hi, _ => by rw [Nat.le_zero.1 hi]; exact Nat.le_refl _
 | j + 1, i, hi, hj => by
   by_cases he : i = j + 1
   · rw [he]; exact Nat.le_refl _
   · exact Nat.le_trans (Full.mono j i (by omega) (by omega)) (h.at j (by omega)).le
theorem Full.n0_le (j : Nat) (hj : j ≤ ops.size) : n0 ≤ (S j).n := by rw [← h.start]; exact h.mono j 0 (Nat.zero_le _) hj
theorem Full.mem : ∀ (j : Nat), j ≤ ops.size → ∀ d ∈ DS j, d.i < j ∧ d.lo = (S d.i).n ∧ d.hi = (S (d.i + 1)).n ∧ (K d.i = .hand d.see d.put ∨ (K d.i = .alone ∧ d.see = [] ∧ d.put = []))
 | 0, _, d, hd => by rw [h.none] at hd; cases hd
 | j + 1, hj, d, hd => by
   have hone := h.at j (by omega)
   have ih := Full.mem j (by omega)
   have old : d ∈ DS j → d.i < j + 1 ∧ d.lo = (S d.i).n ∧ d.hi = (S (d.i + 1)).n ∧ (K d.i = .hand d.see d.put ∨ (K d.i = .alone ∧ d.see = [] ∧ d.put = [])) := fun hd => ⟨Nat.lt_succ_of_lt (ih d hd).1, (ih d hd).2⟩
   rw [hone.done] at hd
   cases hK : K j with
   | none => rw [hK] at hd; exact old hd
   | hand see put =>
     rw [hK] at hd
     rcases List.mem_cons.1 hd with rfl | hd
     · exact ⟨by simp, rfl, rfl, .inl hK⟩
     · exact old hd
   | alone =>
     rw [hK] at hd
     rcases List.mem_cons.1 hd with rfl | hd
     · exact ⟨by simp, rfl, rfl, .inr ⟨hK, rfl, rfl⟩⟩
     · exact old hd
theorem Full.has : ∀ (j : Nat), j ≤ ops.size → ∀ l, l < j → K l ≠ .none → ∃ d ∈ DS j, d.i = l
 | 0, _, l, hl, _ => by omega
 | j + 1, hj, l, hl, hK => by
   have hone := h.at j (by omega)
   have keep : ∀ d, d ∈ DS j → d ∈ DS (j + 1) := fun d hd => by
     rw [hone.done]
     cases K j with
     | none => exact hd
     | hand see put => exact List.mem_cons_of_mem _ hd
     | alone => exact List.mem_cons_of_mem _ hd
   by_cases he : l = j
   · subst he
     rw [hone.done]
     cases hk : K l with
     | none => exact absurd hk hK
     | hand see put => exact ⟨_, List.mem_cons_self .., rfl⟩
     | alone => exact ⟨_, List.mem_cons_self .., rfl⟩
   · obtain ⟨d, hd, hi⟩ := Full.has j (by omega) l (by omega) hK
     exact ⟨d, keep d hd, hi⟩
theorem Full.apart {l j k : Nat} (hl : l < ops.size) (hj : j < ops.size) (h1 : (S l).n ≤ k ∧ k < (S (l + 1)).n) (h2 : (S j).n ≤ k ∧ k < (S (j + 1)).n) : l = j := by
 rcases Nat.lt_trichotomy l j with hlt | he | hlt
 · have := h.mono j (l + 1) (by omega) (by omega); omega
 · exact he
 · have := h.mono l (j + 1) (by omega) (by omega); omega
theorem Full.alone_order {l j : Nat} (hl : l < j) (hj : j < ops.size) (hK : K l ≠ .none) (hK' : K j ≠ .none) (ha : K l = .alone ∨ K j = .alone) : ahead (Region.before ops) l j = true := by
 have h1 := h.at l (by omega)
 have h2 := h.at j hj
 rcases ha with ha | ha
 · have := aloneA_spec _ _ (h1.alone ha) j ops[j] (by simp [hj])
   rw [Nat.zero_add] at this
   rcases this with hp | he | hh | hh
   · rw [h2.nonpure hK'] at hp; cases hp
   · omega
   · have := ahead_lt h.edges _ _ hh; omega
   · exact hh
 · have := aloneA_spec _ _ (h2.alone ha) l ops[l] (by simp)
   rw [Nat.zero_add] at this
   rcases this with hp | he | hh | hh
   · rw [h1.nonpure hK] at hp; cases hp
   · omega
   · exact hh
   · have := ahead_lt h.edges _ _ hh; omega
theorem Full.V_lt {j k : Nat} (hj : j < ops.size) (hv : Vw S K j k) : k < (S j).n := by
 unfold Vw at hv
 cases hK : K j with
 | none => rw [hK] at hv; exact hv.elim
 | alone => rw [hK] at hv; exact hv
 | hand see put =>
   rw [hK] at hv
   rcases (footOk_spec ((h.at j hj).hand see put hK)).2.1 k hv with hk | ⟨d, hd, h1, h2, _⟩
   · exact Nat.lt_of_lt_of_le hk (h.n0_le j (by omega))
   · have hm := h.mem j (by omega) d hd
     rw [hm.2.2.1] at h2
     exact Nat.lt_of_lt_of_le h2 (h.mono j (d.i + 1) (by omega) (by omega))
theorem Full.T_V {j k : Nat} (hj : j < ops.size) (ht : Tc S K j k) : Vw S K j k ∨ ((S j).n ≤ k ∧ k < (S (j + 1)).n) := by
 unfold Tc at ht
 unfold Vw
 cases hK : K j with
 | none => rw [hK] at ht; exact ht.elim
 | alone =>
   rw [hK] at ht
   have ht : k < (S (j + 1)).n := ht
   show k < (S j).n ∨ _
   omega
 | hand see put =>
   rw [hK] at ht
   rcases ht with ht | ht
   · exact .inl ((footOk_spec ((h.at j hj).hand see put hK)).2.2 k ht)
   · exact .inr ht
theorem Full.T_lt {j k : Nat} (hj : j < ops.size) (ht : Tc S K j k) : k < (S (j + 1)).n := by
 rcases h.T_V hj ht with hv | hv
 · exact Nat.lt_of_lt_of_le (h.V_lt hj hv) (h.at j hj).le
 · exact hv.2
theorem Full.made {j k : Nat} (hj : j ≤ ops.size) (hk : k < (S j).n) : k < n0 ∨ ∃ l, l < j ∧ (S l).n ≤ k ∧ k < (S (l + 1)).n := by
 induction j with
 | zero => rw [h.start] at hk; exact .inl hk
 | succ j ih =>
   by_cases hlt : k < (S j).n
   · exact (ih (by omega) hlt).imp id fun ⟨l, h1, h2⟩ => ⟨l, by omega, h2⟩
   · exact .inr ⟨j, by omega, by omega, hk⟩
omit h in
theorem T_ne {j k : Nat} (ht : Tc S K j k) : K j ≠ .none := fun hK => by unfold Tc at ht; rw [hK] at ht; exact ht
omit h in
theorem V_ne {j k : Nat} (hv : Vw S K j k) : K j ≠ .none := fun hK => by unfold Vw at hv; rw [hK] at hv; exact hv
theorem Full.V_from {j k : Nat} (hj : j < ops.size) (hv : Vw S K j k) : k < n0 ∨ ∃ l, ahead (Region.before ops) l j = true ∧ l < j ∧ (S l).n ≤ k ∧ k < (S (l + 1)).n := by
 cases hK : K j with
 | none => exact absurd hK (V_ne hv)
 | alone =>
   rcases h.made (by omega) (h.V_lt hj hv) with hk | ⟨l, hl, h1, h2⟩
   · exact .inl hk
   · refine .inr ⟨l, ?_, hl, h1, h2⟩
     exact h.alone_order hl hj (fun hn => by have := (h.at l (by omega)).none hn; omega) (by rw [hK]; simp) (.inr hK)
 | hand see put =>
   unfold Vw at hv
   rw [hK] at hv
   rcases (footOk_spec ((h.at j hj).hand see put hK)).2.1 k hv with hk | ⟨d, hd, h1, h2, h3⟩
   · exact .inl hk
   · have hm := h.mem j (by omega) d hd
     rw [hm.2.1] at h1
     rw [hm.2.2.1] at h2
     exact .inr ⟨d.i, h3, hm.1, h1, h2⟩
theorem Full.TV {l j k : Nat} (hl : l < j) (hj : j < ops.size) (ht : Tc S K l k) (hv : Vw S K j k) : ahead (Region.before ops) l j = true := by
 have hKl := T_ne ht
 have hKj := V_ne hv
 cases hK : K j with
 | none => exact absurd hK hKj
 | alone => exact h.alone_order hl hj hKl hKj (.inr hK)
 | hand see put =>
   cases hK' : K l with
   | none => exact absurd hK' hKl
   | alone => exact h.alone_order hl hj hKl hKj (.inl hK')
   | hand see' put' =>
     unfold Tc at ht
     unfold Vw at hv
     rw [hK'] at ht
     rw [hK] at hv
     have hf := footOk_spec ((h.at j hj).hand see put hK)
     rcases ht with ht | ht
     · obtain ⟨d, hd, hi⟩ := h.has j (by omega) l hl hKl
       have hm := h.mem j (by omega) d hd
       rw [hi, hK'] at hm
       rcases hm.2.2.2 with he | he
       · injection he with e1 e2
         rcases hf.1 d hd with ha | ha
         · rw [← hi]; exact ha
         · exact (ha.2 k (e2 ▸ ht) hv).elim
       · cases he.1
     · rcases hf.2.1 k hv with hk | ⟨d, hd, h1, h2, h3⟩
       · have := h.n0_le l (by omega); have ht : (S l).n ≤ k ∧ _ := ht; omega
       · have hm := h.mem j (by omega) d hd
         rw [hm.2.1] at h1
         rw [hm.2.2.1] at h2
         rw [h.apart (by omega) (by omega) ht ⟨h1, h2⟩]
         exact h3
theorem Full.VT {l j k : Nat} (hl : l < j) (hj : j < ops.size) (hv : Vw S K l k) (ht : Tc S K j k) : ahead (Region.before ops) l j = true := by
 have hKj := T_ne ht
 have hKl := V_ne hv
 cases hK : K j with
 | none => exact absurd hK hKj
 | alone => exact h.alone_order hl hj hKl hKj (.inr hK)
 | hand see put =>
   cases hK' : K l with
   | none => exact absurd hK' hKl
   | alone => exact h.alone_order hl hj hKl hKj (.inl hK')
   | hand see' put' =>
     have hvl := h.V_lt (by omega) hv
     unfold Tc at ht
     unfold Vw at hv
     rw [hK] at ht
     rw [hK'] at hv
     have hf := footOk_spec ((h.at j hj).hand see put hK)
     rcases ht with ht | ht
     · obtain ⟨d, hd, hi⟩ := h.has j (by omega) l hl hKl
       have hm := h.mem j (by omega) d hd
       rw [hi, hK'] at hm
       rcases hm.2.2.2 with he | he
       · injection he with e1 e2
         rcases hf.1 d hd with ha | ha
         · rw [← hi]; exact ha
         · exact (ha.1 k ht (e1 ▸ hv)).elim
       · cases he.1
     · have := h.mono j l (by omega) (by omega)
       have ht : (S j).n ≤ k ∧ _ := ht
       omega
theorem Full.TT {l j k : Nat} (hl : l < j) (hj : j < ops.size) (ht : Tc S K l k) (ht' : Tc S K j k) : ahead (Region.before ops) l j = true := by
 rcases h.T_V hj ht' with hv | hn
 · exact h.TV hl hj ht hv
 · have := h.T_lt (by omega) ht
   have := h.mono j (l + 1) (by omega) (by omega)
   omega
end

/-! ### the slots -/
theorem dstsApart_spec : ∀ (l : List Oper) (seen : List Nat), dstsApart l seen = true → (∀ (j : Nat) o d, l[j]? = some o → o.dst = some d → memN seen d = false) ∧
   ∀ (j j' : Nat) o o' d, l[j]? = some o → l[j']? = some o' → o.dst = some d → o'.dst = some d → j = j'
 | [], _, _ => ⟨fun j o d h => by simp at h, fun j j' o o' d h => by simp at h⟩
 | x :: l, seen, h => by
   unfold dstsApart at h
   have key : ∃ seen', dstsApart l seen' = true ∧ (∀ d, memN seen' d = false → memN seen d = false ∧ x.dst ≠ some d) ∧ (∀ d, x.dst = some d → memN seen d = false) := by
     split at h
     · rename_i hx
       exact ⟨seen, h, fun d hd => ⟨hd, by rw [hx]; simp⟩, fun d hd => by rw [hx] at hd; cases hd⟩
     · rename_i d0 hx
       split at h
       · cases h
       · rename_i hm
         refine ⟨d0 :: seen, h, fun d hd => ?_, fun d hd => ?_⟩
         · unfold memN at hd
           split at hd
           · cases hd
           · rename_i hne
             refine ⟨hd, fun he => ?_⟩
             rw [hx] at he
             injection he with he
             rw [he, Nat.beq_refl] at hne
             cases hne
         · rw [hx] at hd; injection hd with hd; rw [← hd]; exact hm
   obtain ⟨seen', h1, h2, h3⟩ := key
   obtain ⟨ih1, ih2⟩ := dstsApart_spec l seen' h1
   refine ⟨fun j o d ho hd => ?_, fun j j' o o' d ho ho' hd hd' => ?_⟩
   · cases j with
     | zero => simp only [List.getElem?_cons_zero, Option.some.injEq] at ho; subst ho; exact h3 d hd
     | succ j => rw [List.getElem?_cons_succ] at ho; exact (h2 d (ih1 j o d ho hd)).1
   · cases j with
     | zero =>
       simp only [List.getElem?_cons_zero, Option.some.injEq] at ho
       subst ho
       cases j' with
       | zero => rfl
       | succ j' => rw [List.getElem?_cons_succ] at ho'; exact absurd hd (h2 d (ih1 j' o' d ho' hd')).2
     | succ j =>
       rw [List.getElem?_cons_succ] at ho
       cases j' with
       | zero =>
         simp only [List.getElem?_cons_zero, Option.some.injEq] at ho'
         subst ho'
         exact absurd hd' (h2 d (ih1 j o d ho hd)).2
       | succ j' => rw [List.getElem?_cons_succ] at ho'; rw [ih2 j j' o o' d ho ho' hd hd']
theorem writersOk_spec {bef : Array Nat} {i t : Nat} : ∀ (l : List Oper) (j0 : Nat), writersOk bef i t l j0 = true → ∀ (j : Nat) o, l[j]? = some o → o.dst = some t → j0 + j = i ∨ (j0 + j < i ∧ ahead bef (j0 + j) i = true) ∨ (i < j0 + j ∧ ahead bef i (j0 + j) = true)
 | [], _, _, j, o, h, _ => by simp at h
 | x :: l, j0, h, j, o, ho, hd => by
   unfold writersOk at h
   rw [Bool.and_eq_true] at h
   cases j with
   | zero =>
     simp only [List.getElem?_cons_zero, Option.some.injEq] at ho
     subst ho
     have h1 := h.1
     rw [hd] at h1
     simp only [Nat.beq_refl, Bool.not_true, Bool.false_or, Bool.or_eq_true, Bool.and_eq_true] at h1
     rcases h1 with (h1 | h1) | h1
     · exact .inl (Nat.eq_of_beq_eq_true h1)
     · exact .inr (.inl ⟨(blt_iff _ _).1 h1.1, h1.2⟩)
     · exact .inr (.inr ⟨(blt_iff _ _).1 h1.1, h1.2⟩)
   | succ j =>
     rw [List.getElem?_cons_succ] at ho
     have := writersOk_spec l (j0 + 1) h.2 j o ho hd
     rw [show j0 + 1 + j = j0 + (j + 1) by omega] at this
     exact this
theorem looksOk_spec {ops : Array Oper} {bef : Array Nat} : ∀ (l : List Oper) (i0 : Nat), looksOk ops bef l i0 = true → ∀ (j : Nat) o, l[j]? = some o → ∀ t ∈ lookTmps ops o, writersOk bef (i0 + j) t ops.toList 0 = true
 | [], _, _, j, o, h => by simp at h
 | x :: l, i0, h, j, o, ho => by
   unfold looksOk at h
   rw [Bool.and_eq_true] at h
   cases j with
   | zero =>
     simp only [List.getElem?_cons_zero, Option.some.injEq] at ho
     subst ho
     exact fun t ht => List.all_eq_true.1 h.1 t ht
   | succ j =>
     rw [List.getElem?_cons_succ] at ho
     have := looksOk_spec l (i0 + 1) h.2 j o ho
     rw [show i0 + 1 + j = i0 + (j + 1) by omega] at this
     exact this
theorem lk_trim_mem (fr : Fr) : ∀ (vars : List Nat) (t : Nat) (v : Value), lk (trim vars fr) t = some v → t ∈ vars
 | [], t, v, h => by simp [trim, lk] at h
 | x :: xs, t, v, h => by
   unfold trim at h
   rw [List.filterMap_cons] at h
   cases hx : lk fr x with
   | none => rw [hx] at h; exact List.mem_cons_of_mem _ (lk_trim_mem fr xs t v h)
   | some u =>
     rw [hx] at h
     simp only [Option.map_some, lk_cons] at h
     by_cases hxt : x = t
     · rw [hxt]; exact List.mem_cons_self ..
     · rw [if_neg hxt] at h; exact List.mem_cons_of_mem _ (lk_trim_mem fr xs t v h)
theorem BRel.froz {P : Program} {φ : Vl} {k : Nat} {b0 b : Blk} {o : Option Obj} (hf : Froz b0 b) (h : BRel P φ k b0 o) : BRel P φ k b o := by
 cases hf with
 | same => exact h
 | cells cs t =>
   refine ⟨_, t, (0, 0), h, fun i hi => ?_⟩
   simp [Nat.zero_add]
 | ext cs t sz =>
   obtain ⟨c, h1, h2⟩ := h
   exact ⟨c, t, (0, 0), h1, h2⟩
theorem scB_froz {p : Nat → Prop} {b0 b : Blk} (hf : Froz b0 b) (h : scB p b0) : scB p b := by
 cases hf <;> exact h
theorem HRel.view {P : Program} {φ : Vl} {M Mh : Mp} {w : World} (h : HRel P φ M w) (hv : ∀ k b, Mh k = some b → ∃ b0, M k = some b0 ∧ Froz b0 b) : HRel P φ Mh w := by
 refine ⟨fun k b hb => ?_, fun k b k' b' h1 h2 hne ho => ?_, h.glob⟩
 · obtain ⟨b0, hb0, hf⟩ := hv k b hb
   exact (h.blk k b0 hb0).froz hf
 · obtain ⟨b0, hb0, hf⟩ := hv k b h1
   obtain ⟨b1, hb1, _⟩ := hv k' b' h2
   refine h.apart k b0 k' b1 hb0 hb1 hne ?_
   cases hf with
   | same => exact ho
   | cells => cases ho
   | ext => cases ho
theorem foldD_upto {β : Type} {T : Nat → Nat → Prop} {out : Nat → Nat → β} {init : Nat → β} {i N k : Nat} (hi : i ≤ N) : foldD T out init (fun j => j < i) N k = foldD T out init (fun _ => True) i k := by
 rw [foldD_skip hi (fun j h1 _ h => by have : j < i := h.1; omega)]
 exact foldD_congr fun j hj _ => ⟨fun _ => trivial, fun _ => hj⟩
def Wr (ops : Array Oper) (j t : Nat) : Prop := ∃ o, ops[j]? = some o ∧ o.dst = some t
section
variable {P : Program} {r : Rec} {ops : Array Oper} {n0 : Nat} {S : Nat → St} {DS : Nat → List Done} {K : Nat → Kd} {vv : Nat → Value}
noncomputable def MM (ops : Array Oper) (S : Nat → St) (K : Nat → Kd) (D : Nat → Prop) : Mp := foldD (Tc S K) (fun j k => hget (S (j + 1)).H k) (hget (S 0).H) D ops.size
noncomputable def FF (ops : Array Oper) (S : Nat → St) (vv : Nat → Value) (D : Nat → Prop) : Nat → Option Value := foldD (Wr ops) (fun j _ => some (vv j)) (lk (S 0).fr) D ops.size
variable (h : Full P r ops n0 S DS K vv)
include h
theorem Full.fr_at : ∀ (i : Nat), i ≤ ops.size → ∀ t, foldD (Wr ops) (fun j _ => some (vv j)) (lk (S 0).fr) (fun _ => True) i t = lk (S i).fr t
 | 0, _, t => rfl
 | i + 1, hi, t => by
   have hone := h.at i (by omega)
   rw [hone.fr]
   by_cases hw : Wr ops i t
   · rw [foldD_pos ⟨trivial, hw⟩]
     obtain ⟨o, ho, hd⟩ := hw
     have ho' : ops[i]? = some ops[i] := Array.getElem?_eq_getElem (by omega)
     rw [ho'] at ho
     injection ho with ho
     rw [ho, hd]
     simp [putA, lk_cons]
   · rw [foldD_neg (fun hh => hw hh.2), Full.fr_at i (by omega) t]
     cases hd : (ops[i]).dst with
     | none => rfl
     | some d =>
       simp only [putA, lk_cons]
       rw [if_neg]
       intro he
       exact hw ⟨_, Array.getElem?_eq_getElem (by omega), by rw [hd, he]⟩
theorem Full.mem_at : ∀ (i : Nat), i ≤ ops.size → ∀ k b, hget (S i).H k = some b → foldD (Tc S K) (fun j k => hget (S (j + 1)).H k) (hget (S 0).H) (fun _ => True) i k = some b
 | 0, _, k, b, hb => hb
 | i + 1, hi, k, b, hb => by
   have hone := h.at i (by omega)
   by_cases hw : Tc S K i k
   · rw [foldD_pos ⟨trivial, hw⟩]; exact hb
   · rw [foldD_neg (fun hh => hw hh.2)]
     refine Full.mem_at i (by omega) k b ?_
     rcases hone.how with ⟨_, _, _, hH⟩ | ⟨_, Hh, H', Tf, hran⟩
     · rw [← hH]; exact hb
     · exact (hran.res k b hb).2 hw
def Vis (ops : Array Oper) (S : Nat → St) (p : Nat → Prop) (i k : Nat) : Prop := p k ∨ ∃ l, ahead (Region.before ops) l i = true ∧ (S l).n ≤ k ∧ k < (S (l + 1)).n
def VisP (ops : Array Oper) (S : Nat → St) (p : Nat → Prop) (i : Nat) : Nat → Prop := Nx (Vis ops S p i) (S i).n (S (i + 1)).n
theorem Full.vis_up {p : Nat → Prop} {l j : Nat} (ha : ahead (Region.before ops) l j = true) {k : Nat} (hk : VisP ops S p l k) : Vis ops S p j k := by
 rcases hk with (hk | ⟨m, hm, hk⟩) | hk
 · exact .inl hk
 · exact .inr ⟨m, ahead_trans h.edges j l m hm ha, hk⟩
 · exact .inr ⟨l, ha, hk⟩
theorem Full.vis_lt {p : Nat → Prop} (hp : ∀ k, p k → k < n0) {i k : Nat} (hi : i < ops.size) (hk : Vis ops S p i k) : k < (S i).n := by
 rcases hk with hk | ⟨l, hl, hk⟩
 · exact Nat.lt_of_lt_of_le (hp k hk) (h.n0_le i (by omega))
 · have hlt := ahead_lt h.edges i l hl
   exact Nat.lt_of_lt_of_le hk.2 (h.mono i (l + 1) (by omega) (by omega))
theorem Full.seen {D : Nat → Prop} (hc : Closed ops D) {i : Nat} (hi : i < ops.size) (hiD : ¬ D i) (hpre : ∀ j, ahead (Region.before ops) j i = true → D j) {k : Nat} (hv : Vw S K i k) {b : Blk} (hb : hget (S i).H k = some b) :
   MM ops S K D k = some b := by
 rw [← h.mem_at i (by omega) k b hb, ← foldD_upto (N := ops.size) (by omega)]
 refine foldD_congr fun j hj ht => ⟨fun hd => ?_, fun hlt => hpre j (h.TV hlt hi ht hv)⟩
 show j < i
 rcases Nat.lt_trichotomy j i with hlt | he | hlt
 · exact hlt
 · exact absurd (he ▸ hd) hiD
 · exact absurd (hc j i hd (h.VT hlt hj hv ht)) hiD
theorem Full.looked (hl : looksOk ops (Region.before ops) ops.toList 0 = true) {D : Nat → Prop} (hc : Closed ops D) {i : Nat} (hi : i < ops.size) (hiD : ¬ D i) (hpre : ∀ j, ahead (Region.before ops) j i = true → D j) {t : Nat} (ht : t ∈ lookTmps ops ops[i]) :
   (∀ j, D j → Wr ops j t → ahead (Region.before ops) j i = true) ∧ FF ops S vv D t = lk (S i).fr t := by
 have hw := looksOk_spec _ _ hl i ops[i] (by simp [hi]) t ht
 rw [Nat.zero_add] at hw
 have hcase : ∀ j, Wr ops j t → j = i ∨ (j < i ∧ ahead (Region.before ops) j i = true) ∨ (i < j ∧ ahead (Region.before ops) i j = true) := fun j hj => by
   obtain ⟨o, ho, hd⟩ := hj
   have := writersOk_spec _ _ hw j o (by simpa using ho) hd
   rw [Nat.zero_add] at this
   exact this
 refine ⟨fun j hd hj => ?_, ?_⟩
 · rcases hcase j hj with he | he | he
   · exact absurd (he ▸ hd) hiD
   · exact he.2
   · exact absurd (hc j i hd he.2) hiD
 · rw [← h.fr_at i (by omega) t, ← foldD_upto (N := ops.size) (by omega)]
   refine foldD_congr fun j hj ht => ⟨fun hd => ?_, fun hlt => ?_⟩
   · show j < i
     rcases hcase j ht with he | he | he
     · exact absurd (he ▸ hd) hiD
     · exact he.1
     · exact absurd (hc j i hd he.2) hiD
   · rcases hcase j ht with he | he | he
     · have : j < i := hlt; omega
     · exact hpre j he.2
     · have : j < i := hlt; omega
structure Inv (P : Program) (ops : Array Oper) (n0 : Nat) (S : Nat → St) (K : Nat → Kd) (vv : Nat → Value) (p : Nat → Prop) (φ0 : Vl) (a0 : Act) (w0 : World) (D : Nat → Prop) (φ : Vl) (a : Act) (w : World) : Prop where
 step : Step P φ0 n0 (hget (S 0).H) w0 φ (S ops.size).n (MM ops S K D) w
 scope : ∀ j, D j → j < ops.size → ∀ k b, Tc S K j k → hget (S (j + 1)).H k = some b → (p k ∨ n0 ≤ k) ∧ scB (VisP ops S p j) b
 vals : ∀ j, D j → j < ops.size → sc (VisP ops S p j) (vv j)
 ar : ∀ t v, FF ops S vv D t = some v → a.tmps[t]? = some (den φ v)
 size : a.tmps.size = (S 0).sz
 defs : a.defers = a0.defers
end
section
variable {P : Program} {r : Rec} {ops : Array Oper} {n0 : Nat} {S : Nat → St} {DS : Nat → List Done} {K : Nat → Kd} {vv : Nat → Value}
variable (h : Full P r ops n0 S DS K vv)
include h
theorem Full.sz_at : ∀ (i : Nat), i ≤ ops.size → (S i).sz = (S 0).sz ∧ (S i).marks = (S 0).marks
 | 0, _ => ⟨rfl, rfl⟩
 | i + 1, hi => by
   have hone := h.at i (by omega)
   have ih := Full.sz_at i (by omega)
   exact ⟨hone.sz.trans ih.1, hone.marks.trans ih.2⟩
theorem Full.vis_out {p : Nat → Prop} (hp : ∀ k, p k → k < n0) {D : Nat → Prop} (hc : Closed ops D) {i : Nat} (hi : i < ops.size) (hiD : ¬ D i) {j : Nat} (hj : j < ops.size) (hd : D j) {k : Nat} (hk : VisP ops S p j k) : k < (S i).n ∨ (S (i + 1)).n ≤ k := by
 have sep : ∀ l, D l → l < ops.size → (S l).n ≤ k ∧ k < (S (l + 1)).n → k < (S i).n ∨ (S (i + 1)).n ≤ k := fun l hl hlN hk => by
   rcases Nat.lt_trichotomy l i with hlt | he | hlt
   · have := h.mono i (l + 1) (by omega) (by omega); omega
   · exact absurd (he ▸ hl) hiD
   · have := h.mono l (i + 1) (by omega) (by omega); omega
 rcases hk with (hk | ⟨l, hl, hk⟩) | hk
 · have := hp k hk; have := h.n0_le i (by omega); omega
 · have := ahead_lt h.edges j l hl
   exact sep l (hc j l hd hl) (by omega) hk
 · exact sep j hd hj hk
theorem Full.last {D : Nat → Prop} (hc : Closed ops D) {i : Nat} (hiD : ¬ D i) {k : Nat} (ht : Tc S K i k) : ∀ j, D j → i < j → j < ops.size → ¬ Tc S K j k :=
 fun j hd hij hj ht' => hiD (hc j i hd (h.TT hij hj ht ht'))
variable {p : Nat → Prop} {φ0 : Vl} {a0 : Act} {w0 : World}
theorem Inv.add (hS : SRel P p φ0 (S 0) a0 w0) (hda : dstsApart ops.toList [] = true) {D : Nat → Prop} {φ φ' : Vl} {a : Act} {w w' : World} (hc : Closed ops D) {i : Nat} (hi : i < ops.size) (hiD : ¬ D i)
   (hI : Inv P ops n0 S K vv p φ0 a0 w0 D φ a w) (hst : Step P φ0 n0 (hget (S 0).H) w0 φ' (S ops.size).n (MM ops S K fun j => D j ∨ j = i) w')
   (hag : Agr (fun k => k < (S i).n ∨ (S (i + 1)).n ≤ k) φ φ')
   (hsc : ∀ k b, Tc S K i k → hget (S (i + 1)).H k = some b → (p k ∨ n0 ≤ k) ∧ scB (VisP ops S p i) b) (hval : sc (VisP ops S p i) (vv i)) :
   Inv P ops n0 S K vv p φ0 a0 w0 (fun j => D j ∨ j = i) φ' (a.put ops[i].dst (den φ' (vv i))) w' := by
 have hp : ∀ k, p k → k < n0 := fun k hk => h.start ▸ hS.base.lt k hk
 have hone := h.at i hi
 have hoi : ops[i]? = some ops[i] := Array.getElem?_eq_getElem hi
 refine ⟨hst, fun j hj hjN => ?_, fun j hj hjN => ?_, fun t v hv => ?_, ?_, ?_⟩
 · rcases hj with hj | rfl
   · exact hI.scope j hj hjN
   · exact hsc
 · rcases hj with hj | rfl
   · exact hI.vals j hj hjN
   · exact hval
 · have hadd := foldD_add (T := Wr ops) (out := fun j _ => some (vv j)) (init := lk (S 0).fr) (D := D) (D' := fun j => D j ∨ j = i) (N := ops.size) (i := i) (k := t) hi (fun _ => Iff.rfl) (fun ht j hd hij hj ht' => by
     obtain ⟨o, ho, hod⟩ := ht
     obtain ⟨o', ho', hod'⟩ := ht'
     have := (dstsApart_spec _ _ hda).2 i j o o' t (by simpa using ho) (by simpa using ho') hod hod'
     omega)
   by_cases hw : Wr ops i t
   · have hv : some (vv i) = some v := by rw [← hv]; exact (hadd.1 hw).symm
     injection hv with hv
     subst hv
     obtain ⟨o, ho, hd⟩ := hw
     rw [hoi] at ho
     injection ho with ho
     rw [ho, hd]
     have hdst := hone.dst
     rw [ho, hd] at hdst
     have hlt := (blt_iff _ _).1 hdst
     rw [(h.sz_at i (by omega)).1, ← hI.size] at hlt
     simp only [Act.put]
     rw [Array.getElem?_setIfInBounds_self_of_lt hlt]
   · have hv : FF ops S vv D t = some v := by rw [← hv]; exact (hadd.2 hw).symm
     have hold := hI.ar t v hv
     have hsame : (a.put ops[i].dst (den φ' (vv i))).tmps[t]? = a.tmps[t]? := by
       cases hd : ops[i].dst with
       | none => rfl
       | some d =>
         simp only [Act.put]
         rw [Array.getElem?_setIfInBounds_ne]
         intro he
         exact hw ⟨_, hoi, by rw [hd, he]⟩
     rw [hsame, hold]
     congr 1
     refine (den_congr hag v ?_).symm
     rcases foldD_cases (T := Wr ops) (out := fun j _ => some (vv j)) (init := lk (S 0).fr) (D := D) (N := ops.size) (k := t) with ⟨h1, _⟩ | ⟨j, hj, hd, _, h1⟩
     · have h2 : lk (S 0).fr t = some v := by rw [← h1]; exact hv
       refine sc_mono (fun k hk => ?_) _ (hS.base.sf t v h2)
       have := hp k hk
       have := h.n0_le i (by omega)
       exact .inl (by omega)
     · have h2 : some (vv j) = some v := by rw [← h1]; exact hv
       injection h2 with h2
       subst h2
       exact sc_mono (fun k hk => h.vis_out hp hc hi hiD hj hd hk) _ (hI.vals j hd hj)
 · rw [put_size]; exact hI.size
 · rw [put_defs]; exact hI.defs
theorem Full.op_ok {m : Nat} (hr : RecOk P r m) (hdr : drawOk ops (Region.before ops) = true) (hS : SRel P p φ0 (S 0) a0 w0) {D : Nat → Prop} {φ : Vl} {a : Act} {w : World} (hc : Closed ops D) {i : Nat} (hi : i < ops.size) (hiD : ¬ D i)
   (hpre : ∀ j, ahead (Region.before ops) j i = true → D j) (hI : Inv P ops n0 S K vv p φ0 a0 w0 D φ a w) (ψ : Vl) (ro : Option Nat) {K0 : Act → World → Prop} {Q : Exit → Act → World → Prop}
   (hK : ∀ φ' a' w', Inv P ops n0 S K vv p φ0 a0 w0 (fun j => D j ∨ j = i) φ' a' w' → K0 a' w') : wpOpIn (fence ψ ro) 0 P ops Q i K0 a w := by
 have hp : ∀ k, p k → k < n0 := fun k hk => h.start ▸ hS.base.lt k hk
 have hone := h.at i hi
 have hoi : ops[i]? = some ops[i] := Array.getElem?_eq_getElem hi
 unfold drawOk at hdr
 simp only [Bool.and_eq_true] at hdr
 have hlk : ∀ t v, lk (trim (lookTmps ops ops[i]) (S i).fr) t = some v → t ∈ lookTmps ops ops[i] ∧ FF ops S vv D t = some v := fun t v hv => by
   have h1 := lk_trim_mem _ _ t v hv
   exact ⟨h1, by rw [(h.looked hdr.1.2 hc hi hiD hpre h1).2]; exact lk_filterMap _ _ t v hv⟩
 have har : ARel φ (trim (lookTmps ops ops[i]) (S i).fr) a := fun t v hv => hI.ar t v (hlk t v hv).2
 have hsf : SF (Vis ops S p i) (trim (lookTmps ops ops[i]) (S i).fr) := fun t v hv => by
   obtain ⟨h1, h2⟩ := hlk t v hv
   rcases foldD_cases (T := Wr ops) (out := fun j _ => some (vv j)) (init := lk (S 0).fr) (D := D) (N := ops.size) (k := t) with ⟨h3, _⟩ | ⟨j, hj, hd, hw, h3⟩
   · have h4 : lk (S 0).fr t = some v := by rw [← h3]; exact h2
     exact sc_mono (fun _ h => .inl h) _ (hS.base.sf t v h4)
   · have h4 : some (vv j) = some v := by rw [← h3]; exact h2
     injection h4 with h4
     subst h4
     exact sc_mono (fun k hk => h.vis_up ((h.looked (vv := vv) hdr.1.2 hc hi hiD hpre h1).1 j hd hw) hk) _ (hI.vals j hd hj)
 unfold wpOpIn
 rw [hoi]
 simp only
 have hmadd := fun k => foldD_add (T := Tc S K) (out := fun j k => hget (S (j + 1)).H k) (init := hget (S 0).H) (D := D) (D' := fun j => D j ∨ j = i) (N := ops.size) (i := i) (k := k) hi (fun _ => Iff.rfl) (fun ht => h.last hc hiD ht)
 rcases hone.how with ⟨hw, hv, hKn, hH⟩ | ⟨hw, Hh, H', Tf, hran⟩
 · rw [wantedA_ok har hw]
   refine ⟨fun f _ => fence_fn _ _ f, ?_⟩
   have hnt : ∀ k, ¬ Tc S K i k := fun k ht => T_ne ht hKn
   have := Inv.add h hS hdr.1.1 hc hi hiD hI (φ' := φ) (w' := w) (hI.step.sub fun k b hb => by
     have := (hmadd k).2 (hnt k)
     rw [← hb]; exact this.symm) (fun k _ => ⟨rfl, rfl⟩) (fun k b ht => absurd ht (hnt k)) (by rw [hv]; trivial)
   rw [hv, den_undef] at this
   exact hK _ _ _ this
 · rw [wantedA_ok har hw]
   simp only [if_true]
   have hview : ∀ k b, hget Hh k = some b → Vw S K i k ∧ ∃ b0, MM ops S K D k = some b0 ∧ Froz b0 b ∧ (Tf k → b = b0) ∧ (b.own = true → Tf k) := fun k b hb => by
     obtain ⟨h1, b0, h2, h3⟩ := hran.view k b hb
     exact ⟨h1, b0, h.seen hc hi hiD hpre h1 h2, h3⟩
   have hMcase : ∀ k b, MM ops S K D k = some b → (hget (S 0).H k = some b) ∨ ∃ j, j < ops.size ∧ D j ∧ Tc S K j k ∧ hget (S (j + 1)).H k = some b := fun k b hb => by
     rcases foldD_cases (T := Tc S K) (out := fun j k => hget (S (j + 1)).H k) (init := hget (S 0).H) (D := D) (N := ops.size) (k := k) with ⟨h3, _⟩ | ⟨j, hj, hd, ht, h3⟩
     · exact .inl (by rw [← h3]; exact hb)
     · exact .inr ⟨j, hj, hd, ht, by rw [← h3]; exact hb⟩
   have hBase : Base P (Vis ops S p i) φ (S i).n (hget Hh) w (trim (lookTmps ops ops[i]) (S i).fr) a := by
     refine ⟨hI.step.rel.view fun k b hb => ?_, fun k hk => h.vis_lt hp hi hk, fun g hg => .inl (hS.base.gl g hg), Nat.le_trans (h.start ▸ hS.base.gn) (h.n0_le i (by omega)), fun k b hb => ?_, har, hsf⟩
     · obtain ⟨_, b0, h2, h3, _⟩ := hview k b hb
       exact ⟨b0, h2, h3⟩
     · obtain ⟨h1, b0, h2, h3, _⟩ := hview k b hb
       rcases hMcase k b0 h2 with hm | ⟨j, hj, hd, ht, hm⟩
       · have := hS.base.sm k b0 hm
         exact ⟨.inl this.1, scB_froz h3 (scB_mono (fun _ h => .inl h) _ this.2)⟩
       · have hsj := hI.scope j hd hj k b0 ht hm
         refine ⟨?_, scB_froz h3 (scB_mono (fun q hq => ?_) _ hsj.2)⟩
         · rcases h.V_from hi h1 with hk | ⟨l, hl, _, hk⟩
           · exact .inl (hsj.1.resolve_right (by omega))
           · exact .inr ⟨l, hl, hk⟩
         · refine h.vis_up ?_ hq
           rcases Nat.lt_trichotomy j i with hlt | he | hlt
           · exact h.TV hlt hi ht h1
           · exact absurd (he ▸ hd) hiD
           · exact absurd (hc j i hd (h.VT hlt hj h1 ht)) hiD
   refine runOp_ok hr (st := { S i with fr := trim (lookTmps ops ops[i]) (S i).fr, H := Hh }) hBase hran.run ψ ro fun φ' w' hdn => hK φ' _ w' ?_
   obtain ⟨hd1, hd2, hd3⟩ := hdn
   have hd3 : Step P φ (S i).n (hget Hh) w φ' (S (i + 1)).n (hget H') w' := hd3
   have hd1 : SM (VisP ops S p i) (hget H') := hd1
   have hout : ∀ k b, MM ops S K D k = some b → (k < (S i).n ∨ (S (i + 1)).n ≤ k) ∧ scB (fun j => j < (S i).n ∨ (S (i + 1)).n ≤ j) b := fun k b hb => by
     rcases hMcase k b hb with hm | ⟨j, hj, hd, ht, hm⟩
     · have hsm := hS.base.sm k b hm
       have hn := h.n0_le i (by omega)
       exact ⟨.inl (by have := hp k hsm.1; omega), scB_mono (fun q hq => .inl (by have := hp q hq; omega)) _ hsm.2⟩
     · refine ⟨?_, scB_mono (fun q hq => h.vis_out hp hc hi hiD hj hd hq) _ (hI.scope j hd hj k b ht hm).2⟩
       by_cases hKi : K i = .none
       · have := hone.none hKi
         omega
       · rcases Nat.lt_trichotomy j i with hlt | he | hlt
         · have := h.T_lt hj ht
           have := h.mono i (j + 1) (by omega) (by omega)
           exact .inl (by omega)
         · exact absurd (he ▸ hd) hiD
         · rcases h.T_V hj ht with hv | hn
           · rcases h.V_from hj hv with hk | ⟨l, hl, hlj, hk⟩
             · have := h.n0_le i (by omega)
               exact .inl (by omega)
             · have hld := hc j l hd hl
               rcases Nat.lt_trichotomy l i with hlt' | he | hlt'
               · have := h.mono i (l + 1) (by omega) (by omega); exact .inl (by omega)
               · exact absurd (he ▸ hld) hiD
               · have := h.mono l (i + 1) (by omega) (by omega); exact .inr (by omega)
           · have := h.mono j (i + 1) (by omega) (by omega)
             exact .inr (by omega)
   have hfr := Step.frame (T := Tf) hI.step.rel hd3 hout (fun k b hb => by obtain ⟨_, b0, h2, _⟩ := hview k b hb; exact ⟨b0, h2⟩)
     (fun k b hb ho => by
       obtain ⟨_, b0, h2, _, h4, h5⟩ := hview k b hb
       exact ⟨h5 ho, by rw [h4 (h5 ho)]; exact h2⟩)
     (fun k b ht hb => by
       obtain ⟨_, b0, h2, _, h4, _⟩ := hview k b hb
       rw [h4 ht]; exact h2)
   have hinto := hI.step.into hfr (h.n0_le i (by omega)) (h.mono ops.size (i + 1) (by omega) (Nat.le_refl _))
   refine Inv.add h hS hdr.1.1 hc hi hiD hI (hinto.sub fun k b hb => ?_) (fun k hk => hd3.only k hk) (fun k b ht hb => ?_) hd2
   · by_cases ht : Tc S K i k
     · have h1 : hget (S (i + 1)).H k = some b := by rw [← hb]; exact ((hmadd k).1 ht).symm
       rw [mixM_pos (T := fun k => Tf k ∨ ((S i).n ≤ k ∧ k < (S (i + 1)).n)) (hran.tc k ht)]
       exact (hran.res k b h1).1 ht
     · have h1 : MM ops S K D k = some b := by rw [← hb]; exact ((hmadd k).2 ht).symm
       by_cases hm : Tf k ∨ ((S i).n ≤ k ∧ k < (S (i + 1)).n)
       · rw [mixM_pos (T := fun k => Tf k ∨ ((S i).n ≤ k ∧ k < (S (i + 1)).n)) hm]
         obtain ⟨⟨b', hb'⟩, he⟩ := hran.keep k ht hm
         obtain ⟨hv, b0, h2, _, h4, _⟩ := hview k b' hb'
         rw [he, hb']
         have hlt := h.V_lt hi hv
         have htf : Tf k := hm.resolve_right (by omega)
         rw [h4 htf, ← h2, h1]
       · rw [mixM_neg (T := fun k => Tf k ∨ ((S i).n ≤ k ∧ k < (S (i + 1)).n)) hm]
         exact h1
   · have hsm := hd1 k b ((hran.res k b hb).1 ht)
     refine ⟨?_, hsm.2⟩
     rcases hsm.1 with (hk | ⟨l, hl, hk⟩) | hk
     · exact .inl hk
     · have := ahead_lt h.edges i l hl
       have := h.n0_le l (by omega)
       exact .inr (by omega)
     · have := h.n0_le i (by omega)
       exact .inr (by omega)
end
section
variable {P : Program} {r : Rec} {ops : Array Oper} {n0 : Nat} {S : Nat → St} {DS : Nat → List Done} {K : Nat → Kd} {vv : Nat → Value}
variable {p : Nat → Prop} {φ0 : Vl} {a0 : Act} {w0 : World}
theorem Full.any_ok {m : Nat} (hr : RecOk P r m) (h : Full P r ops n0 S DS K vv) (hdr : drawOk ops (Region.before ops) = true) (hS : SRel P p φ0 (S 0) a0 w0) (ψ : Vl) (ro : Option Nat) {Q : Exit → Act → World → Prop}
   (hQ : ∀ D φ a w, (∀ j, j < ops.size → D j) → Inv P ops n0 S K vv p φ0 a0 w0 D φ a w → Q .normal a w) :
   ∀ (fuel : Nat) (listed : Array Bool) (φ : Vl) (a : Act) (w : World), listed.size = ops.size → Closed ops (DoneB listed) → undone ops listed ≤ fuel → Inv P ops n0 S K vv p φ0 a0 w0 (DoneB listed) φ a w →
     wpAnyIn (fence ψ ro) 0 P .any ops Q fuel listed a w
 | 0, listed, φ, a, w, hs, hc, hu, hI => by
   have hall := undone_zero (ops := ops) (listed := listed) (by omega)
   refine ⟨List.eq_nil_iff_forall_not_mem.2 fun i hi => ?_, hQ _ φ a w hall hI⟩
   have := ready_spec h.edges hs hc hi
   exact this.2.1 (hall i this.1)
 | fuel + 1, listed, φ, a, w, hs, hc, hu, hI => by
   refine ⟨fun hnil => hQ _ φ a w (ready_nil h.edges hs hnil) hI, fun i hi => ?_⟩
   obtain ⟨h1, h2, h3⟩ := ready_spec h.edges hs hc hi
   have hil : i < listed.size := by omega
   refine h.op_ok hr hdr hS hc h1 h2 h3 hI ψ ro fun φ' a' w' hI' => ?_
   have he : (fun j => DoneB listed j ∨ j = i) = DoneB (listed.setIfInBounds i true) := funext fun j => propext (doneB_set hil j).symm
   rw [he] at hI'
   exact Full.any_ok hr h hdr hS ψ ro hQ fuel _ φ' a' w' (by simpa using hs) (closed_set hil hc h3) (by have := undone_set hs h1 h2; omega) hI'
theorem Inv.start (h : Full P r ops n0 S DS K vv) (hS : SRel P p φ0 (S 0) a0 w0) {D : Nat → Prop} (hD : ∀ j, ¬ D j) : Inv P ops n0 S K vv p φ0 a0 w0 D φ0 a0 w0 := by
 have hM : MM ops S K D = hget (S 0).H := by
   funext k
   unfold MM
   rw [foldD_skip (Nat.zero_le _) (fun j _ _ hh => hD j hh.1)]
   rfl
 have hF : FF ops S vv D = lk (S 0).fr := by
   funext k
   unfold FF
   rw [foldD_skip (Nat.zero_le _) (fun j _ _ hh => hD j hh.1)]
   rfl
 have hre := Step.refl (n := n0) hS.base.rel
 refine ⟨?_, fun j hj => absurd hj (hD j), fun j hj => absurd hj (hD j), fun t v hv => ?_, hS.size, rfl⟩
 · rw [hM]
   exact ⟨h.n0_le ops.size (Nat.le_refl _), fun _ _ => ⟨rfl, rfl⟩, hre.rel, hre.new, hre.inp, hre.frm⟩
 · rw [hF] at hv
   exact hS.base.ar t v hv
theorem Inv.finish (h : Full P r ops n0 S DS K vv) (hS : SRel P p φ0 (S 0) a0 w0) (hNB : NB (S ops.size)) {D : Nat → Prop} (hD : ∀ j, j < ops.size → D j) {φ : Vl} {a : Act} {w : World} (hI : Inv P ops n0 S K vv p φ0 a0 w0 D φ a w) :
   SRel P (Nx p n0 (S ops.size).n) φ (S ops.size) a w ∧ Step P φ0 n0 (hget (S 0).H) w0 φ (S ops.size).n (hget (S ops.size).H) w := by
 have hp : ∀ k, p k → k < n0 := fun k hk => h.start ▸ hS.base.lt k hk
 have hsub : ∀ k b, hget (S ops.size).H k = some b → MM ops S K D k = some b := fun k b hb => by
   rw [← h.mem_at ops.size (Nat.le_refl _) k b hb]
   exact foldD_congr fun j hj _ => ⟨fun _ => trivial, fun _ => hD j hj⟩
 have hfr : ∀ t, lk (S ops.size).fr t = FF ops S vv D t := fun t => by
   rw [← h.fr_at ops.size (Nat.le_refl _) t]
   exact foldD_congr fun j hj _ => ⟨fun _ => hD j hj, fun _ => trivial⟩
 have hst := hI.step.sub hsub
 have hle := h.n0_le ops.size (Nat.le_refl _)
 have hup : ∀ j, j < ops.size → ∀ k, VisP ops S p j k → Nx p n0 (S ops.size).n k := fun j hj k hk => by
   have span : ∀ l, l < ops.size → (S l).n ≤ k ∧ k < (S (l + 1)).n → Nx p n0 (S ops.size).n k := fun l hl hk => by
     have := h.n0_le l (by omega)
     have := h.mono ops.size (l + 1) (by omega) (Nat.le_refl _)
     exact .inr (by omega)
   rcases hk with (hk | ⟨l, hl, hk⟩) | hk
   · exact .inl hk
   · exact span l (by have := ahead_lt h.edges j l hl; omega) hk
   · exact span j hj hk
 have hag : Agr p φ0 φ := fun k hk => hI.step.only k (.inl (hp k hk))
 refine ⟨⟨⟨hst.rel, fun k hk => Nx.lt hp hle hk, fun g hg => .inl (hS.base.gl g hg), Nat.le_trans (h.start ▸ hS.base.gn) hle, fun k b hb => ?_, fun t v hv => ?_, fun t v hv => ?_⟩, ?_, ?_, ?_⟩, hst⟩
 · have hm := hsub k b hb
   have hlt := hNB k b hb
   rcases foldD_cases (T := Tc S K) (out := fun j k => hget (S (j + 1)).H k) (init := hget (S 0).H) (D := D) (N := ops.size) (k := k) with ⟨h3, _⟩ | ⟨j, hj, hd, ht, h3⟩
   · have h4 : hget (S 0).H k = some b := by rw [← h3]; exact hm
     have := hS.base.sm k b h4
     exact ⟨.inl this.1, scB_mono (fun _ h => .inl h) _ this.2⟩
   · have h4 : hget (S (j + 1)).H k = some b := by rw [← h3]; exact hm
     have := hI.scope j hd hj k b ht h4
     exact ⟨this.1.imp id fun hh => ⟨hh, hlt⟩, scB_mono (hup j hj) _ this.2⟩
 · rw [hfr] at hv
   exact hI.ar t v hv
 · rw [hfr] at hv
   rcases foldD_cases (T := Wr ops) (out := fun j _ => some (vv j)) (init := lk (S 0).fr) (D := D) (N := ops.size) (k := t) with ⟨h3, _⟩ | ⟨j, hj, hd, _, h3⟩
   · have h4 : lk (S 0).fr t = some v := by rw [← h3]; exact hv
     exact sc_mono (fun _ h => .inl h) _ (hS.base.sf t v h4)
   · have h4 : some (vv j) = some v := by rw [← h3]; exact hv
     injection h4 with h4
     subst h4
     exact sc_mono (hup j hj) _ (hI.vals j hd hj)
 · rw [hI.size, (h.sz_at ops.size (Nat.le_refl _)).1]
 · rw [hI.defs, hS.defs, (h.sz_at ops.size (Nat.le_refl _)).2]
   exact List.map_congr_left fun k hk => by rw [(hag k (hS.marks k hk)).1]
 · intro k hk
   rw [(h.sz_at ops.size (Nat.le_refl _)).2] at hk
   exact .inl (hS.marks k hk)
end
theorem SRel.drew {P : Program} {p : Nat → Prop} {φ : Vl} {st : St} {a : Act} {w : World} (h : SRel P p φ st a w) : SRel P p φ st a w.drew :=
 ⟨⟨h.base.rel.drew, h.base.lt, h.base.gl, h.base.gn, h.base.sm, h.base.ar, h.base.sf⟩, h.size, h.defs, h.marks⟩
theorem drawSound {P : Program} (hm : P.follows .mixedOrders = true) : DrawSound P := by
 intro r m hr ops id ro st st' hdr hrun p φ a w hS hl
 have hNB : NB st := fun k b hb => hS.base.lt k (hS.base.sm k b hb).1
 obtain ⟨S, DS, K, vv, e1, e2, e3, hNB', _, hplan⟩ := opsD_plan ops.toList 0 [] st st' hNB hrun fun j => by simp
 have hN : 0 + ops.toList.length = ops.size := by simp
 rw [hN] at e3 hplan
 subst e1 e3
 have hdr' := hdr
 unfold drawOk at hdr'
 simp only [Bool.and_eq_true] at hdr'
 have hE : Edges ops := fun i o ho e he hb => by
   have := edgesOk_spec _ 0 hdr'.2 i o (by simpa using ho) e he hb
   omega
 have hF : Full P r ops (S 0).n S DS K vv := ⟨hE, hplan, rfl, e2⟩
 refine wpIn_region_any hm ?_
 have hS' := hS.drew
 have hD0 : ∀ j, ¬ DoneB (Array.replicate ops.size false) j := fun j hj => by
   unfold DoneB at hj
   rw [Array.getD_eq_getD_getElem?, Array.getElem?_replicate] at hj
   split at hj <;> simp at hj
 refine hF.any_ok hr hdr hS' φ ro (fun D φ' a' w' hD hI => ?_) ops.size _ φ a _ (by simp) (fun i j hi => absurd hi (hD0 i)) ?_ (Inv.start hF hS' hD0)
 · obtain ⟨h1, h2⟩ := hI.finish hF hS' hNB' hD
   exact ⟨rfl, φ', h1, (Step.drew hS.base.rel).trans h2⟩
 · unfold undone
   exact Nat.le_trans (List.length_filter_le _ _) (by simp)
theorem ev_sound {P : Program} (hm : P.follows .mixedOrders = true) {O : Oracle} (hO : OracleOk P O) (m : Nat) : RecOk P (ev P O m) m := ev_ok (drawSound hm) hO m
end
end Go.Ab
