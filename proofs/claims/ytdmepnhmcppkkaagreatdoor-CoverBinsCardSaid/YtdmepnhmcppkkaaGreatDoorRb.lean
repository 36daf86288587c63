/-
Contracts and plain reckonings behind the law CoverBins, part 2 of 3 (each under the conditions in its statement).
-/
import Derived.Test.YtdmepnhmcppkkaaGreatDoorRa
import Derived.Test.YtdmepnhmcppkkaaGreatDoorJa
/-
What an unnamed heap is known to hold: cells, rows; the same with blocks above it, and frozen. Regions of open order over it.
-/
namespace Go.Ab
open Go
/-! ### cells of a heap with blocks above -/
def cellB (o : Nat) : Blk → Option Value
 | .cells cs _ => cs[o]?
 | .ext cs _ _ => cs[o]?
 | .row cs _ => cs[o]?
 | .inp o' cs => if o' ≤ o then cs[o - o']? else none
 | _ => none
theorem cellA_eq (H : Heap) (k o : Nat) : cellA H k o = (hget H k).bind (cellB o) := by
 unfold cellA
 cases hget H k with
 | none => rfl
 | some b => cases b <;> rfl
theorem cellA_cons {H : Heap} {j k o : Nat} {b : Blk} : cellA ((j, b) :: H) k o = if j = k then cellB o b else cellA H k o := by
 rw [cellA_eq, hget_cons]
 by_cases h : j = k
 · rw [if_pos h, if_pos h]; rfl
 · rw [if_neg h, if_neg h, cellA_eq]
def cellsB (o n : Nat) : Blk → Option (List Value)
 | .cells cs _ => if o + n ≤ cs.length then some ((cs.drop o).take n) else none
 | .ext cs _ _ => if o + n ≤ cs.length then some ((cs.drop o).take n) else none
 | .row cs _ => if o + n ≤ cs.length then some ((cs.drop o).take n) else none
 | .inp o' cs => if o' ≤ o ∧ o - o' + n ≤ cs.length then some ((cs.drop (o - o')).take n) else none
 | _ => none
theorem cellsA_eq (H : Heap) (k o n : Nat) : cellsA H k o n = (hget H k).bind (cellsB o n) := by
 unfold cellsA
 cases hget H k with
 | none => rfl
 | some b => cases b <;> rfl
theorem cellsA_cons {H : Heap} {j k o n : Nat} {b : Blk} : cellsA ((j, b) :: H) k o n = if j = k then cellsB o n b else cellsA H k o n := by
 rw [cellsA_eq, hget_cons]
 by_cases h : j = k
 · rw [if_pos h, if_pos h]; rfl
 · rw [if_neg h, if_neg h, cellsA_eq]
theorem cellsA_cell {H : Heap} {k o n : Nat} {cs : List Value} (h : cellsA H k o n = some cs) {i : Nat} (hi : i < n) : cellA H k (o + i) = cs[i]? ∧ cs.length = n := by
 rw [cellsA_eq] at h
 rw [cellA_eq]
 cases hb : hget H k with
 | none => rw [hb] at h; cases h
 | some b =>
   rw [hb] at h
   simp only [Option.bind_some] at h ⊢
   cases b <;> simp only [cellsB, cellB] at h ⊢
   all_goals first
     | (split at h
        · rename_i hc
          injection h with h; subst h
          refine ⟨?_, by simp; omega⟩
          first
            | (rw [if_pos (by omega), List.getElem?_take, if_pos hi, List.getElem?_drop]; congr 1; omega)
            | (rw [List.getElem?_take, if_pos hi, List.getElem?_drop])
        · cases h)
     | cases h
theorem cellA_lt {H : Heap} {n k o : Nat} {v : Value} (hl : ∀ k b, hget H k = some b → k < n) (h : cellA H k o = some v) : k < n := by
 rw [cellA_eq] at h
 cases hb : hget H k with
 | none => rw [hb] at h; cases h
 | some b => exact hl k b hb
theorem cellsA_lt {H : Heap} {n k o m : Nat} {v : List Value} (hl : ∀ k b, hget H k = some b → k < n) (h : cellsA H k o m = some v) : k < n := by
 rw [cellsA_eq] at h
 cases hb : hget H k with
 | none => rw [hb] at h; cases h
 | some b => exact hl k b hb
theorem old_ne {n k : Nat} (h : k < n) : (n = k) = False ∧ ∀ c, (n + c = k) = False := ⟨eq_false (by omega), fun c => eq_false (by omega)⟩
/-! ### the same blocks, and more -/
def Sub (H H' : Heap) : Prop := ∀ k b, hget H k = some b → hget H' k = some b
theorem Sub.refl (H : Heap) : Sub H H := fun _ _ h => h
theorem Sub.cons {H H' : Heap} {j : Nat} {b : Blk} (hj : hget H j = none) (h : Sub H H') : Sub H ((j, b) :: H') := fun k c hk => by
 rw [hget_cons, if_neg]
 · exact h k c hk
 · intro e; subst e; rw [hj] at hk; cases hk
theorem Sub.app {H H' A : Heap} (hA : ∀ x ∈ A, hget H x.1 = none) (h : Sub H H') : Sub H (A ++ H') := by
 induction A with
 | nil => exact h
 | cons x A ih => exact Sub.cons (hA x (List.mem_cons_self ..)) (ih fun y hy => hA y (List.mem_cons_of_mem _ hy))
theorem Sub.trans {H H1 H2 : Heap} (h1 : Sub H H1) (h2 : Sub H1 H2) : Sub H H2 := fun k b h => h2 k b (h1 k b h)
theorem Sub.cell {H H' : Heap} (h : Sub H H') {k o : Nat} {v : Value} (hc : cellA H k o = some v) : cellA H' k o = some v := by
 rw [cellA_eq] at hc ⊢
 cases hb : hget H k with
 | none => rw [hb] at hc; cases hc
 | some b => rw [hb] at hc; rw [h k b hb]; exact hc
theorem Sub.cells {H H' : Heap} (h : Sub H H') {k o n : Nat} {v : List Value} (hc : cellsA H k o n = some v) : cellsA H' k o n = some v := by
 rw [cellsA_eq] at hc ⊢
 cases hb : hget H k with
 | none => rw [hb] at hc; cases hc
 | some b => rw [hb] at hc; rw [h k b hb]; exact hc
theorem no_new {H : Heap} {n : Nat} (hl : ∀ k b, hget H k = some b → k < n) : hget H n = none ∧ ∀ c, hget H (n + c) = none := by
 have go : ∀ c, hget H (n + c) = none := fun c => by
   cases hb : hget H (n + c) with
   | none => rfl
   | some b => have := hl _ _ hb; omega
 exact ⟨go 0, go⟩
/-! ### the plain part of a heap, in order -/
def plainB2 : Blk → Bool
 | .cells _ _ | .ext _ _ _ | .inp _ _ | .row _ _ | .tab _ => true
 | _ => false
def plainH : Heap → Bool
 | [] => true
 | (_, b) :: H => plainB2 b && plainH H
def tidyL (H : Heap) (n : Nat) : List Nat → Heap
 | [] => []
 | k :: ks => match hget H k with
   | some b => if k < n ∧ plainB2 b = true then (k, b) :: tidyL H n ks else tidyL H n ks
   | none => tidyL H n ks
def tidy (n : Nat) (H : Heap) : Heap := tidyL H n (H.map (·.1))
theorem hget_tidyL {H : Heap} {n : Nat} : ∀ (ks : List Nat) (k : Nat) (b : Blk), hget (tidyL H n ks) k = some b ↔ k ∈ ks ∧ hget H k = some b ∧ k < n ∧ plainB2 b = true
 | [], k, b => by simp [tidyL]
 | j :: ks, k, b => by
   have ih := hget_tidyL (H := H) (n := n) ks k b
   unfold tidyL
   cases hj : hget H j with
   | none =>
     simp only
     rw [ih]
     constructor
     · rintro ⟨h1, h2⟩; exact ⟨List.mem_cons_of_mem _ h1, h2⟩
     · rintro ⟨h1, h2, h3⟩
       rcases List.mem_cons.1 h1 with rfl | h1
       · rw [hj] at h2; cases h2
       · exact ⟨h1, h2, h3⟩
   | some c =>
     simp only
     by_cases hc : j < n ∧ plainB2 c = true
     · rw [if_pos hc, hget_cons]
       by_cases e : j = k
       · subst e
         rw [if_pos rfl]
         constructor
         · intro h; injection h with h; subst h; exact ⟨List.mem_cons_self .., hj, hc⟩
         · rintro ⟨_, h2, _⟩; rw [hj] at h2; exact h2
       · rw [if_neg e, ih]
         constructor
         · rintro ⟨h1, h2⟩; exact ⟨List.mem_cons_of_mem _ h1, h2⟩
         · rintro ⟨h1, h2⟩
           rcases List.mem_cons.1 h1 with rfl | h1
           · exact absurd rfl e
           · exact ⟨h1, h2⟩
     · rw [if_neg hc, ih]
       constructor
       · rintro ⟨h1, h2⟩; exact ⟨List.mem_cons_of_mem _ h1, h2⟩
       · rintro ⟨h1, h2, h3⟩
         rcases List.mem_cons.1 h1 with rfl | h1
         · rw [hj] at h2; injection h2 with h2; subst h2; exact absurd h3 hc
         · exact ⟨h1, h2, h3⟩
theorem hget_tidy {H : Heap} {n k : Nat} {b : Blk} : hget (tidy n H) k = some b ↔ hget H k = some b ∧ k < n ∧ plainB2 b = true := by
 rw [tidy, hget_tidyL]
 constructor
 · exact fun h => h.2
 · exact fun h => ⟨List.mem_map.2 ⟨(k, b), hget_mem _ _ _ h.1, rfl⟩, h⟩
theorem namesOk_tidyL {H : Heap} {n : Nat} : ∀ (ks : List Nat), namesOk n (tidyL H n ks) = true ∧ plainH (tidyL H n ks) = true
 | [] => ⟨rfl, rfl⟩
 | k :: ks => by
   have ih := namesOk_tidyL (H := H) (n := n) ks
   unfold tidyL
   cases hget H k with
   | none => exact ih
   | some b =>
     simp only
     split
     · rename_i hc
       refine ⟨?_, by simp [plainH, hc.2, ih.2]⟩
       simp only [namesOk]
       rw [(blt_iff _ _).2 hc.1]
       exact ih.1
     · exact ih
theorem namesOk_mono {m n : Nat} (h : n ≤ m) : ∀ H : Heap, namesOk n H = true → namesOk m H = true
 | [], _ => rfl
 | (k, b) :: H, hk => by
   simp only [namesOk] at hk ⊢
   split at hk
   · rename_i hb
     have := (blt_iff _ _).1 hb
     rw [(blt_iff _ _).2 (by omega : k < m)]
     exact namesOk_mono h H hk
   · cases hk
theorem AC.tidied {P : Program} {f : FuncId} {args : List Value} {H B : Heap} {n : Nat} {v : Value} {n' : Nat} (hB : ∀ x ∈ B, n ≤ x.1) (h : AC P f args (Ab.tidy n H) n v (B ++ Ab.tidy n H) n') : AC P f args H n v (B ++ H) n' := by
 refine AC.given fun hlt _ _ => ?_
 refine h.frame (fun k b hk => (hget_tidy.1 hk).1) fun k b hk => ?_
 have go : ∀ (B : Heap), (∀ x ∈ B, n ≤ x.1) → hget (B ++ H) k = some b → hget (B ++ Ab.tidy n H) k = some b ∨ (hget H k = some b ∧ hget (Ab.tidy n H) k = none) := by
   intro B
   induction B with
   | nil =>
     intro _ hk
     cases ht : hget (Ab.tidy n H) k with
     | none => exact .inr ⟨hk, rfl⟩
     | some c =>
       have h1 := (hget_tidy.1 ht).1
       rw [show hget H k = some b from hk] at h1
       injection h1 with h1; subst h1
       exact .inl ht
   | cons x B ih =>
     intro hB hk
     obtain ⟨j, y⟩ := x
     rw [List.cons_append, hget_cons] at hk ⊢
     by_cases e : j = k
     · rw [if_pos e] at hk ⊢; exact .inl hk
     · rw [if_neg e] at hk ⊢
       exact ih (fun x hx => hB x (List.mem_cons_of_mem _ hx)) hk
 exact go B hB hk
theorem cellsA_tidy {H : Heap} {n k o m : Nat} (hl : ∀ k b, hget H k = some b → k < n) {cs : List Value} (h : cellsA H k o m = some cs) : cellsA (tidy n H) k o m = some cs := by
 rw [cellsA_eq] at h ⊢
 cases hb : hget H k with
 | none => rw [hb] at h; cases h
 | some b =>
   rw [hb] at h
   have hp : plainB2 b = true := by
     cases b <;> first | rfl | cases h
   rw [hget_tidy.2 ⟨hb, hl k b hb, hp⟩]
   exact h
/-! ### frozen -/
def frz : Blk → Blk
 | .cells cs _ => .inp 0 cs
 | .ext cs _ sz => .row cs sz
 | b => b
def frzH : Heap → Heap
 | [] => []
 | (k, b) :: H => (k, frz b) :: frzH H
theorem hget_frz : ∀ (H : Heap) (k : Nat), hget (frzH H) k = (hget H k).map frz
 | [], _ => rfl
 | (j, b) :: H, k => by
   rw [frzH, hget_cons, hget_cons, hget_frz H k]
   by_cases h : j = k
   · rw [if_pos h, if_pos h]; rfl
   · rw [if_neg h, if_neg h]
theorem cellsA_frz (H : Heap) (k o n : Nat) : cellsA (frzH H) k o n = cellsA H k o n := by
 rw [cellsA_eq, cellsA_eq, hget_frz]
 cases hget H k with
 | none => rfl
 | some b => cases b <;> simp [frz, cellsB]
theorem cellA_frz (H : Heap) (k o : Nat) : cellA (frzH H) k o = cellA H k o := by
 rw [cellA_eq, cellA_eq, hget_frz]
 cases hget H k with
 | none => rfl
 | some b => cases b <;> simp [frz, cellB]
theorem rowOf_frz (H : Heap) (k : Nat) : rowOf (frzH H) k = rowOf H k := by
 unfold rowOf
 rw [hget_frz]
 cases hget H k with
 | none => rfl
 | some b => cases b <;> rfl
theorem handA_frz : ∀ (H : Heap) (L : List Nat), (∀ x ∈ H, memN L x.1 = true) → plainH H = true → handA L [] H = frzH H
 | [], _, _, _ => rfl
 | (k, b) :: H, L, hL, hp => by
   simp only [plainH, Bool.and_eq_true] at hp
   have ih := handA_frz H L (fun x hx => hL x (List.mem_cons_of_mem _ hx)) hp.2
   have hk := hL (k, b) (List.mem_cons_self ..)
   have hp1 := hp.1
   cases b <;> first | (simp only [handA, memN, hk, ih, frzH, frz]; done) | cases hp1
theorem dnames_plain : ∀ (H : Heap), plainH H = true → dnames H = H.map (·.1)
 | [], _ => rfl
 | (k, b) :: H, hp => by
   simp only [plainH, Bool.and_eq_true] at hp
   have ih := dnames_plain H hp.2
   have hp1 := hp.1
   cases b <;> first | (simp only [dnames, ih, List.map_cons]; done) | cases hp1
theorem handA_dnames {H : Heap} (h : plainH H = true) : handA (dnames H) [] H = frzH H :=
 handA_frz H _ (fun x hx => (memN_iff _ _).2 (by rw [dnames_plain H h]; exact List.mem_map_of_mem hx)) h
theorem takeNew_frz {H : Heap} {n : Nat} (h : namesOk n H = true) : takeNew n (frzH H) = [] := by
 cases H with
 | nil => rfl
 | cons x H =>
   obtain ⟨k, b⟩ := x
   have := namesOk_mem _ _ h (k, b) (List.mem_cons_self ..)
   rw [frzH, takeNew, ble_dec]
   rw [decide_eq_false (by omega)]
/-! ### regions of open order, calls at the frozen heap -/
def handU (P : Program) (r : Rec) (mk : List Nat) (i : Nat) (o : Oper) (fr : Fr) (st : St) : Option St :=
 match runOp P r o { st with fr := fr, H := frzH st.H } with
 | some (v, H, k) => match Nat.ble st.n k && namesOk k (takeNew st.n H) && (Nat.beq k st.n || memN mk i) with
   | true => some { st with fr := putA st.fr o.dst v, H := takeNew st.n H ++ st.H, n := k }
   | false => none
 | none => none
def doneU (P : Program) (r : Rec) (al mk late : List Nat) (n0 i : Nat) (o : Oper) (fr : Fr) (st : St) : Option St :=
 match isPure o.op with
 | true => pureS P o fr st
 | false => match isRead o.op with
   | true => match footA P fr o.op with
     | some f => readT P late n0 i o fr st f.see
     | none => none
   | false => match memN al i with
     | true => aloneT P r mk i o fr st
     | false => match footA P fr o.op with
       | some f => match f.put.isEmpty && visT late n0 i st.n f.see with
         | true => handT P r mk i o f.see fr st
         | false => none
       | none => match memN late i && plainH st.H with
         | true => handU P r mk i o fr st
         | false => none
def oneU (P : Program) (r : Rec) (ops : Array Oper) (al mk late : List Nat) (n0 i : Nat) (o : Oper) (st : St) : Option St :=
 match dstOk st.sz o.dst with
 | false => none
 | true => match wantedA ops (trim (lookTmps ops o) st.fr) o with
   | none => none
   | some false => some { st with fr := putA st.fr o.dst undefV }
   | some true => doneU P r al mk late n0 i o (trim (lookTmps ops o) st.fr) st
def opsU (P : Program) (r : Rec) (ops : Array Oper) (al mk late : List Nat) (n0 : Nat) : List Oper → Nat → St → Option St
 | [], _, st => some st
 | o :: os, i, st => match oneU P r ops al mk late n0 i o st with
   | some st' => opsU P r ops al mk late n0 os (i + 1) st'
   | none => none
def runU (P : Program) (r : Rec) (ops : Array Oper) (al mk late : List Nat) (st : St) : Option St :=
 match namesOk st.n st.H with
 | true => opsU P r ops al mk late st.n ops.toList 0 st
 | false => none
theorem opsU_ok {P : Program} {r : Rec} {ops : Array Oper} {al mk late : List Nat} {n0 : Nat} : ∀ (os : List Oper) (i : Nat) (st st' : St), opsU P r ops al mk late n0 os i st = some st' → opsT P r ops al mk late n0 os i st = some st'
 | [], _, _, _, h => h
 | o :: os, i, st, st', h => by
   simp only [opsU] at h
   split at h
   · rename_i st1 h1
     have key : oneT P r ops al mk late n0 i o st = some st1 := by
       unfold oneU at h1
       unfold oneT
       split at h1
       · cases h1
       · rename_i hd
         rw [hd]
         simp only
         split at h1
         · cases h1
         · rename_i hw; rw [hw]; exact h1
         · rename_i hw
           rw [hw]
           simp only
           unfold doneU at h1
           unfold doneT
           split at h1
           · rename_i hp; rw [hp]; exact h1
           · rename_i hp
             rw [hp]
             simp only
             split at h1
             · rename_i hrd; rw [hrd]; exact h1
             · rename_i hrd
               rw [hrd]
               simp only
               split at h1
               · rename_i hm; rw [hm]; exact h1
               · rename_i hm
                 rw [hm]
                 simp only
                 split at h1
                 · rename_i f hf; rw [hf]; exact h1
                 · rename_i hf
                   rw [hf]
                   simp only
                   split at h1
                   · rename_i hc
                     rw [Bool.and_eq_true] at hc
                     rw [hc.1]
                     simp only
                     unfold handT
                     rw [handA_dnames hc.2]
                     exact h1
                   · cases h1
     simp only [opsT, key]
     exact opsU_ok os (i + 1) st1 st' h
   · cases h
section
variable {P : Program} {n0 : Nat} {ro : Option Nat} {st st' : St} {K : Ex → St → Prop} {r : Rec} {m : Nat}
theorem E.drawU (hm : P.follows .mixedOrders = true) (hr : RecOk P r m) (al mk late : List Nat) {id : Nat} {ops : Array Oper} (hd : drawT ops (Region.before ops) al mk late = true) (h : runU P r ops al mk late st = some st') (k : K .normal st') : E P n0 ro (.region id ops true) st K := by
 refine E.drawC hm hr al mk late hd ?_ k
 unfold runU at h
 unfold runT
 split at h
 · rename_i hn; rw [hn]; exact opsU_ok _ _ _ _ h
 · cases h
end
attribute [simp] runU opsU oneU doneU handU frz frzH plainH plainB2 cellB cellsB
end Go.Ab

/-
Lists that an unnamed heap holds, read as a whole: of numbers, of texts, of lists; the same in a larger heap, a tidied and a frozen one.
-/
namespace Go.Ab
open Go
theorem Leads.keep {P : Program} {n0 : Nat} {s s2 : St} (hn : s2.n = s.n) (hz : s2.sz = s.sz) (hm : s2.marks = s.marks) (hf : ∀ x ∈ s2.fr, lk s.fr x.1 = some x.2) (hh : Sub s2.H s.H) : Leads P n0 s s2 := by
 intro p φ M w0 hg hp a w φ1 hS hs
 have hf' : ∀ t v, lk s2.fr t = some v → lk s.fr t = some v := fun t v h => hf (t, v) (lk_mem _ _ _ h)
 rw [hn]
 exact ⟨φ1, ⟨⟨hS.base.rel.sub hh, hn ▸ hS.base.lt, hS.base.gl, hn ▸ hS.base.gn, fun k b hk => hS.base.sm k b (hh k b hk), fun t v hv => hS.base.ar t v (hf' t v hv), fun t v hv => hS.base.sf t v (hf' t v hv)⟩, hz ▸ hS.size, hm ▸ hS.defs, hm ▸ hS.marks⟩, hs.sub hh⟩
/-! ### lists, element by element -/
def mapO {α β : Type} (f : β → Option α) : List β → Option (List α)
 | [] => some []
 | x :: xs => match f x, mapO f xs with
   | some y, some ys => some (y :: ys)
   | _, _ => none
def chunks (sz : Nat) : Nat → List Value → List (List Value)
 | 0, _ => []
 | k + 1, cs => cs.take sz :: chunks sz k (cs.drop sz)
theorem mapO_get {α β : Type} {f : β → Option α} : ∀ {xs : List β} {ys : List α}, mapO f xs = some ys → xs.length = ys.length ∧ ∀ (i : Nat) x, xs[i]? = some x → f x = ys[i]?
 | [], ys, h => by simp only [mapO, Option.some.injEq] at h; subst h; exact ⟨rfl, fun i x hx => by simp at hx⟩
 | x :: xs, ys, h => by
   simp only [mapO] at h
   split at h
   · rename_i y ys' h1 h2
     injection h with h; subst h
     obtain ⟨e1, e2⟩ := mapO_get h2
     refine ⟨by simp [e1], fun i z hz => ?_⟩
     cases i with
     | zero => simp at hz ⊢; subst hz; exact h1
     | succ i => simp at hz ⊢; exact e2 i z hz
   · cases h
theorem mapO_of {α β : Type} {f : β → Option α} : ∀ {xs : List β} {ys : List α}, xs.length = ys.length → (∀ (i : Nat) x, xs[i]? = some x → f x = ys[i]?) → mapO f xs = some ys
 | [], ys, h, _ => by cases ys with | nil => rfl | cons => simp at h
 | x :: xs, [], h, _ => by simp at h
 | x :: xs, y :: ys, h, hg => by
   have h0 := hg 0 x rfl
   have ih := mapO_of (xs := xs) (ys := ys) (by simpa using h) fun i z hz => by simpa using hg (i + 1) z (by simpa using hz)
   simp only [mapO, h0, ih, List.getElem?_cons_zero]
theorem mapO_mono {α β : Type} {f g : β → Option α} (h : ∀ x y, f x = some y → g x = some y) : ∀ {xs : List β} {ys : List α}, mapO f xs = some ys → mapO g xs = some ys
 | [], _, e => e
 | x :: xs, ys, e => by
   simp only [mapO] at e ⊢
   split at e
   · rename_i y ys' h1 h2
     rw [h x y h1, mapO_mono h h2]; exact e
   · cases e
theorem chunks_len (sz : Nat) : ∀ (k : Nat) (cs : List Value), (chunks sz k cs).length = k
 | 0, _ => rfl
 | k + 1, cs => by simp [chunks, chunks_len sz k]
theorem chunks_get (sz : Nat) : ∀ (k : Nat) (cs : List Value) (i : Nat), i < k → (chunks sz k cs)[i]? = some ((cs.drop (i * sz)).take sz)
 | 0, _, _, h => by omega
 | k + 1, cs, 0, _ => by simp [chunks]
 | k + 1, cs, i + 1, h => by
   rw [chunks, List.getElem?_cons_succ, chunks_get sz k _ i (by omega), List.drop_drop]
   congr 3
   rw [Nat.add_mul]; omega
abbrev Dec (α : Type) := Heap → List Value → Option α
def listV {α : Type} (sz : Nat) (dec : Dec α) (H : Heap) : Value → Option (List α)
 | .slice none 0 0 => some []
 | .slice (some a) len _ => if len < 2147483648 then (if len = 0 then some [] else if flat a = true then (cellsA H a.block a.off (len * sz)).bind fun cs => mapO (dec H) (chunks sz len cs) else none) else none
 | _ => none
theorem cells_part {H : Heap} {k o n sz i : Nat} {cs : List Value} (h : cellsA H k o (n * sz) = some cs) (hi : i < n) : cellsA H k (o + i * sz) sz = some ((cs.drop (i * sz)).take sz) := by
 have hm : i * sz + sz ≤ n * sz := by
   rw [← Nat.succ_mul]; exact Nat.mul_le_mul_right _ hi
 rw [cellsA_eq] at h ⊢
 cases hb : hget H k with
 | none => rw [hb] at h; cases h
 | some b =>
   rw [hb] at h
   simp only [Option.bind_some] at h ⊢
   have key : ∀ (xs : List Value) (p : Nat), p + n * sz ≤ xs.length → ((xs.drop (p + i * sz)).take sz) = ((((xs.drop p).take (n * sz)).drop (i * sz)).take sz) := fun xs p hp => by
     rw [List.drop_take, List.take_take, List.drop_drop, Nat.min_eq_left (by omega)]
   cases b <;> simp only [cellsB] at h ⊢
   all_goals first
     | (split at h
        · injection h with h; subst h
          first
            | (rw [if_pos (by omega), key _ _ (by omega)])
            | (rename_i hc
               rw [if_pos (by omega), ← key _ _ (by omega)]
               congr 3
               omega)
        · cases h)
     | cases h
theorem listV_form {α : Type} {sz : Nat} {dec : Dec α} {H : Heap} {v : Value} {l : List α} (h : listV sz dec H v = some l) :
   ∃ oa c, v = .slice oa l.length c ∧ l.length < 2147483648 ∧ (oa = none → c = 0) ∧ ∀ i (hi : i < l.length), ∃ a r, oa = some a ∧ flat a = true ∧ cellsA H a.block (a.off + i * sz) sz = some r ∧ dec H r = some l[i] := by
 unfold listV at h
 split at h
 · injection h with h; subst h
   exact ⟨none, 0, rfl, by simp, fun _ => rfl, fun i hi => by simp at hi⟩
 · rename_i a len c
   split at h
   · rename_i hlt
     split at h
     · rename_i h0
       injection h with h; subst h h0
       exact ⟨some a, c, rfl, by simp, fun e => (by cases e), fun i hi => by simp at hi⟩
     · split at h
       · rename_i hf
         obtain ⟨cs, hc, hm⟩ := Option.bind_eq_some_iff.1 h
         obtain ⟨e1, e2⟩ := mapO_get hm
         rw [chunks_len] at e1
         subst e1
         refine ⟨some a, c, rfl, hlt, fun e => (by cases e), fun i hi => ⟨a, _, rfl, hf, cells_part hc hi, ?_⟩⟩
         rw [e2 i _ (chunks_get sz _ cs i hi), List.getElem?_eq_getElem hi]
       · cases h
   · cases h
 · cases h
def DecMono {α : Type} (dec : Dec α) : Prop := ∀ H H' cs y, Sub H H' → dec H cs = some y → dec H' cs = some y
theorem listV_mono {α : Type} {sz : Nat} {dec : Dec α} (hd : DecMono dec) {H H' : Heap} (hs : Sub H H') {v : Value} {l : List α} (h : listV sz dec H v = some l) : listV sz dec H' v = some l := by
 unfold listV at h ⊢
 split at h
 · exact h
 · rename_i a len c
   split at h
   · rename_i hlt
     rw [if_pos hlt]
     split at h
     · rename_i h0; rw [if_pos h0]; exact h
     · rename_i h0
       rw [if_neg h0]
       split at h
       · rename_i hf
         obtain ⟨cs, hc, hm⟩ := Option.bind_eq_some_iff.1 h
         rw [if_pos hf, hs.cells hc]
         exact mapO_mono (fun x y => hd H H' x y hs) hm
       · cases h
   · cases h
 · cases h
theorem listV_cons {α : Type} {sz : Nat} {dec : Dec α} (hd : DecMono dec) {H : Heap} {j : Nat} {b : Blk} {v : Value} (hj : hget H j = none) (h : (listV sz dec H v).isSome = true) : listV sz dec ((j, b) :: H) v = listV sz dec H v := by
 obtain ⟨l, hl⟩ := Option.isSome_iff_exists.1 h
 rw [hl, listV_mono hd (Sub.cons hj (Sub.refl H)) hl]
def DecFrz {α : Type} (dec : Dec α) : Prop := ∀ H cs, dec (frzH H) cs = dec H cs
theorem listV_frz {α : Type} {sz : Nat} {dec : Dec α} (hd : DecFrz dec) (H : Heap) (v : Value) : listV sz dec (frzH H) v = listV sz dec H v := by
 unfold listV
 split
 · rfl
 · rw [show (dec (frzH H)) = dec H from funext (hd H)]
   simp only [cellsA_frz]
 · rfl
def DecTidy {α : Type} (dec : Dec α) : Prop := ∀ H n cs y, (∀ k b, hget H k = some b → k < n) → dec H cs = some y → dec (tidy n H) cs = some y
theorem listV_tidy {α : Type} {sz : Nat} {dec : Dec α} (hd : DecTidy dec) {H : Heap} {n : Nat} (hl : ∀ k b, hget H k = some b → k < n) {v : Value} {l : List α} (h : listV sz dec H v = some l) : listV sz dec (tidy n H) v = some l := by
 unfold listV at h ⊢
 split at h
 · exact h
 · rename_i a len c
   split at h
   · rename_i hlt
     rw [if_pos hlt]
     split at h
     · rename_i h0; rw [if_pos h0]; exact h
     · rename_i h0
       rw [if_neg h0]
       split at h
       · rename_i hf
         obtain ⟨cs, hc, hm⟩ := Option.bind_eq_some_iff.1 h
         rw [if_pos hf, cellsA_tidy hl hc]
         exact mapO_mono (fun x y => hd H n x y hl) hm
       · cases h
   · cases h
 · cases h
/-! ### numbers, texts -/
def decI : Dec Int := fun _ cs => match cs with
 | [.int .i64 n] => some n
 | _ => none
theorem decI_mono : DecMono decI := fun _ _ _ _ _ h => h
theorem decI_frz : DecFrz decI := fun _ _ => rfl
theorem decI_tidy : DecTidy decI := fun _ _ _ _ _ h => h
def decS : Dec ByteArray := fun _ cs => match cs with
 | [.string s] => some s
 | _ => none
theorem decS_mono : DecMono decS := fun _ _ _ _ _ h => h
theorem decS_frz : DecFrz decS := fun _ _ => rfl
theorem decS_tidy : DecTidy decS := fun _ _ _ _ _ h => h
abbrev intV (H : Heap) (v : Value) : Option (List Int) := listV 1 decI H v
abbrev strV (H : Heap) (v : Value) : Option (List ByteArray) := listV 1 decS H v
def decL {α : Type} (sz : Nat) (dec : Dec α) : Dec (List α) := fun H cs => match cs with
 | [v] => listV sz dec H v
 | _ => none
theorem decL_mono {α : Type} {sz : Nat} {dec : Dec α} (hd : DecMono dec) : DecMono (decL sz dec) := fun H H' cs y hs h => by
 unfold decL at h ⊢
 split at h
 · exact listV_mono hd hs h
 · cases h
theorem decL_frz {α : Type} {sz : Nat} {dec : Dec α} (hd : DecFrz dec) : DecFrz (decL sz dec) := fun H cs => by
 unfold decL
 split
 · exact listV_frz hd H _
 · rfl
theorem decL_tidy {α : Type} {sz : Nat} {dec : Dec α} (hd : DecTidy dec) : DecTidy (decL sz dec) := fun H n cs y hl h => by
 unfold decL at h ⊢
 split at h
 · exact listV_tidy hd hl h
 · cases h
abbrev nestV (H : Heap) (v : Value) : Option (List (List Int)) := listV 1 (decL 1 decI) H v
theorem decNI_mono : DecMono (decL 1 decI) := decL_mono decI_mono
theorem cells_one {H : Heap} {k o : Nat} {r : List Value} (h : cellsA H k o 1 = some r) : ∃ x, r = [x] ∧ cellA H k o = some x := by
 obtain ⟨h1, h2⟩ := cellsA_cell h (i := 0) (by omega)
 obtain ⟨x, rfl⟩ : ∃ x, r = [x] := by
   match r, h2 with
   | [x], _ => exact ⟨x, rfl⟩
 exact ⟨x, rfl, by simpa using h1⟩
theorem intV_form {H : Heap} {v : Value} {l : List Int} (h : intV H v = some l) :
   ∃ oa c, v = .slice oa l.length c ∧ l.length < 2147483648 ∧ (oa = none → c = 0) ∧ ∀ i (hi : i < l.length), ∃ a, oa = some a ∧ flat a = true ∧ cellA H a.block (a.off + i) = some (.int .i64 l[i]) := by
 obtain ⟨oa, c, e1, e2, e0, e3⟩ := listV_form h
 refine ⟨oa, c, e1, e2, e0, fun i hi => ?_⟩
 obtain ⟨a, r, f1, f2, f3, f4⟩ := e3 i hi
 obtain ⟨x, rfl, hx⟩ := cells_one f3
 rw [Nat.mul_one] at hx
 unfold decI at f4
 split at f4
 · rename_i n hn
   injection hn with hn
   injection f4 with f4
   subst hn f4
   exact ⟨a, f1, f2, hx⟩
 · cases f4
theorem strV_form {H : Heap} {v : Value} {l : List ByteArray} (h : strV H v = some l) :
   ∃ oa c, v = .slice oa l.length c ∧ l.length < 2147483648 ∧ (oa = none → c = 0) ∧ ∀ i (hi : i < l.length), ∃ a, oa = some a ∧ flat a = true ∧ cellA H a.block (a.off + i) = some (.string l[i]) := by
 obtain ⟨oa, c, e1, e2, e0, e3⟩ := listV_form h
 refine ⟨oa, c, e1, e2, e0, fun i hi => ?_⟩
 obtain ⟨a, r, f1, f2, f3, f4⟩ := e3 i hi
 obtain ⟨x, rfl, hx⟩ := cells_one f3
 rw [Nat.mul_one] at hx
 unfold decS at f4
 split at f4
 · rename_i n hn
   injection hn with hn
   injection f4 with f4
   subst hn f4
   exact ⟨a, f1, f2, hx⟩
 · cases f4
theorem decL_form {α : Type} {sz : Nat} {dec : Dec α} {H : Heap} {v : Value} {l : List (List α)} (h : listV 1 (decL sz dec) H v = some l) :
   ∃ oa c, v = .slice oa l.length c ∧ l.length < 2147483648 ∧ (oa = none → c = 0) ∧ ∀ i (hi : i < l.length), ∃ a r, oa = some a ∧ flat a = true ∧ cellA H a.block (a.off + i) = some r ∧ listV sz dec H r = some l[i] := by
 obtain ⟨oa, c, e1, e2, e0, e3⟩ := listV_form h
 refine ⟨oa, c, e1, e2, e0, fun i hi => ?_⟩
 obtain ⟨a, r, f1, f2, f3, f4⟩ := e3 i hi
 obtain ⟨x, rfl, hx⟩ := cells_one f3
 rw [Nat.mul_one] at hx
 exact ⟨a, x, f1, f2, hx, f4⟩
theorem nestV_form {H : Heap} {v : Value} {l : List (List Int)} (h : nestV H v = some l) :
   ∃ oa c, v = .slice oa l.length c ∧ l.length < 2147483648 ∧ (oa = none → c = 0) ∧ ∀ i (hi : i < l.length), ∃ a r, oa = some a ∧ flat a = true ∧ cellA H a.block (a.off + i) = some r ∧ intV H r = some l[i] := decL_form h
/-! ### what is made reads as it was made -/
theorem chunks_one : ∀ (cs : List Value), chunks 1 cs.length cs = cs.map fun v => [v]
 | [] => rfl
 | v :: cs => by simp [chunks, chunks_one cs]
theorem listV_mk {α : Type} {dec : Dec α} {H : Heap} {a : Addr} {c : Nat} {cs : List Value} {l : List α} (hf : flat a = true) (hc : cellsA H a.block a.off cs.length = some cs) (hl : cs.length = l.length) (hlt : l.length < 2147483648) (hd : ∀ (i : Nat) v, cs[i]? = some v → dec H [v] = l[i]?) : listV 1 dec H (.slice (some a) l.length c) = some l := by
 unfold listV
 simp only
 rw [if_pos hlt]
 split
 · rename_i h0
   rw [List.length_eq_zero_iff] at h0
   rw [h0]
 · try rw [if_pos hf]
   rw [← hl, Nat.mul_one, hc]
   simp only [Option.bind_some]
   rw [chunks_one]
   refine mapO_of (by simp [hl]) fun i x hx => ?_
   simp only [List.getElem?_map, Option.map_eq_some_iff] at hx
   obtain ⟨v, hv, rfl⟩ := hx
   exact hd i v hv
theorem dec_iv {H : Heap} {l : List Int} (i : Nat) (v : Value) (h : (l.map iv)[i]? = some v) : decI H [v] = l[i]? := by
 simp only [List.getElem?_map, Option.map_eq_some_iff] at h
 obtain ⟨n, hn, rfl⟩ := h
 rw [hn]; rfl
theorem dec_sv {H : Heap} {l : List ByteArray} (i : Nat) (v : Value) (h : (l.map sv)[i]? = some v) : decS H [v] = l[i]? := by
 simp only [List.getElem?_map, Option.map_eq_some_iff] at h
 obtain ⟨n, hn, rfl⟩ := h
 rw [hn]; rfl
theorem intV_ext {H : Heap} {k c t : Nat} {l : List Int} (h : hget H k = some (.ext (l.map iv) t 1)) (hl : l.length < 2147483648) : intV H (.slice (some ⟨k, 0, some 0⟩) l.length c) = some l :=
 listV_mk (cs := l.map iv) rfl (by rw [cellsA_eq, h]; simp [List.take_of_length_le]) (by simp) hl dec_iv
theorem intV_cells {H : Heap} {k c t : Nat} {l : List Int} (h : hget H k = some (.cells (l.map iv) t)) (hl : l.length < 2147483648) : intV H (.slice (some ⟨k, 0, none⟩) l.length c) = some l :=
 listV_mk (cs := l.map iv) rfl (by rw [cellsA_eq, h]; simp [List.take_of_length_le]) (by simp) hl dec_iv
theorem intV_inp {H : Heap} {k o c : Nat} {l : List Int} (h : hget H k = some (.inp o (l.map iv))) (hl : l.length < 2147483648) : intV H (.slice (some ⟨k, o, none⟩) l.length c) = some l :=
 listV_mk (cs := l.map iv) rfl (by rw [cellsA_eq, h]; simp [List.take_of_length_le]) (by simp) hl dec_iv
theorem listV_nil {α : Type} {sz : Nat} {dec : Dec α} {H : Heap} : listV sz dec H (.slice none 0 0) = some [] := rfl
theorem listV_none {α : Type} {sz : Nat} {dec : Dec α} {H : Heap} {a : Addr} {c : Nat} : listV sz dec H (.slice (some a) 0 c) = some [] := rfl
theorem Leads.back {P : Program} {n0 : Nat} {s s2 : St} {H : Heap} (hs2 : s2.H = H) (hold : ∀ k b, hget H k = some b → k < n0 ∧ scB (· < n0) b) (hkeep : Sub H s.H) (hn : s2.n = n0) (hz : s2.sz = s.sz) (hm : s.marks = [] ∧ s2.marks = []) (hf : ∀ x ∈ s2.fr, lk s.fr x.1 = some x.2 ∧ sc (· < n0) x.2) : Leads P n0 s s2 :=
 Leads.renN (A := []) (H := H) [] (by simpa using hs2) hold hkeep rfl (by simpa using hn) hz hm (fun x hx => .inl (hf x hx)) (by simp)
theorem cellB_sc {p : Nat → Prop} {b : Blk} {o : Nat} {v : Value} (h : scB p b) (hc : cellB o b = some v) : sc p v := by
 cases b <;> simp only [cellB] at hc
 all_goals first
   | exact (scL_iff p _).1 h v (List.mem_of_getElem? hc)
   | (split at hc
      · exact (scL_iff p _).1 h v (List.mem_of_getElem? hc)
      · cases hc)
   | cases hc
theorem cellA_sc {p : Nat → Prop} {H : Heap} {k o : Nat} {v : Value} (hold : ∀ k b, hget H k = some b → scB p b) (h : cellA H k o = some v) : sc p v := by
 rw [cellA_eq] at h
 obtain ⟨b, hb1, hb2⟩ := Option.bind_eq_some_iff.1 h
 exact cellB_sc (hold _ _ hb1) hb2
mutual
theorem ren_fix {p : Nat → Prop} {ρ : Nat → Nat} (h : ∀ k, p k → ρ k = k) : ∀ v, sc p v → ren ρ v = v
 | .bool _, _ | .int _ _, _ | .float _ _, _ | .complex _ _ _, _ | .string _, _ | .nilFunc, _ | .nilIface, _ | .chan _, _ => by simp [ren]
 | .pointer none, _ | .slice none _ _, _ | .map none, _ => by simp [ren]
 | .pointer (some a), hs => by simp only [ren]; rw [h _ hs]
 | .slice (some a) l c, hs => by simp only [ren]; rw [h _ hs]
 | .map (some r), hs => by simp only [ren]; rw [h _ hs]
 | .func (.yield l) a b, hs => by
   simp only [sc] at hs
   simp only [ren]
   rw [h _ hs.1, renL_fix h _ hs.2.1, renL_fix h _ hs.2.2]
 | .func (.func f) a b, hs | .func (.method f) a b, hs | .func (.methodOf _ f) a b, hs | .func (.via _ _ f _) a b, hs => by
   simp only [sc] at hs
   simp only [ren]
   rw [renL_fix h _ hs.1, renL_fix h _ hs.2]
 | .iface t v, hs => by simp only [ren]; rw [ren_fix h v hs]
 | .agg cs, hs => by simp only [ren]; rw [renL_fix h _ hs]
 | .tuple cs, hs => by simp only [ren]; rw [renL_fix h _ hs]
theorem renL_fix {p : Nat → Prop} {ρ : Nat → Nat} (h : ∀ k, p k → ρ k = k) : ∀ vs, scL p vs → renL ρ vs = vs
 | [], _ => rfl
 | v :: vs, hs => by simp only [renL]; rw [ren_fix h v hs.1, renL_fix h vs hs.2]
end
theorem renB_fix {p : Nat → Prop} {ρ : Nat → Nat} (h : ∀ k, p k → ρ k = k) : ∀ b, scB p b → renB ρ b = b
 | .cells cs _, hs | .ext cs _ _, hs | .inp _ cs, hs | .row cs _, hs | .tab cs, hs => by simp only [renB]; rw [renL_fix h cs hs]
 | .map es c, hs => by
   simp only [renB]
   congr 1
   have : ∀ es : List MapEntry, (∀ e ∈ es, sc p e.key ∧ sc p e.val) → es.map (fun e => ({ key := ren ρ e.key, val := ren ρ e.val, born := e.born } : MapEntry)) = es := by
     intro es
     induction es with
     | nil => intro _; rfl
     | cons e es ih =>
       intro he
       rw [List.map_cons, ih fun e' h' => he e' (List.mem_cons_of_mem _ h'), ren_fix h _ (he e (List.mem_cons_self ..)).1, ren_fix h _ (he e (List.mem_cons_self ..)).2]
   exact this es hs
 | .iter _ _, _ | .defd, _ => rfl
 | .miter none _ _ _, _ => rfl
 | .miter (some m) _ _ _, hs => by simp only [renB, Option.map_some]; rw [h m (hs m rfl)]
 | .loop .., _ => rfl
end Go.Ab

/-
Small lemmas for walks at a heap that is not named: new names and old ones, heaps that are tidied, frozen, written; a call's operations by the number of their region; lists of lists that are made.
-/
namespace Go.Ab
open Go
theorem flat_n {b o : Nat} : flat ⟨b, o, none⟩ = true := rfl
theorem flat_z {b o : Nat} : flat ⟨b, o, some 0⟩ = true := rfl
section
variable {n : Nat} {H : Heap}
@[simp] theorem namesOk_tidy : namesOk n (tidy n H) = true := (namesOk_tidyL _).1
@[simp] theorem namesOk_tidy' {c : Nat} : namesOk (n + c) (tidy n H) = true := namesOk_mono (by omega) _ (namesOk_tidyL _).1
@[simp] theorem plainH_tidy : plainH (tidy n H) = true := (namesOk_tidyL _).2
@[simp] theorem takeNew_tidy : takeNew n (frzH (tidy n H)) = [] := takeNew_frz namesOk_tidy
@[simp] theorem takeNew_tidy' {c : Nat} : takeNew (n + c) (frzH (tidy n H)) = [] := takeNew_frz namesOk_tidy'
theorem tidy_lt : ∀ k b, hget (tidy n H) k = some b → k < n := fun _ _ h => (hget_tidy.1 h).2.1
@[simp] theorem tidy_new : hget (tidy n H) n = none := (no_new tidy_lt).1
@[simp] theorem tidy_new' {c : Nat} : hget (tidy n H) (n + c) = none := (no_new tidy_lt).2 c
end
theorem AC.frame0 {P : Program} {f : FuncId} {args : List Value} {H : Heap} {n : Nat} {v : Value} {H1 : Heap} {n' : Nat} (h : AC P f args [] n v H1 n') (_ : ∀ k b, hget H1 k = some b → False) : AC P f args H n v H n' :=
 h.frame (fun k b hk => by cases hk) fun k b hk => .inr ⟨hk, rfl⟩
theorem nest_tidy {H : Heap} {n : Nat} (hold : ∀ k b, hget H k = some b → k < n ∧ scB (· < n) b) {v : Value} {ls : List (List Int)} (h : nestV H v = some ls) : nestV (tidy n H) v = some ls :=
 listV_tidy (decL_tidy decI_tidy) (fun k b hk => (hold k b hk).1) h
theorem int_tidy {H : Heap} {n : Nat} (hold : ∀ k b, hget H k = some b → k < n ∧ scB (· < n) b) {v : Value} {l : List Int} (h : intV H v = some l) : intV (tidy n H) v = some l :=
 listV_tidy decI_tidy (fun k b hk => (hold k b hk).1) h
theorem cell_read {H : Heap} {a o : Nat} {L : List Nat} (h : memN L a = true) : cellA (readA L H) a o = cellA H a o := by
 rw [cellA_eq, hget_readA, if_pos h, cellA_eq]
theorem tidy_old {H : Heap} {n : Nat} (hold : ∀ k b, hget H k = some b → k < n ∧ scB (· < n) b) : ∀ k b, hget (tidy n H) k = some b → k < n ∧ scB (· < n) b := fun k b h => hold k b (hget_tidy.1 h).1
theorem hdel_none : ∀ {H : Heap} {n : Nat}, hget H n = none → hdel H n = H
 | [], _, _ => rfl
 | (k, b) :: H, n, h => by
   rw [hget_cons] at h
   split at h
   · cases h
   · rename_i hne
     rw [hdel, beq_dec, decide_eq_false hne]
     rw [hdel_none h]
@[simp] theorem hdel_tidy {H : Heap} {n : Nat} : hdel (tidy n H) n = tidy n H := hdel_none tidy_new
@[simp] theorem sne2 {n : Nat} : (n + 1 + 1 = n) = False := eq_false (by omega)
@[simp] theorem slt2 {n : Nat} : (n < n + 1 + 1) = True := eq_true (by omega)
@[simp] theorem sle2 {n : Nat} : (n ≤ n + 1 + 1) = True := eq_true (by omega)
@[simp] theorem snm2 {n : Nat} {H : Heap} : namesOk (n + 1 + 1) (tidy n H) = true := namesOk_mono (by omega) _ (namesOk_tidyL _).1
@[simp] theorem stk2 {n : Nat} {H : Heap} : takeNew (n + 1 + 1) (frzH (tidy n H)) = [] := takeNew_frz (namesOk_mono (by omega) _ (namesOk_tidyL _).1)
@[simp] theorem stn2 {n : Nat} {H : Heap} : hget (tidy n H) (n + 1 + 1) = none := (no_new tidy_lt).2 2
@[simp] theorem sne3 {n : Nat} : (n + 1 + 1 + 1 = n) = False := eq_false (by omega)
@[simp] theorem slt3 {n : Nat} : (n < n + 1 + 1 + 1) = True := eq_true (by omega)
@[simp] theorem sle3 {n : Nat} : (n ≤ n + 1 + 1 + 1) = True := eq_true (by omega)
@[simp] theorem snm3 {n : Nat} {H : Heap} : namesOk (n + 1 + 1 + 1) (tidy n H) = true := namesOk_mono (by omega) _ (namesOk_tidyL _).1
@[simp] theorem stk3 {n : Nat} {H : Heap} : takeNew (n + 1 + 1 + 1) (frzH (tidy n H)) = [] := takeNew_frz (namesOk_mono (by omega) _ (namesOk_tidyL _).1)
@[simp] theorem stn3 {n : Nat} {H : Heap} : hget (tidy n H) (n + 1 + 1 + 1) = none := (no_new tidy_lt).2 3
@[simp] theorem sne4 {n : Nat} : (n + 1 + 1 + 1 + 1 = n) = False := eq_false (by omega)
@[simp] theorem slt4 {n : Nat} : (n < n + 1 + 1 + 1 + 1) = True := eq_true (by omega)
@[simp] theorem sle4 {n : Nat} : (n ≤ n + 1 + 1 + 1 + 1) = True := eq_true (by omega)
@[simp] theorem snm4 {n : Nat} {H : Heap} : namesOk (n + 1 + 1 + 1 + 1) (tidy n H) = true := namesOk_mono (by omega) _ (namesOk_tidyL _).1
@[simp] theorem stk4 {n : Nat} {H : Heap} : takeNew (n + 1 + 1 + 1 + 1) (frzH (tidy n H)) = [] := takeNew_frz (namesOk_mono (by omega) _ (namesOk_tidyL _).1)
@[simp] theorem stn4 {n : Nat} {H : Heap} : hget (tidy n H) (n + 1 + 1 + 1 + 1) = none := (no_new tidy_lt).2 4
@[simp] theorem sne5 {n : Nat} : (n + 1 + 1 + 1 + 1 + 1 = n) = False := eq_false (by omega)
@[simp] theorem slt5 {n : Nat} : (n < n + 1 + 1 + 1 + 1 + 1) = True := eq_true (by omega)
@[simp] theorem sle5 {n : Nat} : (n ≤ n + 1 + 1 + 1 + 1 + 1) = True := eq_true (by omega)
@[simp] theorem snm5 {n : Nat} {H : Heap} : namesOk (n + 1 + 1 + 1 + 1 + 1) (tidy n H) = true := namesOk_mono (by omega) _ (namesOk_tidyL _).1
@[simp] theorem stk5 {n : Nat} {H : Heap} : takeNew (n + 1 + 1 + 1 + 1 + 1) (frzH (tidy n H)) = [] := takeNew_frz (namesOk_mono (by omega) _ (namesOk_tidyL _).1)
@[simp] theorem stn5 {n : Nat} {H : Heap} : hget (tidy n H) (n + 1 + 1 + 1 + 1 + 1) = none := (no_new tidy_lt).2 5
@[simp] theorem sne6 {n : Nat} : (n + 1 + 1 + 1 + 1 + 1 + 1 = n) = False := eq_false (by omega)
@[simp] theorem slt6 {n : Nat} : (n < n + 1 + 1 + 1 + 1 + 1 + 1) = True := eq_true (by omega)
@[simp] theorem sle6 {n : Nat} : (n ≤ n + 1 + 1 + 1 + 1 + 1 + 1) = True := eq_true (by omega)
@[simp] theorem snm6 {n : Nat} {H : Heap} : namesOk (n + 1 + 1 + 1 + 1 + 1 + 1) (tidy n H) = true := namesOk_mono (by omega) _ (namesOk_tidyL _).1
@[simp] theorem stk6 {n : Nat} {H : Heap} : takeNew (n + 1 + 1 + 1 + 1 + 1 + 1) (frzH (tidy n H)) = [] := takeNew_frz (namesOk_mono (by omega) _ (namesOk_tidyL _).1)
@[simp] theorem stn6 {n : Nat} {H : Heap} : hget (tidy n H) (n + 1 + 1 + 1 + 1 + 1 + 1) = none := (no_new tidy_lt).2 6
@[simp] theorem sne7 {n : Nat} : (n + 1 + 1 + 1 + 1 + 1 + 1 + 1 = n) = False := eq_false (by omega)
@[simp] theorem slt7 {n : Nat} : (n < n + 1 + 1 + 1 + 1 + 1 + 1 + 1) = True := eq_true (by omega)
@[simp] theorem sle7 {n : Nat} : (n ≤ n + 1 + 1 + 1 + 1 + 1 + 1 + 1) = True := eq_true (by omega)
@[simp] theorem snm7 {n : Nat} {H : Heap} : namesOk (n + 1 + 1 + 1 + 1 + 1 + 1 + 1) (tidy n H) = true := namesOk_mono (by omega) _ (namesOk_tidyL _).1
@[simp] theorem stk7 {n : Nat} {H : Heap} : takeNew (n + 1 + 1 + 1 + 1 + 1 + 1 + 1) (frzH (tidy n H)) = [] := takeNew_frz (namesOk_mono (by omega) _ (namesOk_tidyL _).1)
@[simp] theorem stn7 {n : Nat} {H : Heap} : hget (tidy n H) (n + 1 + 1 + 1 + 1 + 1 + 1 + 1) = none := (no_new tidy_lt).2 7
@[simp] theorem sne8 {n : Nat} : (n + 1 + 1 + 1 + 1 + 1 + 1 + 1 + 1 = n) = False := eq_false (by omega)
@[simp] theorem slt8 {n : Nat} : (n < n + 1 + 1 + 1 + 1 + 1 + 1 + 1 + 1) = True := eq_true (by omega)
@[simp] theorem sle8 {n : Nat} : (n ≤ n + 1 + 1 + 1 + 1 + 1 + 1 + 1 + 1) = True := eq_true (by omega)
@[simp] theorem snm8 {n : Nat} {H : Heap} : namesOk (n + 1 + 1 + 1 + 1 + 1 + 1 + 1 + 1) (tidy n H) = true := namesOk_mono (by omega) _ (namesOk_tidyL _).1
@[simp] theorem stk8 {n : Nat} {H : Heap} : takeNew (n + 1 + 1 + 1 + 1 + 1 + 1 + 1 + 1) (frzH (tidy n H)) = [] := takeNew_frz (namesOk_mono (by omega) _ (namesOk_tidyL _).1)
@[simp] theorem stn8 {n : Nat} {H : Heap} : hget (tidy n H) (n + 1 + 1 + 1 + 1 + 1 + 1 + 1 + 1) = none := (no_new tidy_lt).2 8
@[simp] theorem sne9 {n : Nat} : (n + 1 + 1 + 1 + 1 + 1 + 1 + 1 + 1 + 1 = n) = False := eq_false (by omega)
@[simp] theorem slt9 {n : Nat} : (n < n + 1 + 1 + 1 + 1 + 1 + 1 + 1 + 1 + 1) = True := eq_true (by omega)
@[simp] theorem sle9 {n : Nat} : (n ≤ n + 1 + 1 + 1 + 1 + 1 + 1 + 1 + 1 + 1) = True := eq_true (by omega)
@[simp] theorem snm9 {n : Nat} {H : Heap} : namesOk (n + 1 + 1 + 1 + 1 + 1 + 1 + 1 + 1 + 1) (tidy n H) = true := namesOk_mono (by omega) _ (namesOk_tidyL _).1
@[simp] theorem stk9 {n : Nat} {H : Heap} : takeNew (n + 1 + 1 + 1 + 1 + 1 + 1 + 1 + 1 + 1) (frzH (tidy n H)) = [] := takeNew_frz (namesOk_mono (by omega) _ (namesOk_tidyL _).1)
@[simp] theorem stn9 {n : Nat} {H : Heap} : hget (tidy n H) (n + 1 + 1 + 1 + 1 + 1 + 1 + 1 + 1 + 1) = none := (no_new tidy_lt).2 9
def mv (q m k : Nat) : Nat := if k = q then m else k
theorem mv_lt {q m k : Nat} (h : k < q) : mv q m k = k := if_neg (by omega)
theorem mv_eq {q m : Nat} : mv q m q = m := if_pos rfl
theorem put_at {α : Type} {cs : List α} {i : Nat} {v : α} (h : i < cs.length) : cs.take i ++ [v] ++ cs.drop (i + 1) = cs.set i v := by
 rw [List.set_eq_take_append_cons_drop, if_pos h, List.append_assoc]
 rfl
theorem store_at {H : Heap} {b i : Nat} {t : TypeId} {cs : List Value} {v : Value} (h : hget H b = some (.cells cs t)) (hi : i < cs.length) : storeA H b i [v] = some (hset H b (.cells (cs.set i v) t)) := by
 unfold storeA
 rw [h]
 simp only [List.length_cons, List.length_nil, putL]
 rw [if_pos (by omega), put_at hi]
theorem hget_set {H : Heap} {b k : Nat} {x : Blk} : hget (hset H b x) k = if b = k then (hget H b).map fun _ => x else hget H k := by
 rw [hget_hset]
theorem Fresh.pair {n n2 : Nat} {H B H1 : Heap} {v u : Value} (h : Fresh n n2 H v B u H1) (e : Int) : Fresh n n2 H (.tuple #[v, Value.int .i64 e]) B (.tuple #[u, Value.int .i64 e]) H1 := by
 obtain ⟨ρ, h1, h2, h3⟩ := h
 exact ⟨ρ, h1, by rw [h2]; simp [ren], h3⟩
theorem handA_nil : ∀ H : Heap, handA [] [] H = []
 | [] => rfl
 | (k, b) :: H => by simp only [handA]; exact handA_nil H
theorem namesOk_iff {k : Nat} : ∀ {H : Heap}, namesOk k H = true ↔ ∀ x ∈ H, x.1 < k
 | [] => by simp [namesOk]
 | (i, b) :: H => by
   rw [namesOk]
   by_cases h : i < k
   · rw [(blt_iff _ _).2 h]
     simp [namesOk_iff (H := H), h]
   · have : Nat.blt i k = false := by rw [← Bool.not_eq_true, blt_iff]; exact h
     rw [this]
     simp [h]
theorem hget_in : ∀ {H : Heap} {k : Nat} {b : Blk}, hget H k = some b → ∃ x ∈ H, x.1 = k
 | [], _, _, h => by cases h
 | (j, c) :: H, k, b, h => by
   rw [hget_cons] at h
   split at h
   · rename_i e; exact ⟨(j, c), List.mem_cons_self .., e⟩
   · obtain ⟨x, hx, e⟩ := hget_in h
     exact ⟨x, List.mem_cons_of_mem _ hx, e⟩
theorem namesOk_none {H : Heap} {k : Nat} (h : namesOk k H = true) : ∀ j, k ≤ j → hget H j = none := fun j hj => by
 cases e : hget H j with
 | none => rfl
 | some b =>
   obtain ⟨x, hx, e⟩ := hget_in e
   have := namesOk_iff.1 h x hx
   omega
theorem hdel_mem : ∀ {H : Heap} {k : Nat} {x : Nat × Blk}, x ∈ hdel H k → x ∈ H
 | [], _, _, h => h
 | (i, b) :: H, k, x, h => by
   rw [hdel] at h
   split at h
   · exact List.mem_cons_of_mem _ (hdel_mem h)
   · rcases List.mem_cons.1 h with rfl | h
     · exact List.mem_cons_self ..
     · exact List.mem_cons_of_mem _ (hdel_mem h)
theorem hset_mem : ∀ {H : Heap} {k : Nat} {c : Blk} {x : Nat × Blk}, x ∈ hset H k c → ∃ y ∈ H, y.1 = x.1
 | [], _, _, _, h => by cases h
 | (i, b) :: H, k, c, x, h => by
   rw [hset] at h
   split at h
   · rcases List.mem_cons.1 h with rfl | h
     · exact ⟨(i, b), List.mem_cons_self .., rfl⟩
     · first
       | exact ⟨x, List.mem_cons_of_mem _ h, rfl⟩
       | (obtain ⟨y, hy, e⟩ := hset_mem h; exact ⟨y, List.mem_cons_of_mem _ hy, e⟩)
   · rcases List.mem_cons.1 h with rfl | h
     · exact ⟨(i, b), List.mem_cons_self .., rfl⟩
     · obtain ⟨y, hy, e⟩ := hset_mem h
       exact ⟨y, List.mem_cons_of_mem _ hy, e⟩
theorem namesOk_hdel {H : Heap} {k j : Nat} (h : namesOk k H = true) : namesOk k (hdel H j) = true := namesOk_iff.2 fun x hx => namesOk_iff.1 h x (hdel_mem hx)
theorem namesOk_hset {H : Heap} {k j : Nat} {c : Blk} (h : namesOk k H = true) : namesOk k (hset H j c) = true := namesOk_iff.2 fun x hx => by
 obtain ⟨y, hy, e⟩ := hset_mem hx
 have := namesOk_iff.1 h y hy
 omega
theorem namesOk_put {H : Heap} {k j : Nat} {c : Blk} (hj : j < k) (h : namesOk k H = true) : namesOk k ((j, c) :: H) = true := by
 rw [namesOk, (blt_iff _ _).2 hj]; exact h
def opsIn : Code → Nat → Option (Array Oper)
 | .region id ops _, i => match Nat.beq id i with
   | true => some ops
   | false => none
 | .seq a b, i => match opsIn a i with
   | some o => some o
   | none => opsIn b i
 | .block _ c, i => opsIn c i
 | .loop c, i => opsIn c i
 | .cond _ a b, i => match opsIn a i with
   | some o => some o
   | none => opsIn b i
 | _, _ => none
def opsAt (f : Func) (i : Nat) : Option (Array Oper) := match f.body with
 | some c => opsIn c i
 | none => none
theorem takeNew_app {n : Nat} {B : Heap} : ∀ {A : Heap}, (∀ x ∈ A, n ≤ x.1) → takeNew n (A ++ B) = A ++ takeNew n B
 | [], _ => rfl
 | (k, b) :: A, h => by
   have : Nat.ble n k = true := Nat.ble_eq_true_of_le (h (k, b) (List.mem_cons_self ..))
   rw [List.cons_append, takeNew, this]
   simp only
   rw [takeNew_app fun x hx => h x (List.mem_cons_of_mem _ hx)]
   rfl
theorem plainH_app {B : Heap} : ∀ {A : Heap}, plainH A = true → plainH B = true → plainH (A ++ B) = true
 | [], _, h => h
 | (k, b) :: A, h1, h2 => by
   rw [plainH] at h1
   rw [List.cons_append, plainH]
   rw [Bool.and_eq_true] at h1 ⊢
   exact ⟨h1.1, plainH_app h1.2 h2⟩
theorem namesOk_app {n : Nat} {A B : Heap} (h1 : ∀ x ∈ A, x.1 < n) (h2 : namesOk n B = true) : namesOk n (A ++ B) = true := namesOk_iff.2 fun x hx => by
 rcases List.mem_append.1 hx with h | h
 · exact h1 x h
 · exact namesOk_iff.1 h2 x h
theorem one_cell {H : Heap} {k o : Nat} {x : Value} (h : cellsA H k o 1 = some [x]) : cellA H k o = some x := by
 obtain ⟨y, e, h⟩ := cells_one h
 injection e with e
 rw [e]; exact h
def names (c : Nat) : Nat → List Nat
 | 0 => []
 | k + 1 => c :: names (c + 1) k
theorem names_len : ∀ (k c : Nat), (names c k).length = k
 | 0, _ => rfl
 | k + 1, c => by simp [names, names_len k]
theorem names_get : ∀ (k c i : Nat), i < k → (names c k)[i]? = some (c + i)
 | 0, _, _, h => by omega
 | k + 1, c, 0, _ => by simp [names]
 | k + 1, c, i + 1, h => by
   rw [names, List.getElem?_cons_succ, names_get k (c + 1) i (by omega)]
   congr 1; omega
theorem names_snoc : ∀ (k c : Nat), names c (k + 1) = names c k ++ [c + k]
 | 0, c => by simp [names]
 | k + 1, c => by
   rw [names, names_snoc k (c + 1), names, List.cons_append]
   congr 3
   omega
theorem names_ge : ∀ (k c m : Nat), m ∈ names c k → c ≤ m ∧ m < c + k
 | 0, _, _, h => by cases h
 | k + 1, c, m, h => by
   rcases List.mem_cons.1 h with rfl | h
   · omega
   · have := names_ge k (c + 1) m h
     omega
theorem names_nodup : ∀ (k c : Nat), (names c k).Nodup
 | 0, _ => List.nodup_nil
 | k + 1, c => List.nodup_cons.2 ⟨fun h => by have := names_ge k (c + 1) c h; omega, names_nodup k (c + 1)⟩
theorem names_at {k c i m : Nat} (h : (names c k)[i]? = some m) : m = c + i ∧ i < k := by
 have hi : i < (names c k).length := (List.getElem?_eq_some_iff.1 h).1
 rw [names_len] at hi
 rw [names_get _ _ _ hi] at h
 injection h with h
 exact ⟨h.symm, hi⟩
structure RowK (α : Type) (dec : Dec α) where
 val : Nat → List α → Value
 blk : List α → Blk
 ren : ∀ (ρ : Nat → Nat) m l, Ab.ren ρ (val m l) = val (ρ m) l
 sc : ∀ (p : Nat → Prop) m l, p m → Ab.sc p (val m l)
 fix : ∀ (ρ : Nat → Nat) l, renB ρ (blk l) = blk l
 scB : ∀ (p : Nat → Prop) l, Ab.scB p (blk l)
 car : ∀ l, carried (blk l)
 own : ∀ l, (blk l).own = true
 see : ∀ H m l, hget H m = some (blk l) → l.length < 2147483648 → listV 1 dec H (val m l) = some l
structure LstK where
 val : Nat → Nat → Value
 blk : List Value → Blk
 ren : ∀ (ρ : Nat → Nat) m k, Ab.ren ρ (val m k) = val (ρ m) k
 sc : ∀ (p : Nat → Prop) m k, p m → Ab.sc p (val m k)
 af : ∀ m k, Ab.af (val m k) = false
 fix : ∀ (ρ : Nat → Nat) l, renB ρ (blk l) = blk (renL ρ l)
 scB : ∀ (p : Nat → Prop) l, scL p l → Ab.scB p (blk l)
 car : ∀ l, carried (blk l)
 own : ∀ l, (blk l).own = true
 cells : ∀ H m l, hget H m = some (blk l) → cellsA H m 0 l.length = some l
 form : ∀ m k, ∃ s c, val m k = .slice (some ⟨m, 0, s⟩) k c ∧ flat ⟨m, 0, s⟩ = true
structure En (α : Type) (dec : Dec α) where
 to : α → Value
 ren : ∀ (ρ : Nat → Nat) x, Ab.ren ρ (to x) = to x
 sc : ∀ (p : Nat → Prop) x, Ab.sc p (to x)
 one : ∀ H x, dec H [to x] = some x
theorem En.renL {α : Type} {dec : Dec α} (e : En α dec) (ρ : Nat → Nat) : ∀ l : List α, Ab.renL ρ (l.map e.to) = l.map e.to
 | [] => rfl
 | x :: l => by simp only [List.map_cons, Ab.renL, e.ren, e.renL ρ l]
theorem En.scL {α : Type} {dec : Dec α} (e : En α dec) (p : Nat → Prop) : ∀ l : List α, Ab.scL p (l.map e.to)
 | [] => trivial
 | x :: l => ⟨e.sc p x, e.scL p l⟩
theorem En.dec {α : Type} {dec : Dec α} (e : En α dec) {H : Heap} {l : List α} (i : Nat) (v : Value) (h : (l.map e.to)[i]? = some v) : dec H [v] = l[i]? := by
 rw [List.getElem?_map, Option.map_eq_some_iff] at h
 obtain ⟨x, hx, rfl⟩ := h
 rw [e.one, hx]
def kMk {α : Type} {dec : Dec α} (e : En α dec) (t : TypeId) : RowK α dec where
 val := fun m l => .slice (some ⟨m, 0, none⟩) l.length l.length
 blk := fun l => .cells (l.map e.to) t
 ren := fun ρ m l => rfl
 sc := fun p m l h => h
 fix := fun ρ l => by simp only [renB, e.renL]
 scB := fun p l => e.scL p l
 car := fun l => trivial
 own := fun l => rfl
 see := fun H m l h hl => listV_mk (cs := l.map e.to) rfl (by rw [cellsA_eq, h]; simp [cellsB]; exact List.take_of_length_le (by simp)) (by simp) hl fun i v hv => e.dec i v hv
def kCp {α : Type} {dec : Dec α} (e : En α dec) (t : TypeId) : RowK α dec where
 val := fun m l => if l.length = 0 then .slice (some ⟨m, 0, none⟩) 0 0 else .slice (some ⟨m, 0, some 0⟩) l.length 0
 blk := fun l => if l.length = 0 then .cells [] t else .ext (l.map e.to) t 1
 ren := fun ρ m l => by split <;> rfl
 sc := fun p m l h => by split <;> exact h
 fix := fun ρ l => by
   split
   · simp [renB, Ab.renL]
   · simp only [renB, e.renL]
 scB := fun p l => by
   split
   · trivial
   · exact e.scL p l
 car := fun l => by split <;> trivial
 own := fun l => by split <;> rfl
 see := fun H m l h hl => by
   by_cases h0 : l.length = 0
   · obtain rfl := List.length_eq_zero_iff.1 h0
     rfl
   · rw [if_neg h0] at h ⊢
     exact listV_mk (cs := l.map e.to) rfl (by rw [cellsA_eq, h]; simp [cellsB]; exact List.take_of_length_le (by simp)) (by simp) hl fun i v hv => e.dec i v hv
def oMk (t : TypeId) : LstK where
 val := fun m k => .slice (some ⟨m, 0, none⟩) k k
 blk := fun l => .cells l t
 ren := fun ρ m l => rfl
 sc := fun p m l h => h
 af := fun m k => rfl
 fix := fun ρ l => rfl
 scB := fun p l h => h
 car := fun l => trivial
 own := fun l => rfl
 cells := fun H m l h => by rw [cellsA_eq, h]; simp [cellsB]
 form := fun m k => ⟨none, k, rfl, rfl⟩
def oEx (t : TypeId) : LstK where
 val := fun m k => .slice (some ⟨m, 0, some 0⟩) k 0
 blk := fun l => .ext l t 1
 ren := fun ρ m l => rfl
 sc := fun p m l h => h
 af := fun m k => rfl
 fix := fun ρ l => rfl
 scB := fun p l h => h
 car := fun l => trivial
 own := fun l => rfl
 cells := fun H m l h => by rw [cellsA_eq, h]; simp [cellsB]
 form := fun m k => ⟨some 0, 0, rfl, rfl⟩
section
variable {α : Type} {dec : Dec α}
def kvs (K : RowK α dec) : List Nat → List (List α) → List Value
 | m :: ms, l :: ls => K.val m l :: kvs K ms ls
 | _, _ => []
def kbs (K : RowK α dec) : List Nat → List (List α) → Heap
 | m :: ms, l :: ls => (m, K.blk l) :: kbs K ms ls
 | _, _ => []
theorem kvs_len (K : RowK α dec) : ∀ (ms : List Nat) (ls : List (List α)), ms.length = ls.length → (kvs K ms ls).length = ls.length
 | [], [], _ => rfl
 | m :: ms, l :: ls, h => by simp [kvs, kvs_len K ms ls (by simpa using h)]
 | [], _ :: _, h => by simp at h
 | _ :: _, [], h => by simp at h
theorem kvs_get (K : RowK α dec) : ∀ (ms : List Nat) (ls : List (List α)) (i m : Nat) (l : List α), ms[i]? = some m → ls[i]? = some l → (kvs K ms ls)[i]? = some (K.val m l)
 | m' :: ms, l' :: ls, 0, m, _, h1, h2 => by simp at h1 h2; subst h1 h2; simp [kvs]
 | m' :: ms, l' :: ls, i + 1, m, l, h1, h2 => by
   simp only [List.getElem?_cons_succ] at h1 h2
   rw [kvs, List.getElem?_cons_succ]
   exact kvs_get K ms ls i m l h1 h2
 | [], _, i, m, l, h1, _ => by simp at h1
 | _ :: _, [], i, m, l, _, h2 => by simp at h2
theorem kvs_ren (K : RowK α dec) (ρ : Nat → Nat) : ∀ (ms : List Nat) (ls : List (List α)), renL ρ (kvs K ms ls) = kvs K (ms.map ρ) ls
 | m :: ms, l :: ls => by simp only [kvs, renL, K.ren, List.map_cons, kvs_ren K ρ ms ls]
 | [], _ => rfl
 | _ :: _, [] => rfl
theorem kvs_sc (K : RowK α dec) {p : Nat → Prop} : ∀ (ms : List Nat) (ls : List (List α)), (∀ m ∈ ms, p m) → scL p (kvs K ms ls)
 | m :: ms, _l :: ls, h => ⟨K.sc _ _ _ (h m (List.mem_cons_self ..)), kvs_sc K ms ls fun k hk => h k (List.mem_cons_of_mem _ hk)⟩
 | [], _, _ => trivial
 | _ :: _, [], _ => trivial
theorem hget_kbs (K : RowK α dec) : ∀ (ms : List Nat) (ls : List (List α)) (k : Nat) (b : Blk), hget (kbs K ms ls) k = some b → ∃ (i : Nat) (l : List α), ms[i]? = some k ∧ ls[i]? = some l ∧ b = K.blk l
 | m :: ms, l :: ls, k, b, h => by
   rw [kbs, hget_cons] at h
   split at h
   · rename_i e; subst e; injection h with h
     exact ⟨0, l, rfl, rfl, h.symm⟩
   · obtain ⟨i, l', h1, h2, h3⟩ := hget_kbs K ms ls k b h
     exact ⟨i + 1, l', by simpa using h1, by simpa using h2, h3⟩
 | [], _, k, b, h => by simp [kbs] at h
 | _ :: _, [], k, b, h => by simp [kbs] at h
theorem kbs_at (K : RowK α dec) : ∀ (L c : Nat) (ls : List (List α)) (i : Nat) (l : List α), ls.length = L → ls[i]? = some l → ∀ H, hget (kbs K (names c L) ls ++ H) (c + i) = some (K.blk l)
 | 0, c, ls, i, l, h1, h2, H => by
   rw [List.length_eq_zero_iff] at h1; subst h1; simp at h2
 | L + 1, c, l' :: ls, 0, l, h1, h2, H => by
   simp at h2; subst h2
   rw [names, kbs, List.cons_append, hget_cons, if_pos (by omega)]
 | L + 1, c, l' :: ls, i + 1, l, h1, h2, H => by
   simp only [List.getElem?_cons_succ] at h2
   rw [names, kbs, List.cons_append, hget_cons, if_neg (by omega), show c + (i + 1) = c + 1 + i by omega]
   exact kbs_at K L (c + 1) ls i l (by simpa using h1) h2 H
 | L + 1, c, [], i, l, h1, h2, H => by simp at h2
def ndV (O : LstK) (n : Nat) (ls : List (List α)) : Value := O.val n ls.length
def ndB (K : RowK α dec) (O : LstK) (n : Nat) (ls : List (List α)) : Heap := (n, O.blk (kvs K (names (n + 1) ls.length) ls)) :: kbs K (names (n + 1) ls.length) ls
theorem ndB_names {K : RowK α dec} {O : LstK} {n : Nat} {ls : List (List α)} : ∀ x ∈ ndB K O n ls, n ≤ x.1 ∧ x.1 < n + 1 + ls.length := by
 intro x hx
 rcases List.mem_cons.1 hx with rfl | hx
 · exact ⟨Nat.le_refl _, by dsimp only; omega⟩
 · have key : ∀ (L c : Nat) (xs : List (List α)), ∀ x ∈ kbs K (names c L) xs, c ≤ x.1 ∧ x.1 < c + L := by
     intro L
     induction L with
     | zero => intro c xs x hx; cases hx
     | succ L ih =>
       intro c xs x hx
       cases xs with
       | nil => cases hx
       | cons y ys =>
         rcases List.mem_cons.1 hx with rfl | hx
         · exact ⟨Nat.le_refl _, by dsimp only; omega⟩
         · have := ih (c + 1) ys x hx
           omega
   have := key _ _ _ x hx
   omega
theorem sub_nd {K : RowK α dec} {O : LstK} {n : Nat} {ls : List (List α)} {H : Heap} (h : ∀ j, n ≤ j → hget H j = none) : Sub H (ndB K O n ls ++ H) :=
 Sub.app (fun x hx => h _ (ndB_names x hx).1) (Sub.refl _)
theorem nestV_nd {K : RowK α dec} {O : LstK} {n : Nat} {ls : List (List α)} {H : Heap} (h1 : ls.length < 2147483648) (h2 : ∀ l ∈ ls, l.length < 2147483648) : listV 1 (decL 1 dec) (ndB K O n ls ++ H) (ndV O n ls) = some ls := by
 obtain ⟨s, c, hv, hf⟩ := O.form n ls.length
 have hl := kvs_len K (names (n + 1) ls.length) ls (names_len _ _)
 rw [ndV, hv]
 refine listV_mk (cs := kvs K (names (n + 1) ls.length) ls) hf ?_ hl h1 fun i v hi => ?_
 · exact O.cells _ _ _ (by rw [ndB, List.cons_append, hget_cons, if_pos rfl])
 · have hi' : i < ls.length := by
     have := (List.getElem?_eq_some_iff.1 hi).1
     omega
   have e1 := kvs_get K (names (n + 1) ls.length) ls i _ ls[i] (names_get _ _ i hi') (List.getElem?_eq_getElem hi')
   rw [e1] at hi
   injection hi with hi
   subst hi
   rw [List.getElem?_eq_getElem hi']
   refine K.see _ _ _ ?_ (h2 _ (List.getElem_mem hi'))
   rw [ndB, List.cons_append, hget_cons, if_neg (by omega)]
   exact kbs_at K _ _ ls i _ rfl (List.getElem?_eq_getElem hi') H
theorem outK_nd {K : RowK α dec} {O : LstK} {n o : Nat} {ms : List Nat} {ls : List (List α)} {H H1 : Heap} {u : Value} (hu : u = O.val o ls.length) (hlen : ms.length = ls.length) (ho : n ≤ o) (hms : ∀ m ∈ ms, n ≤ m ∧ m ≠ o) (hnd : ms.Nodup) (hO : hget H1 o = some (O.blk (kvs K ms ls))) (hK : ∀ (i m : Nat) (l : List α), ms[i]? = some m → ls[i]? = some l → hget H1 m = some (K.blk l)) (hs : Sub H H1) :
   Fresh n (n + 1 + ls.length) H (ndV O n ls) (ndB K O n ls) u H1 := by
 let ρ : Nat → Nat := fun k => if k < n then k else if k = n then o else ms.getD (k - (n + 1)) 0
 have hlow : ∀ k, k < n → ρ k = k := fun k hk => by simp only [ρ]; rw [if_pos hk]
 have hn : ρ n = o := by simp [ρ]
 have hrow : ∀ i m, ms[i]? = some m → ρ (n + 1 + i) = m := fun i m hi => by
   simp only [ρ]
   rw [if_neg (by omega), if_neg (by omega), show n + 1 + i - (n + 1) = i by omega, List.getD_eq_getElem?_getD, hi]
   rfl
 have hmap : (names (n + 1) ls.length).map ρ = ms := by
   apply List.ext_getElem?
   intro i
   by_cases hi : i < ls.length
   · rw [List.getElem?_map, names_get _ _ _ hi]
     obtain ⟨m, hm⟩ : ∃ m, ms[i]? = some m := ⟨_, List.getElem?_eq_getElem (by omega)⟩
     rw [hm, Option.map_some, hrow i m hm]
   · rw [List.getElem?_eq_none (by rw [List.length_map, names_len]; omega), List.getElem?_eq_none (by omega)]
 have hB : ∀ k b, hget (ndB K O n ls) k = some b → (k = n ∧ b = O.blk (kvs K (names (n + 1) ls.length) ls)) ∨ ∃ (i m : Nat) (l : List α), i < ls.length ∧ k = n + 1 + i ∧ ms[i]? = some m ∧ ls[i]? = some l ∧ b = K.blk l := fun k b hk => by
   rw [ndB, hget_cons] at hk
   split at hk
   · rename_i e; subst e; injection hk with hk; exact .inl ⟨rfl, hk.symm⟩
   · obtain ⟨i, l, h1, h2, h3⟩ := hget_kbs K _ _ k b hk
     have hi : i < ls.length := (List.getElem?_eq_some_iff.1 h2).1
     rw [names_get _ _ _ hi] at h1
     injection h1 with h1
     exact .inr ⟨i, ms[i]'(by omega), l, hi, h1.symm, List.getElem?_eq_getElem (by omega), h2, h3⟩
 refine ⟨ρ, hlow, by rw [hu, ndV, O.ren, hn], fun k b hk => ?_, fun j b k c hj hk e => ?_, hs⟩
 · rcases hB k b hk with ⟨rfl, rfl⟩ | ⟨i, m, l, h1, rfl, h3, h4, rfl⟩
   · refine ⟨Nat.le_refl _, by omega, by rw [hn]; exact ho, ?_, ?_, O.car _, O.own _⟩
     · rw [hn, O.fix, kvs_ren, hmap]; exact hO
     · refine O.scB _ _ (kvs_sc K _ _ fun m hm => ?_)
       obtain ⟨i, hi, rfl⟩ := List.getElem_of_mem hm
       rw [names_len] at hi
       have := names_get ls.length (k + 1) i hi
       rw [List.getElem?_eq_getElem (by rw [names_len]; exact hi)] at this
       injection this with this
       rw [this]
       show k + 1 + i < k + 1 + ls.length
       omega
   · refine ⟨by omega, by omega, ?_, ?_, K.scB _ _, K.car _, K.own _⟩
     · rw [hrow i m h3]; exact (hms m (List.mem_of_getElem? h3)).1
     · rw [hrow i m h3, K.fix]; exact hK i m l h3 h4
 · rcases hB j b hj with ⟨rfl, _⟩ | ⟨i, m, l, h1, rfl, h3, _, _⟩ <;> rcases hB k c hk with ⟨rfl, _⟩ | ⟨i', m', l', h1', rfl, h3', _, _⟩
   · rfl
   · rw [hn, hrow i' m' h3'] at e
     exact absurd e.symm (hms m' (List.mem_of_getElem? h3')).2
   · rw [hn, hrow i m h3] at e
     exact absurd e (hms m (List.mem_of_getElem? h3)).2
   · rw [hrow i m h3, hrow i' m' h3'] at e
     have hi : i < ms.length := (List.getElem?_eq_some_iff.1 h3).1
     have hi' : i' < ms.length := (List.getElem?_eq_some_iff.1 h3').1
     have e1 : ms[i] = m := by rw [List.getElem?_eq_getElem hi] at h3; exact Option.some.inj h3
     have e2 : ms[i'] = m' := by rw [List.getElem?_eq_getElem hi'] at h3'; exact Option.some.inj h3'
     have := (List.nodup_iff_pairwise_ne.1 hnd)
     rw [List.pairwise_iff_getElem] at this
     rcases Nat.lt_trichotomy i i' with h | h | h
     · exact absurd (e1.trans (e.trans e2.symm)) (this i i' hi hi' h)
     · subst h; rfl
     · exact absurd (e2.trans (e.symm.trans e1.symm)) (this i' i hi' hi h)
theorem kvs_snoc (K : RowK α dec) {m : Nat} {l : List α} : ∀ (ms : List Nat) (R : List (List α)), ms.length = R.length → kvs K (ms ++ [m]) (R ++ [l]) = kvs K ms R ++ [K.val m l]
 | [], [], _ => rfl
 | _ :: ms, _ :: R, h => by simp [kvs, kvs_snoc K ms R (by simpa using h)]
 | [], _ :: _, h => by simp at h
 | _ :: _, [], h => by simp at h
theorem outK_mv {K : RowK α dec} {O : LstK} {n o : Nat} {ls : List (List α)} {H H1 : Heap} (ho : n ≤ o) (hs : Sub H H1) (hH1 : ∀ j, o ≤ j → hget H1 j = none) : Fresh n (n + 1 + ls.length) H (ndV O n ls) (ndB K O n ls) (ndV O o ls) (ndB K O o ls ++ H1) := by
 refine outK_nd (o := o) (ms := names (o + 1) ls.length) rfl (names_len _ _) ho (fun m hm => ?_) (names_nodup _ _) ?_ (fun i m l h1 h2 => ?_) (hs.trans (sub_nd hH1))
 · have := names_ge _ _ _ hm
   omega
 · rw [ndB, List.cons_append, hget_cons, if_pos rfl]
 · obtain ⟨rfl, hi⟩ := names_at h1
   rw [ndB, List.cons_append, hget_cons, if_neg (by omega)]
   exact kbs_at K _ _ ls i _ rfl h2 H1
end
def wroteK (P : Program) (fn : Func) (H' : Heap) (v : Value) (e : Ex) (st : St) : Prop :=
 (e = .normal ∨ e = .ret) ∧ st.marks = [] ∧ (∃ vs, resultsA P st.fr st.H fn.results.toList = some vs ∧ one vs = v) ∧ ∀ k b, hget H' k = some b → hget st.H k = some b
theorem AC.wrote {P : Program} {f : FuncId} {fn : Func} {c : Code} {args : List Value} {H H' : Heap} {n : Nat} {v : Value} (hf : P.funcs[f]? = some fn) (hb : fn.body = some c) (he : enterable P f = true) (hlen : Nat.ble args.length fn.ntmps = true) (vs : List Nat) (hv : af v = true)
   (hw : ∀ k b, hget H' k = some b → k < n ∧ (hget H k = some b ∨ ((∃ b0, hget H k = some b0) ∧ scB (fun _ => False) b)))
   (h : E P n none c { fr := argsFr args 0, sz := fn.ntmps, H, n, marks := [], vs } (wroteK P fn H' v)) : AC P f args H n v H' n := by
 obtain ⟨e, st, hA, hen, hm, ⟨us, hus, hone⟩, hsub⟩ := h
 have hleave : ∃ H1, leaveF P fn args n st = some (v, H1, st.n) ∧ ∀ k b, hget H' k = some b → hget H1 k = some b := by
   unfold leaveF
   rw [hm]
   simp only [shutA, hus, hone]
   cases hc : (af v && args.all dropOk) with
   | true => exact ⟨_, rfl, fun k b hk => by rw [hget_dropNew, if_pos (hw k b hk).1]; exact hsub k b hk⟩
   | false => exact ⟨_, rfl, hsub⟩
 obtain ⟨H1, hl, hs⟩ := hleave
 refine (bodyAT_ok hf hb he (Nat.le_of_ble_eq_true hlen) hen (ATX.at hA) hl).sub hv fun k b hk => ⟨hs k b hk, ?_⟩
 obtain ⟨h1, h2⟩ := hw k b hk
 rcases h2 with h2 | ⟨h2, h3⟩
 · exact .inl h2
 · exact .inr ⟨h1, h2, h3⟩
end Go.Ab

/-
Regions whose order is open, where an operation also writes blocks that this region has laid.
-/
namespace Go.Ab
open Go
def handX (P : Program) (r : Rec) (mk : List Nat) (i : Nat) (o : Oper) (see put : List Nat) (fr : Fr) (st : St) : Option St :=
 match runOp P r o { st with fr := fr, H := handA see put st.H } with
 | some (v, H, k) => match Nat.ble st.n k && namesOk k (takeNew st.n H) && (Nat.beq k st.n || memN mk i) with
   | true => some { st with fr := putA st.fr o.dst v, H := takeNew st.n H ++ backA put H st.H, n := k }
   | false => none
 | none => none
def doneX (P : Program) (r : Rec) (al mk late pt : List Nat) (n0 i : Nat) (o : Oper) (fr : Fr) (st : St) : Option St :=
 match isPure o.op with
 | true => pureS P o fr st
 | false => match isRead o.op with
   | true => match footA P fr o.op with
     | some f => readT P late n0 i o fr st f.see
     | none => none
   | false => match memN al i with
     | true => aloneT P r mk i o fr st
     | false => match footA P fr o.op with
       | some f => match f.put.isEmpty && visT late n0 i st.n f.see with
         | true => handT P r mk i o f.see fr st
         | false => match memN pt i && f.put.all (Nat.ble n0 ·) && f.put.all (memN f.see) && memN late i && f.see.all (Nat.blt · st.n) with
           | true => handX P r mk i o f.see f.put fr st
           | false => none
       | none => match memN late i && plainH st.H with
         | true => handU P r mk i o fr st
         | false => none
def oneX (P : Program) (r : Rec) (ops : Array Oper) (al mk late pt : List Nat) (n0 i : Nat) (o : Oper) (st : St) : Option St :=
 match dstOk st.sz o.dst with
 | false => none
 | true => match wantedA ops (trim (lookTmps ops o) st.fr) o with
   | none => none
   | some false => some { st with fr := putA st.fr o.dst undefV }
   | some true => doneX P r al mk late pt n0 i o (trim (lookTmps ops o) st.fr) st
def opsX (P : Program) (r : Rec) (ops : Array Oper) (al mk late pt : List Nat) (n0 : Nat) : List Oper → Nat → St → Option St
 | [], _, st => some st
 | o :: os, i, st => match oneX P r ops al mk late pt n0 i o st with
   | some st' => opsX P r ops al mk late pt n0 os (i + 1) st'
   | none => none
def runX (P : Program) (r : Rec) (ops : Array Oper) (al mk late pt : List Nat) (st : St) : Option St :=
 match namesOk st.n st.H with
 | true => opsX P r ops al mk late pt st.n ops.toList 0 st
 | false => none
def ptOk (bef : Array Nat) (late pt : List Nat) : Bool := pt.all fun i => memN late i && late.all fun j => Nat.beq i j || (if Nat.blt j i then ahead bef j i else ahead bef i j)
structure InvX (mk late pt : List Nat) (n0 i : Nat) (ds : List Done) (st : St) : Prop where
 put : ∀ d ∈ ds, d.put = [] ∨ (memN pt d.i = true ∧ ∀ k ∈ d.put, n0 ≤ k)
 see : ∀ d ∈ ds, memN late d.i = true ∨ ∀ k ∈ d.see, k < n0
 idx : ∀ d ∈ ds, d.i < i
 cov : ∀ k, n0 ≤ k → k < st.n → ∃ d ∈ ds, d.lo ≤ k ∧ k < d.hi ∧ memN mk d.i = true ∧ d.i < i
 nam : ∀ x ∈ st.H, x.1 < st.n
theorem lateOk_visX {bef : Array Nat} {mk late pt : List Nat} (hl : lateOk bef mk late = true) {n0 i : Nat} (hi : memN late i = true) {ds : List Done} {st : St} (hI : InvX mk late pt n0 i ds st) {k : Nat} (hk : k < st.n) : visA bef n0 i ds k = true := by
 unfold visA
 rw [Bool.or_eq_true]
 rcases Nat.lt_or_ge k n0 with h | h
 · exact .inl ((blt_iff _ _).2 h)
 · obtain ⟨d, hd, h1, h2, h3, h4⟩ := hI.cov k h hk
   refine .inr (List.any_eq_true.2 ⟨d, hd, ?_⟩)
   have := List.all_eq_true.1 (List.all_eq_true.1 hl i ((memN_iff _ _).1 hi)) d.i ((memN_iff _ _).1 h3)
   rw [Bool.or_eq_true] at this
   rcases this with h | h
   · have := Nat.le_of_ble_eq_true h
     omega
   · simp only [Bool.and_eq_true]
     exact ⟨⟨Nat.ble_eq_true_of_le h1, (blt_iff _ _).2 h2⟩, h⟩
theorem ptOk_ahead {bef : Array Nat} {late pt : List Nat} (hp : ptOk bef late pt = true) {a c : Nat} (hac : a < c) (h : (memN pt a = true ∧ memN late c = true) ∨ (memN late a = true ∧ memN pt c = true)) : ahead bef a c = true := by
 unfold ptOk at hp
 rcases h with ⟨h1, h2⟩ | ⟨h1, h2⟩
 · have := List.all_eq_true.1 hp a ((memN_iff _ _).1 h1)
   rw [Bool.and_eq_true] at this
   have := List.all_eq_true.1 this.2 c ((memN_iff _ _).1 h2)
   rw [Bool.or_eq_true] at this
   rcases this with h | h
   · have := Nat.eq_of_beq_eq_true h; omega
   · rw [if_neg (fun h => by have := (blt_iff _ _).1 h; omega)] at h
     exact h
 · have := List.all_eq_true.1 hp c ((memN_iff _ _).1 h2)
   rw [Bool.and_eq_true] at this
   have := List.all_eq_true.1 this.2 a ((memN_iff _ _).1 h1)
   rw [Bool.or_eq_true] at this
   rcases this with h | h
   · have := Nat.eq_of_beq_eq_true h; omega
   · rw [if_pos ((blt_iff _ _).2 hac)] at h
     exact h
theorem ptOk_late {bef : Array Nat} {late pt : List Nat} (hp : ptOk bef late pt = true) {a : Nat} (h : memN pt a = true) : memN late a = true := by
 have := List.all_eq_true.1 hp a ((memN_iff _ _).1 h)
 rw [Bool.and_eq_true] at this
 exact this.1
theorem disj_of {xs ys : List Nat} {n0 : Nat} (h1 : ∀ k ∈ xs, n0 ≤ k) (h2 : ∀ k ∈ ys, k < n0) : disj xs ys = true := by
 unfold disj
 refine List.all_eq_true.2 fun x hx => ?_
 cases hm : memN ys x with
 | false => rfl
 | true =>
   have := h2 x ((memN_iff _ _).1 hm)
   have := h1 x hx
   omega
theorem footX {bef : Array Nat} {mk late pt : List Nat} (hl : lateOk bef mk late = true) (hp : ptOk bef late pt = true) {n0 i : Nat} {ds : List Done} {st : St} (hI : InvX mk late pt n0 i ds st) {see : List Nat} (h : visT late n0 i st.n see = true) : footOk bef n0 i ds see [] = true := by
 have hv := h
 unfold visT at h
 rw [Bool.or_eq_true] at h
 unfold footOk
 simp only [Bool.and_eq_true]
 refine ⟨⟨List.all_eq_true.2 fun d hd => ?_, List.all_eq_true.2 fun k hk => ?_⟩, rfl⟩
 · rw [Bool.or_eq_true]
   rcases hI.put d hd with h0 | ⟨h1, h2⟩
   · right; simp [disj, h0]
   · rcases h with h | h
     · rw [Bool.and_eq_true] at h
       exact .inl (ptOk_ahead hp (hI.idx d hd) (.inl ⟨h1, h.1⟩))
     · right
       rw [Bool.and_eq_true]
       exact ⟨rfl, disj_of h2 fun k hk => (blt_iff _ _).1 (List.all_eq_true.1 h k hk)⟩
 · rcases h with h | h
   · rw [Bool.and_eq_true] at h
     exact lateOk_visX hl h.1 hI ((blt_iff _ _).1 (List.all_eq_true.1 h.2 k hk))
   · have := List.all_eq_true.1 h k hk
     unfold visA
     rw [this, Bool.true_or]
theorem footXp {bef : Array Nat} {mk late pt : List Nat} (hl : lateOk bef mk late = true) (hp : ptOk bef late pt = true) {n0 i : Nat} {ds : List Done} {st : St} (hI : InvX mk late pt n0 i ds st) {see put : List Nat} (h : (memN pt i && put.all (Nat.ble n0 ·) && put.all (memN see) && memN late i && see.all (Nat.blt · st.n)) = true) : footOk bef n0 i ds see put = true := by
 simp only [Bool.and_eq_true] at h
 obtain ⟨⟨⟨⟨h1, h2⟩, h3⟩, h4⟩, h5⟩ := h
 unfold footOk
 simp only [Bool.and_eq_true]
 refine ⟨⟨List.all_eq_true.2 fun d hd => ?_, List.all_eq_true.2 fun k hk => ?_⟩, h3⟩
 · rw [Bool.or_eq_true]
   rcases hI.see d hd with hs | hs
   · exact .inl (ptOk_ahead hp (hI.idx d hd) (.inr ⟨hs, h1⟩))
   · rcases hI.put d hd with h0 | ⟨g1, _⟩
     · right
       rw [Bool.and_eq_true]
       exact ⟨disj_of (fun k hk => Nat.le_of_ble_eq_true (List.all_eq_true.1 h2 k hk)) hs, by simp [disj, h0]⟩
     · exact .inl (ptOk_ahead hp (hI.idx d hd) (.inr ⟨ptOk_late hp g1, h1⟩))
 · exact lateOk_visX hl h4 hI ((blt_iff _ _).1 (List.all_eq_true.1 h5 k hk))
theorem seeCall_dnamesX {bef : Array Nat} {n0 i : Nat} {ds : List Done} (hp : ∀ d ∈ ds, d.put = [] ∨ ahead bef d.i i = true) : ∀ H : Heap, (∀ x ∈ H, visA bef n0 i ds x.1 = true) → seeCall bef n0 i ds H = dnames H
 | [], _ => rfl
 | (k, b) :: H, hv => by
   have ih := seeCall_dnamesX hp H fun x hx => hv x (List.mem_cons_of_mem _ hx)
   have h1 := hv _ (List.mem_cons_self ..)
   have h2 : (ds.all fun d => ahead bef d.i i || !memN d.put k) = true := List.all_eq_true.2 fun d hd => by
     rcases hp d hd with h | h
     · rw [h]; simp [memN]
     · rw [h, Bool.true_or]
   cases b <;> simp only [seeCall, dnames, h1, h2, ih, Bool.and_self, if_true]
theorem InvX.same {mk late pt : List Nat} {n0 i : Nat} {ds : List Done} {st : St} (hI : InvX mk late pt n0 i ds st) {fr : Fr} : InvX mk late pt n0 (i + 1) ds { st with fr := fr } :=
 ⟨hI.put, hI.see, fun d hd => Nat.lt_succ_of_lt (hI.idx d hd), fun k h1 h2 => by obtain ⟨d, a, b, c, e, f⟩ := hI.cov k h1 h2; exact ⟨d, a, b, c, e, by omega⟩, hI.nam⟩
theorem InvX.next {mk late pt : List Nat} {n0 i : Nat} {ds : List Done} {st : St} (hI : InvX mk late pt n0 i ds st) {fr : Fr} {see put : List Nat} {H : Heap} {k : Nat} (hput : put = [] ∨ (memN pt i = true ∧ ∀ k ∈ put, n0 ≤ k)) (hsee : memN late i = true ∨ ∀ k ∈ see, k < n0) (hn : ∀ x ∈ H, x.1 < k) (hm : (Nat.beq k st.n || memN mk i) = true) : InvX mk late pt n0 (i + 1) (⟨i, see, put, st.n, k⟩ :: ds) { st with fr := fr, H := H, n := k } := by
 refine ⟨fun d hd => ?_, fun d hd => ?_, fun d hd => ?_, fun j h1 h2 => ?_, hn⟩
 · rcases List.mem_cons.1 hd with rfl | hd
   · exact hput
   · exact hI.put d hd
 · rcases List.mem_cons.1 hd with rfl | hd
   · exact hsee
   · exact hI.see d hd
 · rcases List.mem_cons.1 hd with rfl | hd
   · exact Nat.lt_succ_self _
   · exact Nat.lt_succ_of_lt (hI.idx d hd)
 · rcases Nat.lt_or_ge j st.n with h | h
   · obtain ⟨d, a, b, c, e, f⟩ := hI.cov j h1 h
     exact ⟨d, List.mem_cons_of_mem _ a, b, c, e, by omega⟩
   · rw [Bool.or_eq_true] at hm
     have h2 : j < k := h2
     rcases hm with hm | hm
     · have := Nat.eq_of_beq_eq_true hm
       omega
     · exact ⟨_, List.mem_cons_self .., h, h2, hm, Nat.lt_succ_self _⟩
theorem visT_see {late : List Nat} {n0 i n : Nat} {see : List Nat} (h : visT late n0 i n see = true) : memN late i = true ∨ ∀ k ∈ see, k < n0 := by
 unfold visT at h
 rw [Bool.or_eq_true] at h
 rcases h with h | h
 · rw [Bool.and_eq_true] at h; exact .inl h.1
 · exact .inr fun k hk => (blt_iff _ _).1 (List.all_eq_true.1 h k hk)
theorem backA_memX {put : List Nat} {H' : Heap} : ∀ {H : Heap} {x : Nat × Blk}, x ∈ backA put H' H → ∃ y ∈ H, y.1 = x.1
 | [], x, h => by cases h
 | (k, b) :: H, x, h => by
   rw [backA] at h
   have go : x ∈ backA put H' H → ∃ y ∈ (k, b) :: H, y.1 = x.1 := fun h => by
     obtain ⟨y, hy, e⟩ := backA_memX h
     exact ⟨y, List.mem_cons_of_mem _ hy, e⟩
   split at h
   · rcases List.mem_cons.1 h with rfl | h
     · exact ⟨_, List.mem_cons_self .., rfl⟩
     · exact go h
   · split at h
     · rcases List.mem_cons.1 h with rfl | h
       · exact ⟨_, List.mem_cons_self .., rfl⟩
       · exact go h
     · exact go h
theorem handX_ok {P : Program} {r : Rec} {bef : Array Nat} {mk late pt : List Nat} {n0 i : Nat} {ds : List Done} {o : Oper} {fr : Fr} {st st' : St} (hI : InvX mk late pt n0 i ds st) {see put : List Nat} (hf : footOk bef n0 i ds see put = true) (hput : put = [] ∨ (memN pt i = true ∧ ∀ k ∈ put, n0 ≤ k)) (hsee : memN late i = true ∨ ∀ k ∈ see, k < n0) (h : handX P r mk i o see put fr st = some st') : ∃ ds', handOp P r bef n0 i ds o see put fr st = some (st', ds') ∧ InvX mk late pt n0 (i + 1) ds' st' := by
 unfold handX at h
 unfold handOp
 rw [hf]
 simp only
 split at h
 · rename_i v H k hv
   rw [hv]
   simp only
   split at h
   · rename_i hc
     simp only [Bool.and_eq_true] at hc
     injection h with h; subst h
     rw [hc.1.1, hc.1.2]
     simp only [Bool.and_self]
     have hle := Nat.le_of_ble_eq_true hc.1.1
     refine ⟨_, rfl, hI.next hput hsee (fun x hx => ?_) hc.2⟩
     rcases List.mem_append.1 hx with hx | hx
     · exact namesOk_mem _ _ hc.1.2 x hx
     · obtain ⟨y, hy, e⟩ := backA_memX hx
       exact Nat.lt_of_lt_of_le (by rw [← e]; exact hI.nam y hy) hle
   · cases h
 · cases h
theorem backA_nil (H' : Heap) : ∀ H : Heap, backA [] H' H = H
 | [] => rfl
 | (k, b) :: H => by simp only [backA, memN, backA_nil H' H]
theorem handT_X {P : Program} {r : Rec} {mk : List Nat} {i : Nat} {o : Oper} {see : List Nat} {fr : Fr} {st : St} : handT P r mk i o see fr st = handX P r mk i o see [] fr st := by
 unfold handT handX
 simp only [backA_nil]
 rfl
theorem opsX_ok {P : Program} {r : Rec} {ops : Array Oper} {bef : Array Nat} {al mk late pt : List Nat} (hl : lateOk bef mk late = true) (hpt : ptOk bef late pt = true) {n0 : Nat} : ∀ (os : List Oper) (i : Nat) (st st' : St) (ds : List Done), alEq ops bef al os i = true → InvX mk late pt n0 i ds st → opsX P r ops al mk late pt n0 os i st = some st' → opsD P r ops bef n0 os i ds st = some st'
 | [], _, st, st', ds, _, _, h => h
 | o :: os, i, st, st', ds, hal, hI, h => by
   simp only [alEq, Bool.and_eq_true, Bool.or_eq_true, beq_iff_eq] at hal
   have halo : isPure o.op = false → isRead o.op = false → memN al i = aloneA bef i ops.toList 0 := fun h1 h2 => by
     rcases hal.1 with (h | h) | h
     · rw [h1] at h; cases h
     · rw [h2] at h; cases h
     · exact h
   simp only [opsX] at h
   split at h
   · rename_i st1 h1
     have key : ∃ ds', oneD P r ops bef n0 i ds o st = some (st1, ds') ∧ InvX mk late pt n0 (i + 1) ds' st1 := by
       unfold oneX at h1
       unfold oneD
       split at h1
       · cases h1
       · rename_i hd
         rw [hd]
         simp only
         split at h1
         · cases h1
         · rename_i hw
           rw [hw]
           injection h1 with h1; subst h1
           exact ⟨ds, rfl, hI.same⟩
         · rename_i hw
           rw [hw]
           simp only
           unfold doneX at h1
           unfold doneD
           split at h1
           · rename_i hp
             rw [hp]
             simp only
             unfold pureS at h1
             unfold pureOp
             split at h1
             · rename_i v a k hv
               rw [hv]
               simp only
               split at h1
               · rename_i hk
                 rw [hk]
                 injection h1 with h1; subst h1
                 exact ⟨ds, rfl, hI.same⟩
               · cases h1
             · cases h1
           · rename_i hp
             rw [hp]
             simp only
             split at h1
             · rename_i hrd
               rw [hrd]
               simp only
               split at h1
               · rename_i f hf
                 rw [hf]
                 simp only
                 unfold readT at h1
                 split at h1
                 · rename_i hv
                   have hvt := hv
                   unfold readOp
                   rw [footX hl hpt hI hv]
                   simp only
                   split at h1
                   · rename_i v a b hv
                     rw [hv]
                     injection h1 with h1; subst h1
                     exact ⟨_, rfl, hI.next (.inl rfl) (visT_see hvt) hI.nam (by simp)⟩
                   · cases h1
                 · cases h1
               · cases h1
             · rename_i hrd
               rw [hrd]
               simp only
               split at h1
               · rename_i hm
                 have ha : aloneA bef i ops.toList 0 = true := by rw [← halo hp hrd, hm]
                 rw [ha]
                 simp only
                 unfold aloneT at h1
                 unfold aloneOp
                 split at h1
                 · rename_i v H k hv
                   rw [hv]
                   simp only
                   split at h1
                   · rename_i hk
                     simp only [Bool.and_eq_true] at hk
                     rw [hk.1.1, hk.1.2]
                     injection h1 with h1; subst h1
                     exact ⟨_, rfl, hI.next (.inl rfl) (.inr fun k hk => by cases hk) (namesOk_mem _ _ hk.1.2) hk.2⟩
                   · cases h1
                 · cases h1
               · rename_i hm
                 have ha : aloneA bef i ops.toList 0 = false := by rw [← halo hp hrd, hm]
                 rw [ha]
                 simp only
                 split at h1
                 · rename_i f hf
                   rw [hf]
                   simp only
                   split at h1
                   · rename_i hv
                     rw [Bool.and_eq_true] at hv
                     rw [List.isEmpty_iff.1 hv.1]
                     rw [handT_X] at h1
                     exact handX_ok hI (footX hl hpt hI hv.2) (.inl rfl) (visT_see hv.2) h1
                   · split at h1
                     · rename_i hv
                       have hv2 := hv
                       simp only [Bool.and_eq_true] at hv2
                       exact handX_ok hI (footXp hl hpt hI hv) (.inr ⟨hv2.1.1.1.1, fun k hk => Nat.le_of_ble_eq_true (List.all_eq_true.1 hv2.1.1.1.2 k hk)⟩) (.inl hv2.1.2) h1
                     · cases h1
                 · rename_i hf
                   rw [hf]
                   simp only
                   split at h1
                   · rename_i hv
                     rw [Bool.and_eq_true] at hv
                     have hvis : ∀ k, k < st.n → visA bef n0 i ds k = true := fun k hk => lateOk_visX hl hv.1 hI hk
                     rw [seeCall_dnamesX (fun d hd => by
                       rcases hI.put d hd with h | ⟨h, _⟩
                       · exact .inl h
                       · exact .inr (ptOk_ahead hpt (hI.idx d hd) (.inl ⟨h, hv.1⟩))) st.H fun x hx => hvis _ (hI.nam x hx)]
                     have hvt : visT late n0 i st.n (dnames st.H) = true := by
                       unfold visT
                       rw [hv.1]
                       simp only [Bool.true_and, Bool.or_eq_true]
                       refine .inl (List.all_eq_true.2 fun k hk => ?_)
                       obtain ⟨b, hb⟩ := dnames_mem _ _ hk
                       exact (blt_iff _ _).2 (hI.nam _ hb)
                     have h2 : handT P r mk i o (dnames st.H) (trim (lookTmps ops o) st.fr) st = some st1 := by
                       unfold handT
                       rw [handA_dnames hv.2]
                       exact h1
                     rw [handT_X] at h2
                     exact handX_ok hI (footX hl hpt hI hvt) (.inl rfl) (.inl hv.1) h2
                   · cases h1
     obtain ⟨ds', h2, hI'⟩ := key
     simp only [opsD, h2]
     exact opsX_ok hl hpt os (i + 1) st1 st' ds' hal.2 hI' h
   · cases h
def drawX (ops : Array Oper) (bef : Array Nat) (al mk late pt : List Nat) : Bool := drawOk ops bef && alEq ops bef al ops.toList 0 && lateOk bef mk late && ptOk bef late pt
section
variable {P : Program} {n0 : Nat} {ro : Option Nat} {st st' : St} {K : Ex → St → Prop} {r : Rec} {m : Nat}
theorem E.drawX (hm : P.follows .mixedOrders = true) (hr : RecOk P r m) (al mk late pt : List Nat) {id : Nat} {ops : Array Oper} (hd : Ab.drawX ops (Region.before ops) al mk late pt = true) (h : runX P r ops al mk late pt st = some st') (k : K .normal st') : E P n0 ro (.region id ops true) st K := by
 unfold Ab.drawX at hd
 simp only [Bool.and_eq_true] at hd
 unfold runX at h
 split at h
 · rename_i hn
   exact E.draw hm hr hd.1.1.1 (opsX_ok hd.1.2 hd.2 _ _ _ _ [] hd.1.1.2 ⟨by simp, by simp, by simp, fun k h1 h2 => by omega, namesOk_mem _ _ hn⟩ h) k
 · cases h
end
attribute [simp] runX opsX oneX doneX
end Go.Ab

namespace Go.Proofs.YtdmepnhmcppkkaaGreatDoor
open Go Go.Ab Go.Proofs
/-! ### classes -/
def claS (a last : Int) : Int := firstV [withinV a 1 137438953472, whenV (decide (a ≤ last)) 11]
def claGo (last : Int) : List Int → Int
 | [] => 0
 | a :: l => if claS a last = 0 then claGo a l else claS a last
def claE (l : List Int) : Int := if l = [] then 12 else if 8 < l.length then 5 else claGo 0 l
def lastI (l : List Int) (i : Nat) : Int := match i with
 | 0 => 0
 | k + 1 => l.getD k 0
theorem w137 {H : Heap} {n : Nat} {v : Value} {l : List Int} (hV : intV H v = some l) : AC Tryz.prog 137 [v] H n (iv (claE l)) H n := by
 refine AC.given fun hold hsc hgn => AC.tidied (B := []) (by simp) ?_
 replace hV := Ab.int_tidy hold hV
 replace hold := tidy_old hold
 have hr := recT_ok (P := Tryz.prog) (l := [(103, g103), (98, g98), (100, g100)]) (by simp [ok103, ok98, ok100])
 obtain ⟨oa, c, rfl, hlt, _, hcell⟩ := intV_form hV
 refine AC.pure Tryz.func137 rfl (by kernel_rfl) rfl [4, 21, 22, 23] rfl ?_
 refine E.seq ?_
 refine E.reg hr (by simp; rfl) ?_ -- region 0
 refine E.seq (E.seq ?_)
 obtain ⟨b1, d1⟩ : ∃ b, decide (l = []) = b := ⟨_, rfl⟩
 obtain ⟨b2, d2⟩ : ∃ b, decide (8 < l.length) = b := ⟨_, rfl⟩
 have d2' : decide ((8 : Int) < (l.length : Int)) = b2 := by rw [← d2]; exact decide_eq_decide.2 (by omega)
 refine E.reg hr (by simp [g103, g98, intsAt, flat, cellsA, intsOf, Nat.blt, d1, d2', -decide_eq_true_eq, -decide_eq_false_iff_not]; rfl) ?_ -- region 1
 refine E.seq ?_
 refine E.reg hr (by simp; rfl) ?_ -- region 2
 cases b1
 case' true =>
   refine E.cond (t := true) (by simp [firstV, whenV]) (fun _ => ?_) (fun h => by cases h)
   refine E.seq ?_
   refine E.reg hr (by simp; rfl) ?_ -- region 3
   refine E.ret ?_
   exact pureK.ret rfl rfl (by simp only [decide_eq_true_eq] at d1; simp [claE, d1, firstV, whenV]) (Sub.cons (by simp) (Sub.refl _))
 simp only [decide_eq_false_iff_not] at d1
 cases b2
 case' true =>
   refine E.cond (t := true) (by simp [firstV, whenV]) (fun _ => ?_) (fun h => by cases h)
   refine E.seq ?_
   refine E.reg hr (by simp; rfl) ?_ -- region 3
   refine E.ret ?_
   exact pureK.ret rfl rfl (by simp only [decide_eq_true_eq] at d2; simp [claE, d1, d2, firstV, whenV]) (Sub.cons (by simp) (Sub.refl _))
 simp only [decide_eq_false_iff_not] at d2
 have hce : claE l = claGo 0 l := by unfold claE; rw [if_neg d1, if_neg d2]
 refine E.cond (t := false) (by simp [firstV, whenV]) (fun h => by cases h) (fun _ => ?_)
 refine E.skip (E.seq ?_)
 refine E.reg hr (by simp; rfl) ?_ -- region 4
 refine E.seq (E.seq ?_)
 refine E.reg hr (by simp; rfl) ?_ -- region 5
 refine E.block ?_ -- 0
 refine E.loop ?_
 refine EL.ind (fun i : Nat => { fr := [(4, iv (lastI l i)), (21, .slice oa l.length c), (22, iv l.length), (23, iv i)], sz := 40, H := tidy n H, n := n, marks := [], vs := [4, 21, 22, 23] }) (fun i => l.length - i) (fun i => i ≤ l.length ∧ claGo (lastI l i) (l.drop i) = claE l) 0 (.back rfl hold (Sub.cons (by simp) (Sub.refl _)) rfl rfl ⟨rfl, rfl⟩ (by simp [-sc]; exact ⟨⟨rfl, trivial⟩, hsc.1, trivial, trivial⟩)) ⟨Nat.zero_le _, hce.symm⟩ (fun _ => rfl) ?_
 rintro i ⟨hi, hg⟩
 have hw : IntKind.i64.wrap ((i : Int) + 1) = (i : Int) + 1 := W_in (by omega) (by omega)
 refine E.seq ?_
 refine E.reg hr (by simp; rfl) ?_ -- region 6
 refine E.seq ?_
 by_cases hil : i < l.length
 · obtain ⟨a, rfl, hf, hc⟩ := hcell i hil
   rw [List.drop_eq_getElem_cons hil, claGo] at hg
   refine E.cond (t := true) (by simp [hil]) (fun _ => ?_) (fun h => by cases h)
   refine E.skip (E.seq ?_)
   refine E.block ?_ -- 1
   refine E.seq ?_
   refine E.reg hr (by simp [-cellA, -flat, hil, hf, hc]; rfl) ?_ -- region 7
   refine E.seq (E.seq ?_)
   have he : firstV [withinV l[i] 1 137438953472, whenV (decide (l[i] ≤ lastI l i)) 11] = claS l[i] (lastI l i) := rfl
   refine E.reg hr (by simp [g100, g103, g98, intsAt, flat, cellsA, intsOf, Nat.blt, he, -decide_eq_true_eq, -decide_eq_false_iff_not]; rfl) ?_ -- region 8
   refine E.seq ?_
   refine E.reg hr (by simp; rfl) ?_ -- region 9
   by_cases hz : claS l[i] (lastI l i) = 0
   · rw [if_pos hz] at hg
     refine E.cond (t := false) (by simp [hz]) (fun h => by cases h) (fun _ => ?_)
     refine E.skip ?_
     refine E.reg hr (by simp; rfl) ?_ -- region 11
     refine E.reg hr (by simp [hw]; rfl) ?_ -- region 12
     refine ⟨i + 1, .back rfl hold (Sub.cons (by simp) (Sub.refl _)) rfl (by simp) ⟨rfl, rfl⟩ (by simp [-sc]; exact ⟨⟨by simp [lastI, List.getD_eq_getElem?_getD, hil], trivial⟩, hsc.1, trivial, trivial⟩), ⟨hil, ?_⟩, by dsimp only; omega⟩
     rw [show lastI l (i + 1) = l[i] by simp [lastI, List.getD_eq_getElem?_getD, hil]]
     exact hg
   · rw [if_neg hz] at hg
     refine E.cond (t := true) (by simp [hz]) (fun _ => ?_) (fun h => by cases h)
     refine E.seq ?_
     refine E.reg hr (by simp; rfl) ?_ -- region 10
     refine E.ret ?_
     exact pureK.ret rfl rfl (by simp [← hg]) (Sub.cons (by simp) (Sub.refl _))
 · refine E.cond (t := false) (by simp [hil]) (fun h => by cases h) (fun _ => ?_)
   refine E.exit ?_ -- 0
   refine E.seq ?_
   refine E.reg hr (by simp; rfl) ?_ -- region 13
   refine E.ret ?_
   rw [List.drop_eq_nil_of_le (by omega)] at hg
   exact pureK.ret rfl rfl (by simp [← hg, claGo]) (Sub.refl _)
def g137 (args : List Value) (H : Heap) (n : Nat) : R := match args with
 | [v] => (intV H v).map fun l => (iv (claE l), H, n)
 | _ => none
theorem ok137 : EntOk Tryz.prog (137, g137) := by
 intro args H n v H' n' h
 simp only [g137] at h
 split at h
 · rw [Option.map_eq_some_iff] at h
   obtain ⟨ls, h1, h⟩ := h
   injection h with e1 e2; injection e2 with e2 e3; subst e1 e2 e3
   exact w137 h1
 · cases h
theorem w52 {H : Heap} {n : Nat} {v : Value} {l : List Int} (hV : intV H v = some l) : AC Tryz.prog 52 [v] H n (iv (claE l)) H n := by
 refine AC.given fun hold hsc hgn => AC.tidied (B := []) (by simp) ?_
 replace hV := Ab.int_tidy hold hV
 have hr := recT_ok (P := Tryz.prog) (l := [(102, g102)]) (by simp [ok102])
 obtain ⟨oa, c, rfl, hlt, _, hcell⟩ := intV_form hV
 refine AC.pure Tryz.func52 rfl (by kernel_rfl) rfl [0, 3] rfl ?_
 refine E.seq ?_
 refine E.reg hr (by simp; rfl) ?_ -- region 0
 refine E.seq (E.seq ?_)
 refine E.reg hr (by simp; rfl) ?_ -- region 1
 refine E.cond (by rfl) (fun h => ?_) (fun h => ?_)
 · simp at h
   refine E.seq ?_
   refine E.reg hr (by simp; rfl) ?_ -- region 2
   refine E.ret ?_
   exact pureK.ret rfl rfl (by simp [claE, h]) (Sub.refl _)
 simp at h
 have h1 : ¬ l = [] := h
 refine E.skip (E.seq ?_)
 refine E.seq ?_
 refine E.reg hr (by simp; rfl) ?_ -- region 3
 refine E.cond (by rfl) (fun h2 => ?_) (fun h2 => ?_)
 · simp at h2
   refine E.seq ?_
   refine E.reg hr (by simp; rfl) ?_ -- region 4
   refine E.ret ?_
   exact pureK.ret rfl rfl (by simp only [claE, if_neg h1, if_pos (show 8 < l.length by omega)]; simp) (Sub.refl _)
 simp at h2
 have hce : claE l = claGo 0 l := by unfold claE; rw [if_neg h1, if_neg (by omega)]
 refine E.skip (E.seq ?_)
 refine E.seq ?_
 refine E.reg hr (by simp; rfl) ?_ -- region 5
 refine E.block ?_ -- 0
 refine E.loop ?_
 refine EL.ind (fun i : Nat => { fr := [(0, .slice oa l.length c), (3, iv i)], sz := 39, H := tidy n H, n := n, marks := [], vs := [0, 3] }) (fun i => l.length - i) (fun i => i ≤ l.length ∧ claGo (lastI l i) (l.drop i) = claE l) 0 (.keep rfl rfl rfl (by simp) (Sub.refl _)) ⟨Nat.zero_le _, hce.symm⟩ (fun _ => rfl) ?_
 rintro i ⟨hi, hg⟩
 have hw : IntKind.i64.wrap ((i : Int) + 1) = (i : Int) + 1 := W_in (by omega) (by omega)
 refine E.seq (E.seq ?_)
 refine E.reg hr (by simp; rfl) ?_ -- region 6
 by_cases hil : i < l.length
 · obtain ⟨a, rfl, hf, hc⟩ := hcell i hil
   rw [List.drop_eq_getElem_cons hil, claGo] at hg
   refine E.cond (t := true) (by simp [hil]) (fun _ => ?_) (fun h => by cases h)
   refine E.skip (E.seq ?_)
   refine E.block ?_ -- 1
   refine E.seq (E.seq ?_)
   refine E.reg hr (by simp [-cellA, -flat, hil, hf, hc, g102]; rfl) ?_ -- region 8
   refine E.seq ?_
   refine E.reg hr (by simp; rfl) ?_ -- region 9
   by_cases hz1 : withinV l[i] 1 137438953472 = 0
   · refine E.cond (t := false) (by simp [hz1]) (fun h => by cases h) (fun _ => ?_)
     refine E.skip (E.seq ?_)
     have h1i := (withinV_zero.1 hz1).1
     have hS : claS l[i] (lastI l i) = if l[i] ≤ lastI l i then 11 else 0 := by
       unfold claS; simp [firstV, hz1, whenV]
     rw [hS] at hg
     have hnext : lastI l (i + 1) = l[i] := by simp [lastI, List.getD_eq_getElem?_getD, hil]
     cases i with
     | zero =>
       refine E.drawU mixed hr [] [] [6, 11] (by kernel_rfl) (by simp; rfl) ?_ -- region 11
       rw [if_neg (show ¬ l[0] ≤ lastI l 0 by show ¬ l[0] ≤ 0; omega), if_pos rfl] at hg
       refine E.cond (t := false) (by simp) (fun h => by cases h) (fun _ => ?_)
       refine E.skip ?_
       have hw1 : IntKind.i64.wrap 1 = 1 := W_in (by omega) (by omega)
       refine E.reg hr (by simp [hw1]; rfl) ?_ -- region 7
       exact ⟨1, .keep rfl rfl rfl (by simp) (Sub.refl _), ⟨hil, by rw [hnext]; exact hg⟩, by dsimp only; omega⟩
     | succ j =>
       obtain ⟨a', e', hf', hc'⟩ := hcell j (by omega)
       injection e' with e'; subst e'
       have hlj : lastI l (j + 1) = l[j] := by simp [lastI, List.getD_eq_getElem?_getD, show j < l.length by omega]
       have hwj : IntKind.i64.wrap (j : Int) = j := W_in (by omega) (by omega)
       have hjl : j < l.length := by omega
       have ha := cellA_lt tidy_lt hc
       have hra := fun o => cell_read (H := tidy n H) (a := a.block) (o := o) (L := [a.block]) (by simp)
       have hwk : IntKind.i64.wrap ((j : Int) + 1 + 1) = (j : Int) + 1 + 1 := W_in (by omega) (by omega)
       have hij : ((j : Int) + 1 < (l.length : Int)) = True := eq_true (by omega)
       rw [hlj] at hg
       obtain ⟨b1, d1⟩ : ∃ b, decide (l[j + 1] ≤ l[j]) = b := ⟨_, rfl⟩
       refine E.drawU mixed hr [] [] [6, 11] (by kernel_rfl) (by simp [-cellA, -flat, -readA, -decide_eq_true_eq, -decide_eq_false_iff_not, hra, ha, hij, hjl, hf, hc, hc', hwj, d1]; rfl) ?_ -- region 11
       cases b1
       · simp only [decide_eq_false_iff_not] at d1
         rw [if_neg d1, if_pos rfl] at hg
         refine E.cond (t := false) (by simp) (fun h => by cases h) (fun _ => ?_)
         refine E.skip ?_
         refine E.reg hr (by simp [hwk]; rfl) ?_ -- region 7
         exact ⟨j + 1 + 1, .keep rfl rfl rfl (by simp) (Sub.refl _), ⟨hil, by rw [hnext]; exact hg⟩, by dsimp only; omega⟩
       · simp only [decide_eq_true_eq] at d1
         rw [if_pos d1, if_neg (by decide)] at hg
         refine E.cond (t := true) (by simp) (fun _ => ?_) (fun h => by cases h)
         refine E.seq ?_
         refine E.reg hr (by simp; rfl) ?_ -- region 12
         refine E.ret ?_
         exact pureK.ret rfl rfl (by simp [← hg]) (Sub.refl _)
   · rw [if_neg (show ¬ claS l[i] (lastI l i) = 0 by unfold claS; rw [firstV_cons_zero]; exact fun h => hz1 h.1)] at hg
     refine E.cond (t := true) (by simp [hz1]) (fun _ => ?_) (fun h => by cases h)
     refine E.seq ?_
     refine E.reg hr (by simp; rfl) ?_ -- region 10
     refine E.ret ?_
     exact pureK.ret rfl rfl (by simp [← hg, claS, firstV, hz1]) (Sub.refl _)
 · refine E.cond (t := false) (by simp [hil]) (fun h => by cases h) (fun _ => ?_)
   refine E.exit ?_ -- 0
   refine E.seq ?_
   refine E.reg hr (by simp; rfl) ?_ -- region 13
   refine E.ret ?_
   rw [List.drop_eq_nil_of_le (by omega)] at hg
   exact pureK.ret rfl rfl (by simp [← hg, claGo]) (Sub.refl _)
def g52 (args : List Value) (H : Heap) (n : Nat) : R := match args with
 | [v] => (intV H v).map fun l => (iv (claE l), H, n)
 | _ => none
theorem ok52 : EntOk Tryz.prog (52, g52) := by
 intro args H n v H' n' h
 simp only [g52] at h
 split at h
 · rw [Option.map_eq_some_iff] at h
   obtain ⟨ls, h1, h⟩ := h
   injection h with e1 e2; injection e2 with e2 e3; subst e1 e2 e3
   exact w52 h1
 · cases h
end Go.Proofs.YtdmepnhmcppkkaaGreatDoor

namespace Go.Proofs.YtdmepnhmcppkkaaGreatDoor
open Go Go.Ab Go.Proofs
theorem backA_low {put : List Nat} {H' : Heap} {N : Nat} (hp : ∀ k ∈ put, N ≤ k) : ∀ {H : Heap}, namesOk N H = true → backA put H' H = H
 | [], _ => rfl
 | (j, b) :: H, h => by
   have hj := namesOk_mem _ _ h (j, b) (List.mem_cons_self ..)
   have hm : memN put j = false := by
     cases hm : memN put j with
     | false => rfl
     | true => have := hp j ((memN_iff _ _).1 hm); omega
   rw [backA, hm]
   simp only
   rw [backA_low hp (namesOk_iff.2 fun x hx => namesOk_mem _ _ h x (List.mem_cons_of_mem _ hx))]
def sqV (p : Pc) : Int := (p.sx - p.rx) * (p.sx - p.rx) + (p.sy - p.ry) * (p.sy - p.ry)
theorem sq_in {x : Int} (h1 : -200000 ≤ x) (h2 : x ≤ 200000) : 0 ≤ x * x ∧ x * x ≤ 40000000000 := by
 rcases Int.le_total 0 x with h | h
 · exact ⟨Int.mul_nonneg h h, by have := Int.mul_le_mul h2 h2 h (by omega); omega⟩
 · have e : x * x = (-x) * (-x) := (Int.neg_mul_neg x x).symm
   rw [e]
   exact ⟨Int.mul_nonneg (by omega) (by omega), by have := Int.mul_le_mul (show -x ≤ 200000 by omega) (show -x ≤ 200000 by omega) (by omega) (by omega); omega⟩
def OffIn (x y : Int) : Prop := -200000 ≤ x ∧ x ≤ 200000 ∧ -200000 ≤ y ∧ y ≤ 200000
instance (x y : Int) : Decidable (OffIn x y) := by unfold OffIn; infer_instance
theorem w189 {H : Heap} {n : Nat} {b d : Addr} {m x y : Int} (hb : cellA H b.block b.off = some (iv x)) (hd : cellA H d.block d.off = some (iv y)) (hI : OffIn x y) : AC Tryz.prog 189 [iv m, .pointer (some b), .pointer (some d)] H n (.bool (decide (x * x + y * y < m))) H n := by
 have hr := recT_ok (P := Tryz.prog) (l := []) (by simp)
 obtain ⟨h1, h2, h3, h4⟩ := hI
 have hx := sq_in h1 h2
 have hy := sq_in h3 h4
 have hw1 : IntKind.i64.wrap (x * x) = x * x := W_in (by omega) (by omega)
 have hw2 : IntKind.i64.wrap (y * y) = y * y := W_in (by omega) (by omega)
 have hw3 : IntKind.i64.wrap (x * x + y * y) = x * x + y * y := W_in (by omega) (by omega)
 refine AC.pure Tryz.func189 rfl (by kernel_rfl) rfl [] rfl ?_
 refine E.seq ?_
 refine E.reg hr (by simp; rfl) ?_ -- region 0
 refine E.seq ?_
 refine E.reg hr (by simp [-cellA, hb, hd, hw1, hw2, hw3]; rfl) ?_ -- region 1
 refine E.ret ?_
 exact pureK.ret rfl rfl (by simp) (Sub.refl _)
def g189 (args : List Value) (H : Heap) (n : Nat) : R := match args with
 | [.int .i64 m, .pointer (some b), .pointer (some d)] => match cellA H b.block b.off, cellA H d.block d.off with
   | some (.int .i64 x), some (.int .i64 y) => if OffIn x y then some (.bool (decide (x * x + y * y < m)), H, n) else none
   | _, _ => none
 | _ => none
theorem ok189 : EntOk Tryz.prog (189, g189) := by
 intro args H n v H' n' h
 simp only [g189] at h
 split at h
 · split at h
   · rename_i hb hd
     split at h
     · rename_i hI
       injection h with h; injection h with e1 e2; injection e2 with e2 e3; subst e1 e2 e3
       exact w189 hb hd hI
     · cases h
   · cases h
 · cases h
def idxV (F : Int → Bool) (l : List Int) : Int := match l.findIdx? F with
 | some i => i
 | none => -1
set_option maxRecDepth 50000 in
theorem w188 {H : Heap} {n : Nat} {v : Value} {l : List Int} {x y : Int} {b d : Addr} (hV : intV H v = some l) (hb : cellA H b.block b.off = some (iv x)) (hd : cellA H d.block d.off = some (iv y)) (hI : OffIn x y) : AC Tryz.prog 188 [v, .func (.func 189) #[] #[.pointer (some b), .pointer (some d)]] H n (iv (idxV (fun m => decide (x * x + y * y < m)) l)) H n := by
 have hr := recT_ok (P := Tryz.prog) (l := [(189, g189)]) (by simp [ok189])
 obtain ⟨ob, c, rfl, hlt, _, hrow⟩ := intV_form hV
 refine AC.pure Tryz.func188 rfl (by kernel_rfl) rfl [0, 1, 7, 8] rfl ?_
 refine E.seq ?_
 refine E.reg hr (by simp; rfl) ?_ -- region 0
 refine E.seq (E.seq ?_)
 refine E.reg hr (by simp; rfl) ?_ -- region 1
 refine E.block ?_ -- 0
 refine E.loop ?_
 refine EL.ind (fun i : Nat => { fr := [(0, .slice ob l.length c), (1, .func (.func 189) #[] #[.pointer (some b), .pointer (some d)]), (7, iv l.length), (8, iv i)], sz := 19, H := H, n := n, marks := [], vs := [0, 1, 7, 8] }) (fun i => l.length - i) (fun i => i ≤ l.length ∧ ∀ j (h : j < l.length), j < i → decide (x * x + y * y < l[j]) = false) 0 (.keep rfl rfl rfl (by simp) (Sub.refl _)) ⟨Nat.zero_le _, by omega⟩ (fun _ => rfl) ?_
 rintro i ⟨hi, hg⟩
 have hw : IntKind.i64.wrap ((i : Int) + 1) = (i : Int) + 1 := W_in (by omega) (by omega)
 refine E.seq ?_
 refine E.reg hr (by simp; rfl) ?_ -- region 2
 refine E.seq ?_
 by_cases hil : i < l.length
 · obtain ⟨a, rfl, hf, hc⟩ := hrow i hil
   obtain ⟨z, hz⟩ : ∃ z, decide (x * x + y * y < l[i]) = z := ⟨_, rfl⟩
   have hg189 : ∀ q, g189 [iv l[i], .pointer (some b), .pointer (some d)] H q = some (.bool z, H, q) := fun q => by
     simp only [g189, hb, hd, if_pos hI, hz]
   refine E.cond (t := true) (by simp [hil]) (fun _ => ?_) (fun h => by cases h)
   refine E.skip (E.seq ?_)
   refine E.block ?_ -- 1
   refine E.seq ?_
   refine E.reg hr (by simp; rfl) ?_ -- region 3
   refine E.seq ?_
   refine E.reg hr (by simp [-cellA, -flat, run_vcall_tmp, vcallF, target, hil, hf, hc, hg189]; rfl) ?_ -- region 4
   cases z with
   | false =>
     refine E.cond (t := false) (by simp) (fun h => by cases h) (fun _ => ?_)
     refine E.skip ?_
     refine E.reg hr (by simp [hw]; rfl) ?_ -- region 6
     exact ⟨i + 1, .keep rfl rfl rfl (by simp) (Sub.refl _), ⟨hil, fun j hj hlt => by
       rcases Nat.lt_or_ge j i with h | h
       · exact hg j hj h
       · have : j = i := by omega
         subst this; exact hz⟩, by dsimp only; omega⟩
   | true =>
     refine E.cond (t := true) (by simp) (fun _ => ?_) (fun h => by cases h)
     refine E.seq ?_
     refine E.reg hr (by simp; rfl) ?_ -- region 5
     refine E.ret ?_
     have : l.findIdx? (fun m => decide (x * x + y * y < m)) = some i := by
       rw [List.findIdx?_eq_some_iff_getElem]
       exact ⟨hil, hz, fun j hj => by simpa using hg j (by omega) hj⟩
     exact pureK.ret rfl rfl (by simp [idxV, this]) (Sub.refl _)
 · refine E.cond (t := false) (by simp [hil]) (fun h => by cases h) (fun _ => ?_)
   refine E.exit ?_ -- 0
   refine E.seq ?_
   refine E.reg hr (by simp; rfl) ?_ -- region 7
   refine E.ret ?_
   have : l.findIdx? (fun m => decide (x * x + y * y < m)) = none := by
     rw [List.findIdx?_eq_none_iff]
     intro x hx
     obtain ⟨j, hj, rfl⟩ := List.getElem_of_mem hx
     exact hg j hj (by omega)
   exact pureK.ret rfl rfl (by simp [idxV, this]) (Sub.refl _)
def g188 (args : List Value) (H : Heap) (n : Nat) : R := match args with
 | [v, .func (.func 189) ⟨[]⟩ ⟨[.pointer (some b), .pointer (some d)]⟩] => match intV H v, cellA H b.block b.off, cellA H d.block d.off with
   | some l, some (.int .i64 x), some (.int .i64 y) => if OffIn x y then some (iv (idxV (fun m => decide (x * x + y * y < m)) l), H, n) else none
   | _, _, _ => none
 | _ => none
theorem ok188 : EntOk Tryz.prog (188, g188) := by
 intro args H n v H' n' h
 simp only [g188] at h
 split at h
 · split at h
   · rename_i h1 h2 h3
     split at h
     · rename_i hI
       injection h with h; injection h with e1 e2; injection e2 with e2 e3; subst e1 e2 e3
       exact w188 h1 h2 h3 hI
     · cases h
   · cases h
 · cases h
def clsV (l : List Int) (p : Pc) : Int := idxV (fun m => decide (sqV p < m)) l
theorem w138 {H : Heap} {n : Nat} {v : Value} {l : List Int} (hV : intV H v = some l) (p : Pc) (hp : PcIn p) : AC Tryz.prog 138 [v, .agg #[iv p.sx, iv p.sy, iv p.rx, iv p.ry]] H n (iv (clsV l p)) H n := by
 refine AC.given fun hold hsc hgn => AC.tidied (B := []) (by simp) ?_
 replace hV := Ab.int_tidy hold hV
 have hr := recT_ok (P := Tryz.prog) (l := [(188, g188)]) (by simp [ok188])
 obtain ⟨q1, q2, q3, q4, q5, q6, q7, q8⟩ := hp
 have hI : OffIn (p.sx - p.rx) (p.sy - p.ry) := ⟨by omega, by omega, by omega, by omega⟩
 have hw1 : IntKind.i64.wrap (p.sx - p.rx) = p.sx - p.rx := W_in (by omega) (by omega)
 have hw2 : IntKind.i64.wrap (p.sy - p.ry) = p.sy - p.ry := W_in (by omega) (by omega)
 obtain ⟨x, hx⟩ : ∃ x, p.sx - p.rx = x := ⟨_, rfl⟩
 obtain ⟨y, hy⟩ : ∃ y, p.sy - p.ry = y := ⟨_, rfl⟩
 have hbk : ∀ H', backA [n + 1] H' (tidy n H) = tidy n H := fun H' => backA_low (N := n) (fun k hk => by rw [List.mem_singleton] at hk; omega) namesOk_tidy
 refine AC.pure Tryz.func138 rfl (by kernel_rfl) rfl [6, 5, 0] rfl ?_
 refine E.seq ?_
 refine E.reg hr (by simp; rfl) ?_ -- region 0
 refine E.seq ?_
 refine E.drawX mixed hr [17] [14, 15, 16, 17] [14, 16, 17] [16] (by kernel_rfl) (by simp [Nat.add_assoc, hw1, hw2, handA_nil, takeNew, handX, backA, hbk]; rfl) ?_ -- region 1
 have hS2 : Sub (tidy n H) ((n + 2, .cells [iv (p.sy - p.ry)] 3) :: (n + 1, .cells [iv (p.sx - p.rx)] 3) :: (n, .cells [iv p.sx, iv p.sy, iv p.rx, iv p.ry] 81) :: tidy n H) := Sub.cons (by simp) (Sub.cons (by simp) (Sub.cons (by simp) (Sub.refl _)))
 have hV2 := listV_mono decI_mono hS2 hV
 have hg : ∀ q, g188 [v, .func (.func 189) #[] #[.pointer (some ⟨n + 1, 0, none⟩), .pointer (some ⟨n + 2, 0, none⟩)]] ((n + 2, .cells [iv (p.sy - p.ry)] 3) :: (n + 1, .cells [iv (p.sx - p.rx)] 3) :: (n, .cells [iv p.sx, iv p.sy, iv p.rx, iv p.ry] 81) :: tidy n H) q = some (iv (clsV l p), (n + 2, .cells [iv (p.sy - p.ry)] 3) :: (n + 1, .cells [iv (p.sx - p.rx)] 3) :: (n, .cells [iv p.sx, iv p.sy, iv p.rx, iv p.ry] 81) :: tidy n H, q) := fun q => by
   simp only [g188, hV2]
   simp [hI]
   rfl
 refine E.seq ?_
 refine E.reg hr (by simp [opMakefunc, hg]; rfl) ?_ -- region 2
 refine E.ret ?_
 exact pureK.ret rfl rfl (by simp) hS2
set_option maxRecDepth 30000 in
def g138 (args : List Value) (H : Heap) (n : Nat) : R := match args with
 | [v, .agg ⟨[.int .i64 p, .int .i64 q, .int .i64 r, .int .i64 s]⟩] => match intV H v with
   | some l => if PcIn ⟨p, q, r, s⟩ then some (iv (clsV l ⟨p, q, r, s⟩), H, n) else none
   | none => none
 | _ => none
set_option maxRecDepth 30000 in
theorem ok138 : EntOk Tryz.prog (138, g138) := by
 intro args H n v H' n' h
 simp only [g138] at h
 split at h
 · split at h
   · rename_i h1
     split at h
     · rename_i hI
       injection h with h; injection h with e1 e2; injection e2 with e2 e3; subst e1 e2 e3
       exact w138 h1 _ hI
     · cases h
   · cases h
 · cases h
set_option maxRecDepth 30000 in
theorem w139 (p : Pc) (hp : PcIn p) : AC Tryz.prog 139 [.agg #[iv p.sx, iv p.sy, iv p.rx, iv p.ry]] [] 9 (iv (sqV p)) [] 9 := by
 have hr := recT_ok (P := Tryz.prog) (l := []) (by simp)
 obtain ⟨q1, q2, q3, q4, q5, q6, q7, q8⟩ := hp
 have hx := sq_in (x := p.sx - p.rx) (by omega) (by omega)
 have hy := sq_in (x := p.sy - p.ry) (by omega) (by omega)
 have hw1 : IntKind.i64.wrap (p.sx - p.rx) = p.sx - p.rx := W_in (by omega) (by omega)
 have hw2 : IntKind.i64.wrap (p.sy - p.ry) = p.sy - p.ry := W_in (by omega) (by omega)
 obtain ⟨A, hA⟩ : ∃ A, (p.sx - p.rx) * (p.sx - p.rx) = A := ⟨_, rfl⟩
 obtain ⟨B, hB⟩ : ∃ B, (p.sy - p.ry) * (p.sy - p.ry) = B := ⟨_, rfl⟩
 rw [hA] at hx
 rw [hB] at hy
 have hw3 : IntKind.i64.wrap A = A := W_in (by omega) (by omega)
 have hw4 : IntKind.i64.wrap B = B := W_in (by omega) (by omega)
 have hw5 : IntKind.i64.wrap (A + B) = A + B := W_in (by omega) (by omega)
 refine AC.pure Tryz.func139 rfl (by kernel_rfl) rfl [] rfl ?_
 refine E.seq ?_
 refine E.reg hr (by simp [argsFr, Tryz.f139]; rfl) ?_ -- region 0
 refine E.seq ?_
 refine E.drawC mixed hr [] [] [2, 5, 9, 12] (by kernel_rfl) (by simp [hw1, hw2]; rfl) ?_ -- region 1
 refine E.seq ?_
 refine E.reg hr (by simp [hA, hB, hw3, hw4, hw5]; rfl) ?_ -- region 2
 refine E.ret ?_
 exact pureK.ret rfl rfl (by simp [one, sqV, hA, hB]) (by repeat first | exact sub_refl _ | refine sub_cons rfl ?_)
def g139 (args : List Value) (H : Heap) (n : Nat) : R := match args with
 | [.agg ⟨[.int .i64 p, .int .i64 q, .int .i64 r, .int .i64 s]⟩] => if PcIn ⟨p, q, r, s⟩ then some (iv (sqV ⟨p, q, r, s⟩), H, n) else none
 | _ => none
set_option maxRecDepth 30000 in
theorem ok139 : EntOk Tryz.prog (139, g139) := by
 intro args H n v H' n' h
 simp only [g139] at h
 split at h
 · split at h
   · rename_i hI
     injection h with h; injection h with e1 e2; injection e2 with e2 e3; subst e1 e2 e3
     exact AC.liftP rfl (Part.plain (by simp) [] (by simp [Seen]) gsz ⟨_, _, w139 _ hI⟩)
   · cases h
 · cases h
set_option maxRecDepth 30000 in
theorem w54 {H : Heap} {n : Nat} {v : Value} {l : List Int} (hV : intV H v = some l) (p : Pc) (hp : PcIn p) : AC Tryz.prog 54 [v, .agg #[iv p.sx, iv p.sy, iv p.rx, iv p.ry]] H n (iv (clsV l p)) H n := by
 refine AC.given fun hold hsc hgn => AC.tidied (B := []) (by simp) ?_
 replace hV := Ab.int_tidy hold hV
 have hr := recT_ok (P := Tryz.prog) (l := [(139, g139)]) (by simp [ok139])
 obtain ⟨oa, c, rfl, hlt, _, hcell⟩ := intV_form hV
 have hg : ∀ (X : Heap) q, g139 [.agg #[iv p.sx, iv p.sy, iv p.rx, iv p.ry]] X q = some (iv (sqV p), X, q) := fun X q => by
   simp [g139, hp]
 refine AC.pure Tryz.func54 rfl (by kernel_rfl) rfl [3, 0, 5] rfl ?_
 refine E.seq ?_
 refine E.reg hr (by simp; rfl) ?_ -- region 0
 refine E.seq (E.seq ?_)
 refine E.reg hr (by simp; rfl) ?_ -- region 1
 refine E.block ?_ -- 0
 refine E.loop ?_
 refine EL.ind (fun i : Nat => { fr := [(3, .pointer (some ⟨n, 0, none⟩)), (0, .slice oa l.length c), (5, iv i)], sz := 20, H := (n, .cells [iv p.sx, iv p.sy, iv p.rx, iv p.ry] 79) :: tidy n H, n := n + 1, marks := [], vs := [3, 0, 5] }) (fun i => l.length - i) (fun i => i ≤ l.length ∧ ∀ j (h : j < l.length), j < i → decide (sqV p < l[j]) = false) 0 (.keep rfl rfl rfl (by simp) (Sub.refl _)) ⟨Nat.zero_le _, by omega⟩ (fun _ => rfl) ?_
 rintro i ⟨hi, hgi⟩
 have hw : IntKind.i64.wrap ((i : Int) + 1) = (i : Int) + 1 := W_in (by omega) (by omega)
 refine E.seq (E.seq ?_)
 refine E.reg hr (by simp; rfl) ?_ -- region 2
 by_cases hil : i < l.length
 · obtain ⟨a, rfl, hf, hc⟩ := hcell i hil
   refine E.cond (t := true) (by simp [hil]) (fun _ => ?_) (fun h => by cases h)
   refine E.skip (E.seq ?_)
   refine E.block ?_ -- 1
   refine E.seq ?_
   have ha := cellA_lt tidy_lt hc
   have hna : (n = a.block) = False := eq_false (by omega)
   have hc2 : cellA ((n, .cells [iv p.sx, iv p.sy, iv p.rx, iv p.ry] 79) :: tidy n H) a.block (a.off + i) = some (iv l[i]) := by
     rw [cellA_eq, hget_cons, if_neg (by omega), ← cellA_eq]; exact hc
   obtain ⟨z, hz⟩ : ∃ z, decide (sqV p < l[i]) = z := ⟨_, rfl⟩
   have hra := fun o => cell_read (H := (n, .cells [iv p.sx, iv p.sy, iv p.rx, iv p.ry] 79) :: tidy n H) (a := a.block) (o := o) (L := [a.block]) (by simp)
   have han : a.block < n + 1 := by omega
   have hrn : hget (readA [n] ((n, .cells [iv p.sx, iv p.sy, iv p.rx, iv p.ry] 79) :: tidy n H)) n = some (.cells [iv p.sx, iv p.sy, iv p.rx, iv p.ry] 79) := by simp [readA]
   refine E.drawU mixed hr [] [5] [5] (by kernel_rfl) (by simp [-cellA, -flat, -readA, -decide_eq_true_eq, -decide_eq_false_iff_not, hil, hf, hra, hrn, hc2, han, hg, hz]; rfl) ?_ -- region 4
   cases z with
   | false =>
     refine E.cond (t := false) (by simp) (fun h => by cases h) (fun _ => ?_)
     refine E.skip ?_
     refine E.reg hr (by simp [hw]; rfl) ?_ -- region 3
     exact ⟨i + 1, .keep rfl rfl rfl (by simp) (Sub.refl _), ⟨hil, fun j hj hlt => by
       rcases Nat.lt_or_ge j i with h | h
       · exact hgi j hj h
       · have : j = i := by omega
         subst this; exact hz⟩, by dsimp only; omega⟩
   | true =>
     refine E.cond (t := true) (by simp) (fun _ => ?_) (fun h => by cases h)
     refine E.seq ?_
     refine E.reg hr (by simp; rfl) ?_ -- region 5
     refine E.ret ?_
     have : l.findIdx? (fun m => decide (sqV p < m)) = some i := by
       rw [List.findIdx?_eq_some_iff_getElem]
       exact ⟨hil, hz, fun j hj => by simpa using hgi j (by omega) hj⟩
     exact pureK.ret rfl rfl (by simp [clsV, idxV, this]) (Sub.cons (by simp) (Sub.refl _))
 · refine E.cond (t := false) (by simp [hil]) (fun h => by cases h) (fun _ => ?_)
   refine E.exit ?_ -- 0
   refine E.seq ?_
   refine E.reg hr (by simp; rfl) ?_ -- region 6
   refine E.ret ?_
   have : l.findIdx? (fun m => decide (sqV p < m)) = none := by
     rw [List.findIdx?_eq_none_iff]
     intro x hx
     obtain ⟨j, hj, rfl⟩ := List.getElem_of_mem hx
     exact hgi j hj (by omega)
   exact pureK.ret rfl rfl (by simp [clsV, idxV, this]) (Sub.cons (by simp) (Sub.refl _))
def g54 (args : List Value) (H : Heap) (n : Nat) : R := match args with
 | [v, .agg ⟨[.int .i64 p, .int .i64 q, .int .i64 r, .int .i64 s]⟩] => match intV H v with
   | some l => if PcIn ⟨p, q, r, s⟩ then some (iv (clsV l ⟨p, q, r, s⟩), H, n) else none
   | none => none
 | _ => none
set_option maxRecDepth 30000 in
theorem ok54 : EntOk Tryz.prog (54, g54) := by
 intro args H n v H' n' h
 simp only [g54] at h
 split at h
 · split at h
   · rename_i h1
     split at h
     · rename_i hI
       injection h with h; injection h with e1 e2; injection e2 with e2 e3; subst e1 e2 e3
       exact w54 h1 _ hI
     · cases h
   · cases h
 · cases h
def ckE (l : List Int) (p : Pc) : Int := firstV [claE l, plcE p]
def ckR (l : List Int) (p : Pc) : Int := if ckE l p = 0 then clsV l p else 0
theorem ckE_zero {l : List Int} {p : Pc} : ckE l p = 0 ↔ claE l = 0 ∧ PcIn p := by
 unfold ckE
 rw [firstV_cons_zero, firstV_cons_zero, plcE_zero]
 simp [firstV]
set_option maxRecDepth 30000 in
theorem w49 {H : Heap} {n : Nat} {v : Value} {l : List Int} (hV : intV H v = some l) (p : Pc) : AC Tryz.prog 49 [v, .agg #[iv p.sx, iv p.sy, iv p.rx, iv p.ry]] H n (.tuple #[iv (ckR l p), iv (ckE l p)]) H n := by
 refine AC.given fun hold hsc hgn => AC.tidied (B := []) (by simp) ?_
 replace hV := Ab.int_tidy hold hV
 have hr := recT_ok (P := Tryz.prog) (l := [(137, g137), (113, g113), (98, g98), (138, g138)]) (by simp [ok137, ok113, ok98, ok138])
 have hV1 : intV ((n, .inp 0 [iv p.sx, iv p.sy, iv p.rx, iv p.ry]) :: frzH (tidy n H)) v = some l := listV_mono decI_mono (Sub.cons (by rw [hget_frz, tidy_new]; rfl) (Sub.refl _)) (by rw [listV_frz decI_frz]; exact hV)
 refine AC.pure Tryz.func49 rfl (by kernel_rfl) rfl [0, 3, 6] rfl ?_
 refine E.seq ?_
 refine E.reg hr (by simp; rfl) ?_ -- region 0
 refine E.seq (E.seq ?_)
 have he : firstV [claE l, plcE p] = ckE l p := rfl
 refine E.drawU mixed hr [3, 4, 5] [1, 3, 4, 5] [1, 3, 4, 5] (by kernel_rfl) (by simp [Nat.add_assoc, g137, hV1, g113, g98, intsAt, intsOf, he]; rfl) ?_ -- region 1
 refine E.seq ?_
 refine E.reg hr (by simp; rfl) ?_ -- region 2
 have hS : Sub (tidy n H) ((n + 1, .cells [iv (claE l), iv (plcE ⟨p.sx, p.sy, p.rx, p.ry⟩)] 30) :: (n, .cells [iv p.sx, iv p.sy, iv p.rx, iv p.ry] 81) :: tidy n H) := Sub.cons (by simp) (Sub.cons (by simp) (Sub.refl _))
 by_cases hz : ckE l p = 0
 · refine E.cond (t := false) (by simp [hz]) (fun h => by cases h) (fun _ => ?_)
   refine E.skip (E.seq ?_)
   have hp := (ckE_zero.1 hz).2
   have hV2 := listV_mono decI_mono hS hV
   refine E.reg hr (by simp [g138, hV2, hp]; rfl) ?_ -- region 4
   refine E.ret ?_
   exact pureK.ret rfl rfl (by simp [ckR, hz]) hS
 · refine E.cond (t := true) (by simp [hz]) (fun _ => ?_) (fun h => by cases h)
   refine E.seq ?_
   refine E.reg hr (by simp; rfl) ?_ -- region 3
   refine E.ret ?_
   exact pureK.ret rfl rfl (by simp [ckR, hz]) hS
def g49 (args : List Value) (H : Heap) (n : Nat) : R := match args with
 | [v, .agg ⟨[.int .i64 p, .int .i64 q, .int .i64 r, .int .i64 s]⟩] => match intV H v with
   | some l => some (.tuple #[iv (ckR l ⟨p, q, r, s⟩), iv (ckE l ⟨p, q, r, s⟩)], H, n)
   | none => none
 | _ => none
set_option maxRecDepth 30000 in
theorem ok49 : EntOk Tryz.prog (49, g49) := by
 intro args H n v H' n' h
 simp only [g49] at h
 split at h
 · split at h
   · rename_i h1
     injection h with h; injection h with e1 e2; injection e2 with e2 e3; subst e1 e2 e3
     exact w49 h1 ⟨_, _, _, _⟩
   · cases h
 · cases h
end Go.Proofs.YtdmepnhmcppkkaaGreatDoor

namespace Go.Proofs.YtdmepnhmcppkkaaGreatDoor
open Go Go.Ab Go.Proofs
theorem af_powV : afL powV = true := by kernel_rfl
theorem af_stillV : afL stillV = true := by kernel_rfl
open Classical in
noncomputable def g18 (args : List Value) (H : Heap) (n : Nat) : R := if args = [] ∧ hget H 2 = some (.inp 0 powV) ∧ hget H 0 = some (.inp 0 stillV) then some (.bool true, H, n) else none
theorem ok18 : EntOk Tryz.prog (18, g18) := by
 intro args H n v H' n' h
 simp only [g18] at h
 split at h
 · rename_i hc
   obtain ⟨rfl, h1, h0⟩ := hc
   injection h with h; injection h with e1 e2; injection e2 with e2 e3; subst e1 e2 e3
   refine AC.liftP rfl (Part.plain rfl [(2, .inp 0 powV), (0, .inp 0 stillV)] ?_ gsz ⟨_, _, st0H ▸ awakeAC⟩)
   intro x hx
   rw [gsz]
   simp at hx
   rcases hx with rfl | rfl
   · exact ⟨by simp, h1, rfl, scL_af _ _ af_powV⟩
   · exact ⟨by simp, h0, rfl, scL_af _ _ af_stillV⟩
 · cases h
end Go.Proofs.YtdmepnhmcppkkaaGreatDoor
