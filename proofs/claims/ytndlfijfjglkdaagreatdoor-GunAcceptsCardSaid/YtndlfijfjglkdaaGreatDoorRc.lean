/-
Contracts and plain reckonings behind the law GunAccepts, part 3 of 6 (each under the conditions in its statement).
-/
import Derived.Maps.RangeRun
import Derived.Laws.FloatBits
import Derived.Test.YtndlfijfjglkdaaGreatDoorRb
import Derived.Test.YtndlfijfjglkdaaGreatDoorAf
namespace Go.Ab
open Go
theorem Step.framed {P : Program} {p : Nat → Prop} {φ φ' : Vl} {n n' : Nat} {w w' : World} {H H0 H1 H2 : Heap} {fr : Fr} {a : Act} (hB : Base P p φ n (hget H) w fr a) (hsub : ∀ k b, hget H0 k = some b → hget H k = some b)
   (h2 : ∀ k b, hget H2 k = some b → hget H1 k = some b ∨ (hget H k = some b ∧ hget H0 k = none)) (hd : SM (Nx p n n') (hget H1) ∧ Step P φ n (hget H0) w φ' n' (hget H1) w') : SM (Nx p n n') (hget H2) ∧ Step P φ n (hget H) w φ' n' (hget H2) w' := by
 obtain ⟨hsm, hst⟩ := hd
 have hagr : Agr p φ φ' := fun k hk => hst.only k (.inl (hB.lt k hk))
 have hloc : ∀ k b, hget H k = some b → φ'.loc k = φ.loc k := fun k b hk => (hagr k (hB.sm k b hk).1).1
 have hkeep : ∀ k b, hget H k = some b → hget H0 k = none → w'.heap[φ.loc k]? = w.heap[φ.loc k]? := fun k b hk hn => hst.frm.keep _ (hB.rel.lt hk) fun j x hj ho => hB.rel.apart j x k b (hsub j x hj) hk (fun e => by subst e; rw [hn] at hj; cases hj) ho
 refine ⟨fun k b hk => ?_, hst.le, hst.only, ⟨fun k b hk => ?_, fun k b k' b' g1 g2 hne ho => ?_, hst.rel.glob⟩, fun k b hk ho => ?_, fun k b hk ho => ?_, ⟨hst.frm.os, hst.frm.tape, hst.frm.output, hst.frm.size, fun b hb hx => hst.frm.keep b hb fun k x hk ho => hx k x (hsub k x hk) ho⟩⟩
 · rcases h2 k b hk with h | ⟨h, _⟩
   · exact hsm k b h
   · exact ⟨.inl (hB.sm k b h).1, scB_mono (fun _ h => .inl h) _ (hB.sm k b h).2⟩
 · rcases h2 k b hk with h | ⟨h, hn⟩
   · exact hst.rel.blk k b h
   · rw [hloc k b h, hkeep k b h hn]
     exact (hB.rel.blk k b h).congr hagr (hB.sm k b h).1 (hB.sm k b h).2
 · rcases h2 k b g1 with h | ⟨h, hn⟩ <;> rcases h2 k' b' g2 with h' | ⟨h', hn'⟩
   · exact hst.rel.apart k b k' b' h h' hne ho
   · rw [hloc k' b' h']
     rcases hst.new k b h ho with g | ⟨k0, b0, e1, e2, e3⟩
     · have := hB.rel.lt h'
       omega
     · rw [← e3]
       exact hB.rel.apart k0 b0 k' b' (hsub _ _ e1) h' (fun e => by subst e; rw [hn'] at e1; cases e1) e2
   · rw [hloc k b h]
     cases hb : b'.own with
     | true =>
       rcases hst.new k' b' h' hb with g | ⟨k0, b0, e1, e2, e3⟩
       · have := hB.rel.lt h
         omega
       · rw [← e3]
         exact hB.rel.apart k b k0 b0 h (hsub _ _ e1) (fun e => by subst e; rw [hn] at e1; cases e1) ho
     | false =>
       have e1 := hst.inp k' b' h' hb
       rw [hloc k' b' (hsub _ _ e1)]
       exact hB.rel.apart k b k' b' h (hsub _ _ e1) hne ho
   · rw [hloc k b h, hloc k' b' h']
     exact hB.rel.apart k b k' b' h h' hne ho
 · rcases h2 k b hk with h | ⟨h, _⟩
   · rcases hst.new k b h ho with g | ⟨k0, b0, e1, e2, e3⟩
     · exact .inl g
     · exact .inr ⟨k0, b0, hsub _ _ e1, e2, e3⟩
   · exact .inr ⟨k, b, h, ho, (hloc k b h).symm⟩
 · rcases h2 k b hk with h | ⟨h, _⟩
   · exact hsub _ _ (hst.inp k b h ho)
   · exact h
theorem AT.frame {P : Program} {ro : Option Nat} {c : Code} {st st' : St} {e : Ex} {H H2 : Heap} (h : AT P ro c st e st') (hsub : ∀ k b, hget st.H k = some b → hget H k = some b)
   (h2 : ∀ k b, hget H2 k = some b → hget st'.H k = some b ∨ (hget H k = some b ∧ hget st.H k = none)) : AT P ro c { st with H := H } e { st' with H := H2 } := by
 intro p φ a w hS hl
 have hS0 : SRel P p φ st a w := ⟨⟨hS.base.rel.sub hsub, hS.base.lt, hS.base.gl, hS.base.gn, fun k b hk => hS.base.sm k b (hsub k b hk), hS.base.ar, hS.base.sf⟩, hS.size, hS.defs, hS.marks⟩
 refine wpIn_mono (h p φ a w hS0 hl) fun e2 a' w' hh => ?_
 obtain ⟨he, φ', hS', hs'⟩ := hh
 obtain ⟨hsm, hst⟩ := Step.framed hS.base hsub h2 ⟨hS'.base.sm, hs'⟩
 exact ⟨he, φ', ⟨⟨hst.rel, hS'.base.lt, hS'.base.gl, hS'.base.gn, hsm, hS'.base.ar, hS'.base.sf⟩, hS'.size, hS'.defs, hS'.marks⟩, hst⟩
theorem AT.frameR {P : Program} {ro : Option Nat} {c : Code} {st st' : St} {e : Ex} {Z : Heap} (h : AT P ro c st e st') (hz : ∀ k b, hget Z k = some b → hget st.H k = none ∨ ∃ b', hget st'.H k = some b') : AT P ro c { st with H := st.H ++ Z } e { st' with H := st'.H ++ Z } := by
 have happ : ∀ (A : Heap) k, hget (A ++ Z) k = match hget A k with
   | some b => some b
   | none => hget Z k := fun A k => by
   induction A with
   | nil => rfl
   | cons x A ih =>
     obtain ⟨j, y⟩ := x
     rw [List.cons_append, hget_cons, hget_cons]
     split
     · rfl
     · exact ih
 refine h.frame (fun k b hk => by rw [happ, hk]) fun k b hk => ?_
 rw [happ] at hk
 split at hk
 · rename_i b' hb; injection hk with hk; subst hk; exact .inl hb
 · rename_i hn
   rcases hz k b hk with h1 | ⟨b', h1⟩
   · exact .inr ⟨by rw [happ, h1]; exact hk, h1⟩
   · rw [hn] at h1; cases h1
theorem Leads.renM {P : Program} {n0 : Nat} {s s2 : St} (ρ : Nat → Nat) (hlow : ∀ k, k < n0 → ρ k = k) (hle : n0 ≤ s2.n) (hz : s2.sz = s.sz) (hm : s.marks = [] ∧ s2.marks = [])
   (hf : ∀ t v, lk s2.fr t = some v → (lk s.fr t = some v ∧ sc (· < n0) v) ∨ (lk s.fr t = some (Ab.ren ρ v) ∧ sc (· < s2.n) v))
   (hH : ∀ k b, hget s2.H k = some b → (k < n0 ∧ scB (· < n0) b ∧ hget s.H k = some b) ∨ (k < s2.n ∧ (n0 ≤ k → n0 ≤ ρ k) ∧ hget s.H (ρ k) = some (renB ρ b) ∧ scB (· < s2.n) b ∧ carried b ∧ (b.own = false → ρ k = k ∧ renB ρ b = b)))
   (hinj : ∀ j b k c, hget s2.H j = some b → hget s2.H k = some c → ρ j = ρ k → j = k) : Leads P n0 s s2 := by
 intro p φ M w0 hg hp a w φ1 hS hs
 let φ2 : Vl := ⟨fun k => if n0 ≤ k ∧ k < s2.n then φ1.loc (ρ k) else φ.loc k, fun k => if n0 ≤ k ∧ k < s2.n then φ1.cap (ρ k) else φ.cap k⟩
 have hl2 : ∀ k, k < n0 → φ2.loc k = φ.loc k ∧ φ2.cap k = φ.cap k := fun k hk => by simp only [φ2]; rw [if_neg (by omega), if_neg (by omega)]; exact ⟨rfl, rfl⟩
 have hmid : ∀ k, n0 ≤ k → k < s2.n → φ2.loc k = φ1.loc (ρ k) ∧ φ2.cap k = φ1.cap (ρ k) := fun k h1 h2 => by simp only [φ2]; rw [if_pos ⟨h1, h2⟩, if_pos ⟨h1, h2⟩]; exact ⟨rfl, rfl⟩
 have hrn : Rn (Nx p n0 s2.n) ρ φ1 φ2 := fun k hk => by
   rcases hk with hk | hk
   · have hk0 := hp k hk
     rw [(hl2 k hk0).1, (hl2 k hk0).2, hlow k hk0, (hs.only k (.inl hk0)).1, (hs.only k (.inl hk0)).2]
     exact ⟨rfl, rfl⟩
   · exact hmid k hk.1 hk.2
 have hnx : ∀ k, Nx p n0 s.n (ρ k) ∧ k < s2.n → Nx p n0 s2.n k := fun k hk => by
   by_cases h0 : k < n0
   · have := hk.1
     rw [hlow k h0] at this
     rcases this with h1 | h1
     · exact .inl h1
     · omega
   · exact .inr ⟨by omega, hk.2⟩
 have hpl : ∀ k, Nx p n0 s.n k ∧ k < n0 → p k := fun k hk => by
   rcases hk.1 with h1 | h1
   · exact h1
   · omega
 have hagr : Agr p φ1 φ2 := fun k hk => by
   have hk0 := hp k hk
   rw [(hl2 k hk0).1, (hl2 k hk0).2, (hs.only k (.inl hk0)).1, (hs.only k (.inl hk0)).2]
   exact ⟨rfl, rfl⟩
 have hone : ∀ k b, hget s2.H k = some b → Nx p n0 s2.n k ∧ scB (Nx p n0 s2.n) b ∧ (∃ b', hget s.H (ρ k) = some b' ∧ b'.own = b.own) ∧ φ2.loc k = φ1.loc (ρ k) ∧ BRel P φ2 k b w.heap[φ1.loc (ρ k)]? := fun k b hk => by
   rcases hH k b hk with ⟨h1, h2, h3⟩ | ⟨h1, h2, h3, h4, h5, h6⟩
   · have h4 := hS.base.sm k b h3
     have hpk := hpl k ⟨h4.1, h1⟩
     have hsb := scB_mono hpl _ (scB_and b h4.2 h2)
     have e : ρ k = k := hlow k h1
     rw [e]
     exact ⟨.inl hpk, scB_mono (fun _ h => .inl h) _ hsb, ⟨b, h3, rfl⟩, (hagr k hpk).1, (hS.base.rel.blk k b h3).congr hagr hpk hsb⟩
   · have hn' : Nx p n0 s2.n k := hnx k ⟨(hS.base.sm _ _ h3).1, h1⟩
     have hsc := scB_mono hnx _ (scB_ren b h5 (hS.base.sm _ _ h3).2 h4)
     exact ⟨hn', hsc, ⟨_, h3, renB_own _ _⟩, (hrn k hn').1, BRel.ren hrn hn' h5 hsc (hS.base.rel.blk _ _ h3)⟩
 have hlt : ∀ k, Nx p n0 s2.n k → k < s2.n := fun k hk => Nx.lt hp hle hk
 have hrinj := hinj
 have hrel : HRel P φ2 (hget s2.H) w := by
   refine ⟨fun k b hk => ?_, fun k b k' b' h1 h2 hne ho => ?_, fun g hg' => ?_⟩
   · obtain ⟨_, _, _, h4, h5⟩ := hone k b hk
     rw [h4]; exact h5
   · obtain ⟨_, _, ⟨c, c1, c2⟩, c3, _⟩ := hone k b h1
     obtain ⟨_, _, ⟨d, d1, _⟩, d3, _⟩ := hone k' b' h2
     rw [c3, d3]
     exact hS.base.rel.apart _ _ _ _ c1 d1 (fun e => hne (hrinj k b k' b' h1 h2 e)) (c2.trans ho)
   · have := hp g (hg g hg')
     rw [(hl2 g this).1, ← (hs.only g (.inl this)).1]
     exact hS.base.rel.glob g hg'
 have hfr : ∀ t v, lk s2.fr t = some v → ∃ u, lk s.fr t = some u ∧ den φ1 u = den φ2 v ∧ sc (Nx p n0 s2.n) v := fun t v hv => by
   rcases hf t v hv with ⟨h1, h2⟩ | ⟨h1, h2⟩
   · have hsf := hS.base.sf t _ h1
     have hsp : sc p v := sc_mono hpl v (sc_and v hsf h2)
     exact ⟨v, h1, (den_congr hagr v hsp).symm, sc_mono (fun _ h => .inl h) v hsp⟩
   · have hsf := hS.base.sf t _ h1
     have hsv : sc (Nx p n0 s2.n) v := sc_mono hnx v (sc_ren v hsf h2)
     exact ⟨_, h1, den_ren hrn v hsv, hsv⟩
 refine ⟨φ2, ⟨⟨hrel, hlt, fun g hg' => .inl (hg g hg'), ?_, fun k b hk => ⟨(hone k b hk).1, (hone k b hk).2.1⟩, fun t v hv => ?_, fun t v hv => ?_⟩, ?_, ?_, ?_⟩, hle, fun k hk => ?_, hrel, fun k b hk ho => ?_, fun k b hk ho => ?_, hs.frm⟩
 · refine Nat.le_of_not_lt fun hc => ?_
   have := hp _ (hg _ hc)
   omega
 · obtain ⟨u, h1, h2, _⟩ := hfr t v hv
   rw [hS.base.ar t _ h1, h2]
 · exact (hfr t v hv).choose_spec.2.2
 · rw [hz]; exact hS.size
 · rw [hm.2, hS.defs, hm.1]; rfl
 · rw [hm.2]; simp
 · rcases hk with hk | hk
   · exact hl2 k hk
   · simp only [φ2]; rw [if_neg (by omega), if_neg (by omega)]; exact ⟨rfl, rfl⟩
 · obtain ⟨_, _, ⟨c, c1, c2⟩, c3, _⟩ := hone k b hk
   rw [c3]
   exact hs.new _ _ c1 (c2.trans ho)
 · rcases hH k b hk with ⟨_, _, h3⟩ | ⟨_, _, h3, _, _, h6⟩
   · exact hs.inp k b h3 ho
   · obtain ⟨e1, e2⟩ := h6 ho
     rw [e1, e2] at h3
     exact hs.inp k b h3 ho
end Go.Ab

namespace Go.Ab
open Go
end Go.Ab

namespace Go.Ab
open Go
def cellB (o : Nat) : Blk → Option Value
 | .cells cs _ => cs[o]?
 | .ext cs _ _ => cs[o]?
 | .row cs _ => cs[o]?
 | .inp o' cs => if o' ≤ o then cs[o - o']? else none
 | _ => none
theorem cellA_eq (H : Heap) (k o : Nat) : cellA H k o = (hget H k).bind (cellB o) := by
 unfold cellA
 cases hget H k with
 | none => rfl
 | some b => cases b <;> rfl
theorem cellA_cons {H : Heap} {j k o : Nat} {b : Blk} : cellA ((j, b) :: H) k o = if j = k then cellB o b else cellA H k o := by
 rw [cellA_eq, hget_cons]
 by_cases h : j = k
 · rw [if_pos h, if_pos h]; rfl
 · rw [if_neg h, if_neg h, cellA_eq]
def cellsB (o n : Nat) : Blk → Option (List Value)
 | .cells cs _ => if o + n ≤ cs.length then some ((cs.drop o).take n) else none
 | .ext cs _ _ => if o + n ≤ cs.length then some ((cs.drop o).take n) else none
 | .row cs _ => if o + n ≤ cs.length then some ((cs.drop o).take n) else none
 | .inp o' cs => if o' ≤ o ∧ o - o' + n ≤ cs.length then some ((cs.drop (o - o')).take n) else none
 | _ => none
theorem cellsA_eq (H : Heap) (k o n : Nat) : cellsA H k o n = (hget H k).bind (cellsB o n) := by
 unfold cellsA
 cases hget H k with
 | none => rfl
 | some b => cases b <;> rfl
theorem cellsA_cons {H : Heap} {j k o n : Nat} {b : Blk} : cellsA ((j, b) :: H) k o n = if j = k then cellsB o n b else cellsA H k o n := by
 rw [cellsA_eq, hget_cons]
 by_cases h : j = k
 · rw [if_pos h, if_pos h]; rfl
 · rw [if_neg h, if_neg h, cellsA_eq]
theorem cellsA_cell {H : Heap} {k o n : Nat} {cs : List Value} (h : cellsA H k o n = some cs) {i : Nat} (hi : i < n) : cellA H k (o + i) = cs[i]? ∧ cs.length = n := by
 rw [cellsA_eq] at h
 rw [cellA_eq]
 cases hb : hget H k with
 | none => rw [hb] at h; cases h
 | some b =>
   rw [hb] at h
   simp only [Option.bind_some] at h ⊢
   cases b <;> simp only [cellsB, cellB] at h ⊢
   all_goals first
     | (split at h
        · rename_i hc
          injection h with h; subst h
          refine ⟨?_, by simp; omega⟩
          first
            | (rw [if_pos (by omega), List.getElem?_take, if_pos hi, List.getElem?_drop]; congr 1; omega)
            | (rw [List.getElem?_take, if_pos hi, List.getElem?_drop])
        · cases h)
     | cases h
theorem cellA_lt {H : Heap} {n k o : Nat} {v : Value} (hl : ∀ k b, hget H k = some b → k < n) (h : cellA H k o = some v) : k < n := by
 rw [cellA_eq] at h
 cases hb : hget H k with
 | none => rw [hb] at h; cases h
 | some b => exact hl k b hb
def Sub (H H' : Heap) : Prop := ∀ k b, hget H k = some b → hget H' k = some b
theorem Sub.refl (H : Heap) : Sub H H := fun _ _ h => h
theorem Sub.cons {H H' : Heap} {j : Nat} {b : Blk} (hj : hget H j = none) (h : Sub H H') : Sub H ((j, b) :: H') := fun k c hk => by
 rw [hget_cons, if_neg]
 · exact h k c hk
 · intro e; subst e; rw [hj] at hk; cases hk
theorem Sub.app {H H' A : Heap} (hA : ∀ x ∈ A, hget H x.1 = none) (h : Sub H H') : Sub H (A ++ H') := by
 induction A with
 | nil => exact h
 | cons x A ih => exact Sub.cons (hA x (List.mem_cons_self ..)) (ih fun y hy => hA y (List.mem_cons_of_mem _ hy))
theorem Sub.trans {H H1 H2 : Heap} (h1 : Sub H H1) (h2 : Sub H1 H2) : Sub H H2 := fun k b h => h2 k b (h1 k b h)
theorem Sub.cell {H H' : Heap} (h : Sub H H') {k o : Nat} {v : Value} (hc : cellA H k o = some v) : cellA H' k o = some v := by
 rw [cellA_eq] at hc ⊢
 cases hb : hget H k with
 | none => rw [hb] at hc; cases hc
 | some b => rw [hb] at hc; rw [h k b hb]; exact hc
theorem Sub.cells {H H' : Heap} (h : Sub H H') {k o n : Nat} {v : List Value} (hc : cellsA H k o n = some v) : cellsA H' k o n = some v := by
 rw [cellsA_eq] at hc ⊢
 cases hb : hget H k with
 | none => rw [hb] at hc; cases hc
 | some b => rw [hb] at hc; rw [h k b hb]; exact hc
theorem no_new {H : Heap} {n : Nat} (hl : ∀ k b, hget H k = some b → k < n) : hget H n = none ∧ ∀ c, hget H (n + c) = none := by
 have go : ∀ c, hget H (n + c) = none := fun c => by
   cases hb : hget H (n + c) with
   | none => rfl
   | some b => have := hl _ _ hb; omega
 exact ⟨go 0, go⟩
def plainB2 : Blk → Bool
 | .cells _ _ | .ext _ _ _ | .inp _ _ | .row _ _ | .tab _ => true
 | _ => false
def plainH : Heap → Bool
 | [] => true
 | (_, b) :: H => plainB2 b && plainH H
def tidyL (H : Heap) (n : Nat) : List Nat → Heap
 | [] => []
 | k :: ks => match hget H k with
   | some b => if k < n ∧ plainB2 b = true then (k, b) :: tidyL H n ks else tidyL H n ks
   | none => tidyL H n ks
def tidy (n : Nat) (H : Heap) : Heap := tidyL H n (H.map (·.1))
theorem hget_tidyL {H : Heap} {n : Nat} : ∀ (ks : List Nat) (k : Nat) (b : Blk), hget (tidyL H n ks) k = some b ↔ k ∈ ks ∧ hget H k = some b ∧ k < n ∧ plainB2 b = true
 | [], k, b => by simp [tidyL]
 | j :: ks, k, b => by
   have ih := hget_tidyL (H := H) (n := n) ks k b
   unfold tidyL
   cases hj : hget H j with
   | none =>
     simp only
     rw [ih]
     constructor
     · rintro ⟨h1, h2⟩; exact ⟨List.mem_cons_of_mem _ h1, h2⟩
     · rintro ⟨h1, h2, h3⟩
       rcases List.mem_cons.1 h1 with rfl | h1
       · rw [hj] at h2; cases h2
       · exact ⟨h1, h2, h3⟩
   | some c =>
     simp only
     by_cases hc : j < n ∧ plainB2 c = true
     · rw [if_pos hc, hget_cons]
       by_cases e : j = k
       · subst e
         rw [if_pos rfl]
         constructor
         · intro h; injection h with h; subst h; exact ⟨List.mem_cons_self .., hj, hc⟩
         · rintro ⟨_, h2, _⟩; rw [hj] at h2; exact h2
       · rw [if_neg e, ih]
         constructor
         · rintro ⟨h1, h2⟩; exact ⟨List.mem_cons_of_mem _ h1, h2⟩
         · rintro ⟨h1, h2⟩
           rcases List.mem_cons.1 h1 with rfl | h1
           · exact absurd rfl e
           · exact ⟨h1, h2⟩
     · rw [if_neg hc, ih]
       constructor
       · rintro ⟨h1, h2⟩; exact ⟨List.mem_cons_of_mem _ h1, h2⟩
       · rintro ⟨h1, h2, h3⟩
         rcases List.mem_cons.1 h1 with rfl | h1
         · rw [hj] at h2; injection h2 with h2; subst h2; exact absurd h3 hc
         · exact ⟨h1, h2, h3⟩
theorem hget_tidy {H : Heap} {n k : Nat} {b : Blk} : hget (tidy n H) k = some b ↔ hget H k = some b ∧ k < n ∧ plainB2 b = true := by
 rw [tidy, hget_tidyL]
 constructor
 · exact fun h => h.2
 · exact fun h => ⟨List.mem_map.2 ⟨(k, b), hget_mem _ _ _ h.1, rfl⟩, h⟩
theorem namesOk_tidyL {H : Heap} {n : Nat} : ∀ (ks : List Nat), namesOk n (tidyL H n ks) = true ∧ plainH (tidyL H n ks) = true
 | [] => ⟨rfl, rfl⟩
 | k :: ks => by
   have ih := namesOk_tidyL (H := H) (n := n) ks
   unfold tidyL
   cases hget H k with
   | none => exact ih
   | some b =>
     simp only
     split
     · rename_i hc
       refine ⟨?_, by simp [plainH, hc.2, ih.2]⟩
       simp only [namesOk]
       rw [(blt_iff _ _).2 hc.1]
       exact ih.1
     · exact ih
theorem namesOk_mono {m n : Nat} (h : n ≤ m) : ∀ H : Heap, namesOk n H = true → namesOk m H = true
 | [], _ => rfl
 | (k, b) :: H, hk => by
   simp only [namesOk] at hk ⊢
   split at hk
   · rename_i hb
     have := (blt_iff _ _).1 hb
     rw [(blt_iff _ _).2 (by omega : k < m)]
     exact namesOk_mono h H hk
   · cases hk
theorem AC.tidied {P : Program} {f : FuncId} {args : List Value} {H B : Heap} {n : Nat} {v : Value} {n' : Nat} (hB : ∀ x ∈ B, n ≤ x.1) (h : AC P f args (Ab.tidy n H) n v (B ++ Ab.tidy n H) n') : AC P f args H n v (B ++ H) n' := by
 refine AC.given fun hlt _ _ => ?_
 refine h.frame (fun k b hk => (hget_tidy.1 hk).1) fun k b hk => ?_
 have go : ∀ (B : Heap), (∀ x ∈ B, n ≤ x.1) → hget (B ++ H) k = some b → hget (B ++ Ab.tidy n H) k = some b ∨ (hget H k = some b ∧ hget (Ab.tidy n H) k = none) := by
   intro B
   induction B with
   | nil =>
     intro _ hk
     cases ht : hget (Ab.tidy n H) k with
     | none => exact .inr ⟨hk, rfl⟩
     | some c =>
       have h1 := (hget_tidy.1 ht).1
       rw [show hget H k = some b from hk] at h1
       injection h1 with h1; subst h1
       exact .inl ht
   | cons x B ih =>
     intro hB hk
     obtain ⟨j, y⟩ := x
     rw [List.cons_append, hget_cons] at hk ⊢
     by_cases e : j = k
     · rw [if_pos e] at hk ⊢; exact .inl hk
     · rw [if_neg e] at hk ⊢
       exact ih (fun x hx => hB x (List.mem_cons_of_mem _ hx)) hk
 exact go B hB hk
theorem cellsA_tidy {H : Heap} {n k o m : Nat} (hl : ∀ k b, hget H k = some b → k < n) {cs : List Value} (h : cellsA H k o m = some cs) : cellsA (tidy n H) k o m = some cs := by
 rw [cellsA_eq] at h ⊢
 cases hb : hget H k with
 | none => rw [hb] at h; cases h
 | some b =>
   rw [hb] at h
   have hp : plainB2 b = true := by
     cases b <;> first | rfl | cases h
   rw [hget_tidy.2 ⟨hb, hl k b hb, hp⟩]
   exact h
def frz : Blk → Blk
 | .cells cs _ => .inp 0 cs
 | .ext cs _ sz => .row cs sz
 | b => b
def frzH : Heap → Heap
 | [] => []
 | (k, b) :: H => (k, frz b) :: frzH H
theorem hget_frz : ∀ (H : Heap) (k : Nat), hget (frzH H) k = (hget H k).map frz
 | [], _ => rfl
 | (j, b) :: H, k => by
   rw [frzH, hget_cons, hget_cons, hget_frz H k]
   by_cases h : j = k
   · rw [if_pos h, if_pos h]; rfl
   · rw [if_neg h, if_neg h]
theorem cellsA_frz (H : Heap) (k o n : Nat) : cellsA (frzH H) k o n = cellsA H k o n := by
 rw [cellsA_eq, cellsA_eq, hget_frz]
 cases hget H k with
 | none => rfl
 | some b => cases b <;> simp [frz, cellsB]
theorem cellA_frz (H : Heap) (k o : Nat) : cellA (frzH H) k o = cellA H k o := by
 rw [cellA_eq, cellA_eq, hget_frz]
 cases hget H k with
 | none => rfl
 | some b => cases b <;> simp [frz, cellB]
theorem handA_frz : ∀ (H : Heap) (L : List Nat), (∀ x ∈ H, memN L x.1 = true) → plainH H = true → handA L [] H = frzH H
 | [], _, _, _ => rfl
 | (k, b) :: H, L, hL, hp => by
   simp only [plainH, Bool.and_eq_true] at hp
   have ih := handA_frz H L (fun x hx => hL x (List.mem_cons_of_mem _ hx)) hp.2
   have hk := hL (k, b) (List.mem_cons_self ..)
   have hp1 := hp.1
   cases b <;> first | (simp only [handA, memN, hk, ih, frzH, frz]; done) | cases hp1
theorem dnames_plain : ∀ (H : Heap), plainH H = true → dnames H = H.map (·.1)
 | [], _ => rfl
 | (k, b) :: H, hp => by
   simp only [plainH, Bool.and_eq_true] at hp
   have ih := dnames_plain H hp.2
   have hp1 := hp.1
   cases b <;> first | (simp only [dnames, ih, List.map_cons]; done) | cases hp1
theorem handA_dnames {H : Heap} (h : plainH H = true) : handA (dnames H) [] H = frzH H :=
 handA_frz H _ (fun x hx => (memN_iff _ _).2 (by rw [dnames_plain H h]; exact List.mem_map_of_mem hx)) h
theorem takeNew_frz {H : Heap} {n : Nat} (h : namesOk n H = true) : takeNew n (frzH H) = [] := by
 cases H with
 | nil => rfl
 | cons x H =>
   obtain ⟨k, b⟩ := x
   have := namesOk_mem _ _ h (k, b) (List.mem_cons_self ..)
   rw [frzH, takeNew, ble_dec]
   rw [decide_eq_false (by omega)]
def handU (P : Program) (r : Rec) (mk : List Nat) (i : Nat) (o : Oper) (fr : Fr) (st : St) : Option St :=
 match runOp P r o { st with fr := fr, H := frzH st.H } with
 | some (v, H, k) => match Nat.ble st.n k && namesOk k (takeNew st.n H) && (Nat.beq k st.n || memN mk i) with
   | true => some { st with fr := putA st.fr o.dst v, H := takeNew st.n H ++ st.H, n := k }
   | false => none
 | none => none
def doneU (P : Program) (r : Rec) (al mk late : List Nat) (n0 i : Nat) (o : Oper) (fr : Fr) (st : St) : Option St :=
 match isPure o.op with
 | true => pureS P o fr st
 | false => match isRead o.op with
   | true => match footA P fr o.op with
     | some f => readT P late n0 i o fr st f.see
     | none => none
   | false => match memN al i with
     | true => aloneT P r mk i o fr st
     | false => match footA P fr o.op with
       | some f => match f.put.isEmpty && visT late n0 i st.n f.see with
         | true => handT P r mk i o f.see fr st
         | false => none
       | none => match memN late i && plainH st.H with
         | true => handU P r mk i o fr st
         | false => none
def oneU (P : Program) (r : Rec) (ops : Array Oper) (al mk late : List Nat) (n0 i : Nat) (o : Oper) (st : St) : Option St :=
 match dstOk st.sz o.dst with
 | false => none
 | true => match wantedA ops (trim (lookTmps ops o) st.fr) o with
   | none => none
   | some false => some { st with fr := putA st.fr o.dst undefV }
   | some true => doneU P r al mk late n0 i o (trim (lookTmps ops o) st.fr) st
def opsU (P : Program) (r : Rec) (ops : Array Oper) (al mk late : List Nat) (n0 : Nat) : List Oper → Nat → St → Option St
 | [], _, st => some st
 | o :: os, i, st => match oneU P r ops al mk late n0 i o st with
   | some st' => opsU P r ops al mk late n0 os (i + 1) st'
   | none => none
def runU (P : Program) (r : Rec) (ops : Array Oper) (al mk late : List Nat) (st : St) : Option St :=
 match namesOk st.n st.H with
 | true => opsU P r ops al mk late st.n ops.toList 0 st
 | false => none
theorem opsU_ok {P : Program} {r : Rec} {ops : Array Oper} {al mk late : List Nat} {n0 : Nat} : ∀ (os : List Oper) (i : Nat) (st st' : St), opsU P r ops al mk late n0 os i st = some st' → opsT P r ops al mk late n0 os i st = some st'
 | [], _, _, _, h => h
 | o :: os, i, st, st', h => by
   simp only [opsU] at h
   split at h
   · rename_i st1 h1
     have key : oneT P r ops al mk late n0 i o st = some st1 := by
       unfold oneU at h1
       unfold oneT
       split at h1
       · cases h1
       · rename_i hd
         rw [hd]
         simp only
         split at h1
         · cases h1
         · rename_i hw; rw [hw]; exact h1
         · rename_i hw
           rw [hw]
           simp only
           unfold doneU at h1
           unfold doneT
           split at h1
           · rename_i hp; rw [hp]; exact h1
           · rename_i hp
             rw [hp]
             simp only
             split at h1
             · rename_i hrd; rw [hrd]; exact h1
             · rename_i hrd
               rw [hrd]
               simp only
               split at h1
               · rename_i hm; rw [hm]; exact h1
               · rename_i hm
                 rw [hm]
                 simp only
                 split at h1
                 · rename_i f hf; rw [hf]; exact h1
                 · rename_i hf
                   rw [hf]
                   simp only
                   split at h1
                   · rename_i hc
                     rw [Bool.and_eq_true] at hc
                     rw [hc.1]
                     simp only
                     unfold handT
                     rw [handA_dnames hc.2]
                     exact h1
                   · cases h1
     simp only [opsT, key]
     exact opsU_ok os (i + 1) st1 st' h
   · cases h
section
variable {P : Program} {n0 : Nat} {ro : Option Nat} {st st' : St} {K : Ex → St → Prop} {r : Rec} {m : Nat}
theorem E.drawU (hm : P.follows .mixedOrders = true) (hr : RecOk P r m) (al mk late : List Nat) {id : Nat} {ops : Array Oper} (hd : drawT ops (Region.before ops) al mk late = true) (h : runU P r ops al mk late st = some st') (k : K .normal st') : E P n0 ro (.region id ops true) st K := by
 refine E.drawC hm hr al mk late hd ?_ k
 unfold runU at h
 unfold runT
 split at h
 · rename_i hn; rw [hn]; exact opsU_ok _ _ _ _ h
 · cases h
end
attribute [simp] runU opsU oneU doneU handU frz frzH plainH plainB2 cellB cellsB
end Go.Ab

namespace Go.Ab
open Go
theorem Leads.keep {P : Program} {n0 : Nat} {s s2 : St} (hn : s2.n = s.n) (hz : s2.sz = s.sz) (hm : s2.marks = s.marks) (hf : ∀ x ∈ s2.fr, lk s.fr x.1 = some x.2) (hh : Sub s2.H s.H) : Leads P n0 s s2 := by
 intro p φ M w0 hg hp a w φ1 hS hs
 have hf' : ∀ t v, lk s2.fr t = some v → lk s.fr t = some v := fun t v h => hf (t, v) (lk_mem _ _ _ h)
 rw [hn]
 exact ⟨φ1, ⟨⟨hS.base.rel.sub hh, hn ▸ hS.base.lt, hS.base.gl, hn ▸ hS.base.gn, fun k b hk => hS.base.sm k b (hh k b hk), fun t v hv => hS.base.ar t v (hf' t v hv), fun t v hv => hS.base.sf t v (hf' t v hv)⟩, hz ▸ hS.size, hm ▸ hS.defs, hm ▸ hS.marks⟩, hs.sub hh⟩
def mapO {α β : Type} (f : β → Option α) : List β → Option (List α)
 | [] => some []
 | x :: xs => match f x, mapO f xs with
   | some y, some ys => some (y :: ys)
   | _, _ => none
def chunks (sz : Nat) : Nat → List Value → List (List Value)
 | 0, _ => []
 | k + 1, cs => cs.take sz :: chunks sz k (cs.drop sz)
theorem mapO_get {α β : Type} {f : β → Option α} : ∀ {xs : List β} {ys : List α}, mapO f xs = some ys → xs.length = ys.length ∧ ∀ (i : Nat) x, xs[i]? = some x → f x = ys[i]?
 | [], ys, h => by simp only [mapO, Option.some.injEq] at h; subst h; exact ⟨rfl, fun i x hx => by simp at hx⟩
 | x :: xs, ys, h => by
   simp only [mapO] at h
   split at h
   · rename_i y ys' h1 h2
     injection h with h; subst h
     obtain ⟨e1, e2⟩ := mapO_get h2
     refine ⟨by simp [e1], fun i z hz => ?_⟩
     cases i with
     | zero => simp at hz ⊢; subst hz; exact h1
     | succ i => simp at hz ⊢; exact e2 i z hz
   · cases h
theorem mapO_of {α β : Type} {f : β → Option α} : ∀ {xs : List β} {ys : List α}, xs.length = ys.length → (∀ (i : Nat) x, xs[i]? = some x → f x = ys[i]?) → mapO f xs = some ys
 | [], ys, h, _ => by cases ys with | nil => rfl | cons => simp at h
 | x :: xs, [], h, _ => by simp at h
 | x :: xs, y :: ys, h, hg => by
   have h0 := hg 0 x rfl
   have ih := mapO_of (xs := xs) (ys := ys) (by simpa using h) fun i z hz => by simpa using hg (i + 1) z (by simpa using hz)
   simp only [mapO, h0, ih, List.getElem?_cons_zero]
theorem mapO_mono {α β : Type} {f g : β → Option α} (h : ∀ x y, f x = some y → g x = some y) : ∀ {xs : List β} {ys : List α}, mapO f xs = some ys → mapO g xs = some ys
 | [], _, e => e
 | x :: xs, ys, e => by
   simp only [mapO] at e ⊢
   split at e
   · rename_i y ys' h1 h2
     rw [h x y h1, mapO_mono h h2]; exact e
   · cases e
theorem chunks_len (sz : Nat) : ∀ (k : Nat) (cs : List Value), (chunks sz k cs).length = k
 | 0, _ => rfl
 | k + 1, cs => by simp [chunks, chunks_len sz k]
theorem chunks_get (sz : Nat) : ∀ (k : Nat) (cs : List Value) (i : Nat), i < k → (chunks sz k cs)[i]? = some ((cs.drop (i * sz)).take sz)
 | 0, _, _, h => by omega
 | k + 1, cs, 0, _ => by simp [chunks]
 | k + 1, cs, i + 1, h => by
   rw [chunks, List.getElem?_cons_succ, chunks_get sz k _ i (by omega), List.drop_drop]
   congr 3
   rw [Nat.add_mul]; omega
abbrev Dec (α : Type) := Heap → List Value → Option α
def listV {α : Type} (sz : Nat) (dec : Dec α) (H : Heap) : Value → Option (List α)
 | .slice none 0 0 => some []
 | .slice (some a) len _ => if len < 2147483648 then (if len = 0 then some [] else if flat a = true then (cellsA H a.block a.off (len * sz)).bind fun cs => mapO (dec H) (chunks sz len cs) else none) else none
 | _ => none
theorem cells_part {H : Heap} {k o n sz i : Nat} {cs : List Value} (h : cellsA H k o (n * sz) = some cs) (hi : i < n) : cellsA H k (o + i * sz) sz = some ((cs.drop (i * sz)).take sz) := by
 have hm : i * sz + sz ≤ n * sz := by
   rw [← Nat.succ_mul]; exact Nat.mul_le_mul_right _ hi
 rw [cellsA_eq] at h ⊢
 cases hb : hget H k with
 | none => rw [hb] at h; cases h
 | some b =>
   rw [hb] at h
   simp only [Option.bind_some] at h ⊢
   have key : ∀ (xs : List Value) (p : Nat), p + n * sz ≤ xs.length → ((xs.drop (p + i * sz)).take sz) = ((((xs.drop p).take (n * sz)).drop (i * sz)).take sz) := fun xs p hp => by
     rw [List.drop_take, List.take_take, List.drop_drop, Nat.min_eq_left (by omega)]
   cases b <;> simp only [cellsB] at h ⊢
   all_goals first
     | (split at h
        · injection h with h; subst h
          first
            | (rw [if_pos (by omega), key _ _ (by omega)])
            | (rename_i hc
               rw [if_pos (by omega), ← key _ _ (by omega)]
               congr 3
               omega)
        · cases h)
     | cases h
theorem listV_form {α : Type} {sz : Nat} {dec : Dec α} {H : Heap} {v : Value} {l : List α} (h : listV sz dec H v = some l) :
   ∃ oa c, v = .slice oa l.length c ∧ l.length < 2147483648 ∧ (oa = none → c = 0) ∧ ∀ i (hi : i < l.length), ∃ a r, oa = some a ∧ flat a = true ∧ cellsA H a.block (a.off + i * sz) sz = some r ∧ dec H r = some l[i] := by
 unfold listV at h
 split at h
 · injection h with h; subst h
   exact ⟨none, 0, rfl, by simp, fun _ => rfl, fun i hi => by simp at hi⟩
 · rename_i a len c
   split at h
   · rename_i hlt
     split at h
     · rename_i h0
       injection h with h; subst h h0
       exact ⟨some a, c, rfl, by simp, fun e => (by cases e), fun i hi => by simp at hi⟩
     · split at h
       · rename_i hf
         obtain ⟨cs, hc, hm⟩ := Option.bind_eq_some_iff.1 h
         obtain ⟨e1, e2⟩ := mapO_get hm
         rw [chunks_len] at e1
         subst e1
         refine ⟨some a, c, rfl, hlt, fun e => (by cases e), fun i hi => ⟨a, _, rfl, hf, cells_part hc hi, ?_⟩⟩
         rw [e2 i _ (chunks_get sz _ cs i hi), List.getElem?_eq_getElem hi]
       · cases h
   · cases h
 · cases h
def DecMono {α : Type} (dec : Dec α) : Prop := ∀ H H' cs y, Sub H H' → dec H cs = some y → dec H' cs = some y
theorem listV_mono {α : Type} {sz : Nat} {dec : Dec α} (hd : DecMono dec) {H H' : Heap} (hs : Sub H H') {v : Value} {l : List α} (h : listV sz dec H v = some l) : listV sz dec H' v = some l := by
 unfold listV at h ⊢
 split at h
 · exact h
 · rename_i a len c
   split at h
   · rename_i hlt
     rw [if_pos hlt]
     split at h
     · rename_i h0; rw [if_pos h0]; exact h
     · rename_i h0
       rw [if_neg h0]
       split at h
       · rename_i hf
         obtain ⟨cs, hc, hm⟩ := Option.bind_eq_some_iff.1 h
         rw [if_pos hf, hs.cells hc]
         exact mapO_mono (fun x y => hd H H' x y hs) hm
       · cases h
   · cases h
 · cases h
def DecFrz {α : Type} (dec : Dec α) : Prop := ∀ H cs, dec (frzH H) cs = dec H cs
theorem listV_frz {α : Type} {sz : Nat} {dec : Dec α} (hd : DecFrz dec) (H : Heap) (v : Value) : listV sz dec (frzH H) v = listV sz dec H v := by
 unfold listV
 split
 · rfl
 · rw [show (dec (frzH H)) = dec H from funext (hd H)]
   simp only [cellsA_frz]
 · rfl
def DecTidy {α : Type} (dec : Dec α) : Prop := ∀ H n cs y, (∀ k b, hget H k = some b → k < n) → dec H cs = some y → dec (tidy n H) cs = some y
theorem listV_tidy {α : Type} {sz : Nat} {dec : Dec α} (hd : DecTidy dec) {H : Heap} {n : Nat} (hl : ∀ k b, hget H k = some b → k < n) {v : Value} {l : List α} (h : listV sz dec H v = some l) : listV sz dec (tidy n H) v = some l := by
 unfold listV at h ⊢
 split at h
 · exact h
 · rename_i a len c
   split at h
   · rename_i hlt
     rw [if_pos hlt]
     split at h
     · rename_i h0; rw [if_pos h0]; exact h
     · rename_i h0
       rw [if_neg h0]
       split at h
       · rename_i hf
         obtain ⟨cs, hc, hm⟩ := Option.bind_eq_some_iff.1 h
         rw [if_pos hf, cellsA_tidy hl hc]
         exact mapO_mono (fun x y => hd H n x y hl) hm
       · cases h
   · cases h
 · cases h
def decI : Dec Int := fun _ cs => match cs with
 | [.int .i64 n] => some n
 | _ => none
theorem decI_mono : DecMono decI := fun _ _ _ _ _ h => h
theorem decI_tidy : DecTidy decI := fun _ _ _ _ _ h => h
def decS : Dec ByteArray := fun _ cs => match cs with
 | [.string s] => some s
 | _ => none
theorem decS_mono : DecMono decS := fun _ _ _ _ _ h => h
theorem decS_tidy : DecTidy decS := fun _ _ _ _ _ h => h
abbrev intV (H : Heap) (v : Value) : Option (List Int) := listV 1 decI H v
abbrev strV (H : Heap) (v : Value) : Option (List ByteArray) := listV 1 decS H v
def decL {α : Type} (sz : Nat) (dec : Dec α) : Dec (List α) := fun H cs => match cs with
 | [v] => listV sz dec H v
 | _ => none
theorem decL_mono {α : Type} {sz : Nat} {dec : Dec α} (hd : DecMono dec) : DecMono (decL sz dec) := fun H H' cs y hs h => by
 unfold decL at h ⊢
 split at h
 · exact listV_mono hd hs h
 · cases h
theorem decL_tidy {α : Type} {sz : Nat} {dec : Dec α} (hd : DecTidy dec) : DecTidy (decL sz dec) := fun H n cs y hl h => by
 unfold decL at h ⊢
 split at h
 · exact listV_tidy hd hl h
 · cases h
abbrev nestV (H : Heap) (v : Value) : Option (List (List Int)) := listV 1 (decL 1 decI) H v
theorem cells_one {H : Heap} {k o : Nat} {r : List Value} (h : cellsA H k o 1 = some r) : ∃ x, r = [x] ∧ cellA H k o = some x := by
 obtain ⟨h1, h2⟩ := cellsA_cell h (i := 0) (by omega)
 obtain ⟨x, rfl⟩ : ∃ x, r = [x] := by
   match r, h2 with
   | [x], _ => exact ⟨x, rfl⟩
 exact ⟨x, rfl, by simpa using h1⟩
theorem intV_form {H : Heap} {v : Value} {l : List Int} (h : intV H v = some l) :
   ∃ oa c, v = .slice oa l.length c ∧ l.length < 2147483648 ∧ (oa = none → c = 0) ∧ ∀ i (hi : i < l.length), ∃ a, oa = some a ∧ flat a = true ∧ cellA H a.block (a.off + i) = some (.int .i64 l[i]) := by
 obtain ⟨oa, c, e1, e2, e0, e3⟩ := listV_form h
 refine ⟨oa, c, e1, e2, e0, fun i hi => ?_⟩
 obtain ⟨a, r, f1, f2, f3, f4⟩ := e3 i hi
 obtain ⟨x, rfl, hx⟩ := cells_one f3
 rw [Nat.mul_one] at hx
 unfold decI at f4
 split at f4
 · rename_i n hn
   injection hn with hn
   injection f4 with f4
   subst hn f4
   exact ⟨a, f1, f2, hx⟩
 · cases f4
theorem strV_form {H : Heap} {v : Value} {l : List ByteArray} (h : strV H v = some l) :
   ∃ oa c, v = .slice oa l.length c ∧ l.length < 2147483648 ∧ (oa = none → c = 0) ∧ ∀ i (hi : i < l.length), ∃ a, oa = some a ∧ flat a = true ∧ cellA H a.block (a.off + i) = some (.string l[i]) := by
 obtain ⟨oa, c, e1, e2, e0, e3⟩ := listV_form h
 refine ⟨oa, c, e1, e2, e0, fun i hi => ?_⟩
 obtain ⟨a, r, f1, f2, f3, f4⟩ := e3 i hi
 obtain ⟨x, rfl, hx⟩ := cells_one f3
 rw [Nat.mul_one] at hx
 unfold decS at f4
 split at f4
 · rename_i n hn
   injection hn with hn
   injection f4 with f4
   subst hn f4
   exact ⟨a, f1, f2, hx⟩
 · cases f4
theorem decL_form {α : Type} {sz : Nat} {dec : Dec α} {H : Heap} {v : Value} {l : List (List α)} (h : listV 1 (decL sz dec) H v = some l) :
   ∃ oa c, v = .slice oa l.length c ∧ l.length < 2147483648 ∧ (oa = none → c = 0) ∧ ∀ i (hi : i < l.length), ∃ a r, oa = some a ∧ flat a = true ∧ cellA H a.block (a.off + i) = some r ∧ listV sz dec H r = some l[i] := by
 obtain ⟨oa, c, e1, e2, e0, e3⟩ := listV_form h
 refine ⟨oa, c, e1, e2, e0, fun i hi => ?_⟩
 obtain ⟨a, r, f1, f2, f3, f4⟩ := e3 i hi
 obtain ⟨x, rfl, hx⟩ := cells_one f3
 rw [Nat.mul_one] at hx
 exact ⟨a, x, f1, f2, hx, f4⟩
theorem nestV_form {H : Heap} {v : Value} {l : List (List Int)} (h : nestV H v = some l) :
   ∃ oa c, v = .slice oa l.length c ∧ l.length < 2147483648 ∧ (oa = none → c = 0) ∧ ∀ i (hi : i < l.length), ∃ a r, oa = some a ∧ flat a = true ∧ cellA H a.block (a.off + i) = some r ∧ intV H r = some l[i] := decL_form h
theorem chunks_one : ∀ (cs : List Value), chunks 1 cs.length cs = cs.map fun v => [v]
 | [] => rfl
 | v :: cs => by simp [chunks, chunks_one cs]
theorem listV_mk {α : Type} {dec : Dec α} {H : Heap} {a : Addr} {c : Nat} {cs : List Value} {l : List α} (hf : flat a = true) (hc : cellsA H a.block a.off cs.length = some cs) (hl : cs.length = l.length) (hlt : l.length < 2147483648) (hd : ∀ (i : Nat) v, cs[i]? = some v → dec H [v] = l[i]?) : listV 1 dec H (.slice (some a) l.length c) = some l := by
 unfold listV
 simp only
 rw [if_pos hlt]
 split
 · rename_i h0
   rw [List.length_eq_zero_iff] at h0
   rw [h0]
 · try rw [if_pos hf]
   rw [← hl, Nat.mul_one, hc]
   simp only [Option.bind_some]
   rw [chunks_one]
   refine mapO_of (by simp [hl]) fun i x hx => ?_
   simp only [List.getElem?_map, Option.map_eq_some_iff] at hx
   obtain ⟨v, hv, rfl⟩ := hx
   exact hd i v hv
theorem dec_iv {H : Heap} {l : List Int} (i : Nat) (v : Value) (h : (l.map iv)[i]? = some v) : decI H [v] = l[i]? := by
 simp only [List.getElem?_map, Option.map_eq_some_iff] at h
 obtain ⟨n, hn, rfl⟩ := h
 rw [hn]; rfl
theorem intV_ext {H : Heap} {k c t : Nat} {l : List Int} (h : hget H k = some (.ext (l.map iv) t 1)) (hl : l.length < 2147483648) : intV H (.slice (some ⟨k, 0, some 0⟩) l.length c) = some l :=
 listV_mk (cs := l.map iv) rfl (by rw [cellsA_eq, h]; simp [List.take_of_length_le]) (by simp) hl dec_iv
theorem intV_cells {H : Heap} {k c t : Nat} {l : List Int} (h : hget H k = some (.cells (l.map iv) t)) (hl : l.length < 2147483648) : intV H (.slice (some ⟨k, 0, none⟩) l.length c) = some l :=
 listV_mk (cs := l.map iv) rfl (by rw [cellsA_eq, h]; simp [List.take_of_length_le]) (by simp) hl dec_iv
theorem Leads.back {P : Program} {n0 : Nat} {s s2 : St} {H : Heap} (hs2 : s2.H = H) (hold : ∀ k b, hget H k = some b → k < n0 ∧ scB (· < n0) b) (hkeep : Sub H s.H) (hn : s2.n = n0) (hz : s2.sz = s.sz) (hm : s.marks = [] ∧ s2.marks = []) (hf : ∀ x ∈ s2.fr, lk s.fr x.1 = some x.2 ∧ sc (· < n0) x.2) : Leads P n0 s s2 :=
 Leads.renN (A := []) (H := H) [] (by simpa using hs2) hold hkeep rfl (by simpa using hn) hz hm (fun x hx => .inl (hf x hx)) (by simp)
end Go.Ab

namespace Go.Ab
open Go
end Go.Ab

namespace Go.Ab
open Go
def RunQ (P : Program) (s : Sem Value) (Q : Value → Prop) : Prop := ∀ w : World, ∃ v d, s.run P w = .ok v { w with drawn := d } ∧ Q v
inductive OpenOp (P : Program) (fr : Fr) : Op → Sem Value → Prop
 | bin {op : BinOp} {t ty : TypeId} {x y : Operand} {u1 u2 : Value} : evO P fr x = some u1 → evO P fr y = some u2 → af u1 = true → af u2 = true → OpenOp P fr (.binOp op t x y ty) (do eqGuard op t x y u1 u2; binOp op t u1 u2)
 | conv {s d : TypeId} {x : Operand} {u : Value} : evO P fr x = some u → af u = true → OpenOp P fr (.convert s d x) (convert s d u)
theorem Step.drawn {P : Program} {φ : Vl} {n : Nat} {M : Mp} {w : World} (h : HRel P φ M w) (d : Nat) : Step P φ n M w φ n M { w with drawn := d } :=
 ⟨Nat.le_refl _, fun _ _ => ⟨rfl, rfl⟩, ⟨h.blk, h.apart, h.glob⟩, fun k b hb ho => .inr ⟨k, b, hb, ho, rfl⟩, fun _ _ hb _ => hb, ⟨rfl, rfl, rfl, Nat.le_refl _, fun _ _ _ => rfl⟩⟩
section
variable {P : Program} {p : Nat → Prop} {φ : Vl} {n : Nat} {H : Heap} {w : World} {fr : Fr} {a : Act} {o : Oper}
theorem open_run (hB : Base P p φ n (hget H) w fr a) {s : Sem Value} (ho : OpenOp P fr o.op s) {Q : Value → Prop} (hq : RunQ P s Q) : ∃ v d, (execOp a.eval o).run P w = .ok (.value v) { w with drawn := d } ∧ Q v := by
 obtain ⟨v, d, hv, hQ⟩ := hq w
 refine ⟨v, d, ?_, hQ⟩
 generalize he : o.op = op at ho
 cases ho with
 | bin h1 h2 h3 h4 =>
   have e1 := (hB.evO h1).1
   have e2 := (hB.evO h2).1
   rw [den_af φ _ h3] at e1
   rw [den_af φ _ h4] at e2
   rename_i op t ty x y u1 u2
   have key : (execOp a.eval o).run P w = ((do pure (Next.value (← (do eqGuard op t x y u1 u2; binOp op t u1 u2)))) : Sem Next).run P w := by
     simp [execOp, he, e1, e2]
   rw [key, Sem.run_bind, hv]
   rfl
 | conv h1 h3 =>
   have e1 := (hB.evO h1).1
   rw [den_af φ _ h3] at e1
   simp [execOp, he, e1, hv]
theorem not_call {P : Program} {fr : Fr} {op : Op} {s : Sem Value} (h : OpenOp P fr op s) : ∀ c, op ≠ .defer c := by
 cases h <;> intro c hc <;> cases hc
end
section
variable {P : Program} {r : Rec} {m : Nat}
theorem opsF_pre (hr : RecOk P r m) {ops : Array Oper} (ψ : Vl) (ro : Option Nat) {Q : Exit → Act → World → Prop} : ∀ (i j : Nat) (st : St) (p : Nat → Prop) (φ : Vl) (a : Act) (w : World) (st' : St),
   j + i ≤ ops.size → opsF P r ops ((ops.toList.drop j).take i) st = some st' → SRel P p φ st a w →
   (∀ φ' a' w', SRel P (Nx p st.n st'.n) φ' st' a' w' → Step P φ st.n (hget st.H) w φ' st'.n (hget st'.H) w' → wpOpsIn (fence ψ ro) 0 P ops Q ((List.range ops.size).drop (j + i)) a' w') →
   wpOpsIn (fence ψ ro) 0 P ops Q ((List.range ops.size).drop j) a w
 | 0, j, st, p, φ, a, w, st', _, h, hS, hQ => by
   rw [List.take_zero, opsF] at h
   injection h with h; subst h
   exact hQ φ a w (hS.mono (fun _ h => .inl h) (fun k hk => Nx.lt hS.base.lt (Nat.le_refl _) hk)) (Step.refl hS.base.rel)
 | i + 1, j, st, p, φ, a, w, st', hk, h, hS, hQ => by
   have hi : j < ops.size := by omega
   rw [List.drop_eq_getElem_cons (by simpa using hi), List.take_succ_cons] at h
   rw [List.drop_eq_getElem_cons (by simpa using hi), List.getElem_range, wpOpsIn_cons]
   have hget : ops[j]? = some ops[j] := Array.getElem?_eq_getElem hi
   rw [Array.getElem_toList] at h
   generalize ops[j] = o at h hget
   unfold wpOpIn
   rw [hget]
   simp only
   rw [opsF] at h
   have hadd : j + (i + 1) = j + 1 + i := by omega
   rw [hadd] at hQ
   split at h
   · rename_i st1 h1
     unfold oneF at h1
     split at h1
     · cases h1
     · rename_i hd
       split at h1
       · cases h1
       · rename_i hw
         injection h1 with h1; subst h1
         rw [wantedA_ok hS.base.ar hw]
         refine ⟨fun f _ => fence_fn _ _ f, opsF_pre hr ψ ro i (j + 1) _ p φ _ w st' (by omega) h (hS.skip hd) hQ⟩
       · rename_i hw
         rw [wantedA_ok hS.base.ar hw]
         simp only [if_true]
         split at h1
         · rename_i v H' n' hrun
           injection h1 with h1; subst h1
           refine runOp_ok hr hS.base hrun ψ ro fun φ1 w1 hd1 => ?_
           refine opsF_pre hr ψ ro i (j + 1) _ _ φ1 _ w1 st' (by omega) h (hS.put hd hd1) fun φ2 a2 w2 hS2 hst2 => ?_
           exact hQ φ2 a2 w2 (hS2.mono (fun k hk => Nx.trans hd1.2.2.le hst2.le hk) (fun k hk => Nx.lt hS.base.lt (Nat.le_trans hd1.2.2.le hst2.le) hk)) (hd1.2.2.trans hst2)
         · cases h1
   · cases h
theorem E.opn {n0 : Nat} {ro : Option Nat} {st st1 st0 : St} {K : Ex → St → Prop} (hr : RecOk P r m) (i : Nat) {id : Nat} {ops : Array Oper} {o : Oper} {s : Sem Value} {Q : Value → Prop}
   (ho : ops.toList[i]? = some o) (hpre : opsF P r ops (ops.toList.take i) st = some st1) (hg : o.guard = none) (hd : dstOk st1.sz o.dst = true) (hop : OpenOp P st1.fr o.op s) (hq : RunQ P s Q) (haf : ∀ v, Q v → af v = true)
   (hpost : ∀ v, Q v → ∃ st2, opsF P r ops (ops.toList.drop (i + 1)) { st1 with fr := putA st1.fr o.dst v } = some st2 ∧ Leads P n0 st2 st0) (k : K .normal st0) : E P n0 ro (.region id ops false) st K := by
 refine ⟨.normal, st0, fun p φ M w0 hgl hp hl a w φ1 hS hs => ?_, k⟩
 refine wpIn_region ?_
 have hi : i < ops.size := by
   have := (List.getElem?_eq_some_iff.1 ho).1
   simpa using this
 have h0 : ops[i]? = some o := by rw [← Array.getElem?_toList]; exact ho
 have := opsF_pre hr φ ro (ops := ops) (Q := Post P p φ n0 M w0 .normal st0) i 0 st _ φ1 a w st1 (by omega) (by simpa using hpre) hS fun φ2 a2 w2 hS2 hs2 => ?_
 · simpa using this
 rw [Nat.zero_add, List.drop_eq_getElem_cons (by simpa using hi), List.getElem_range, wpOpsIn_cons]
 unfold wpOpIn
 rw [h0]
 simp only
 have hw : Region.wanted o (yielded ops a2.tmps) = true := by simp [Region.wanted, hg]
 rw [hw]
 simp only [if_true]
 refine ⟨fun f _ => fence_fn _ _ f, ?_⟩
 rw [Oper.semAt_eq _ _ _ (not_call hop)]
 obtain ⟨v, d, hrun, hv⟩ := open_run hS2.base hop hq
 rw [hrun, Oper.uponIn_value]
 obtain ⟨st2, h2, hL⟩ := hpost v hv
 have hst := Step.drawn (n := st1.n) hS2.base.rel d
 have hav := haf v hv
 have hS3 := hS2.put (o := o) hd (v := v) (n' := st1.n) (H' := st1.H) ⟨hS2.base.sm.mono fun _ h => .inl h, sc_af _ _ hav, hst⟩
 rw [den_af φ2 _ hav] at hS3
 have hfin := opsF_ok hr φ ro (ops := ops) (Q := Post P p φ n0 M w0 .normal st0) (ops.size - (i + 1)) _ _ φ2 _ _ st2 (by omega) (by rw [show ops.size - (ops.size - (i + 1)) = i + 1 by omega]; exact h2) hS3 fun φ3 a3 w3 hS4 hs4 => by
   have hs' := (hs.trans hs2).trans (hst.trans hs4)
   have hS5 : SRel P (Nx p n0 st2.n) φ3 st2 a3 w3 := hS4.mono (fun k hk => ?_) (fun k hk => Nx.lt hp hs'.le hk)
   · obtain ⟨φ4, hS6, hs6⟩ := hL p φ M w0 hgl hp a3 w3 φ3 hS5 hs'
     exact ⟨rfl, φ4, hS6, hs6⟩
   · have e1 := hs.le
     have e2 := hs2.le
     have e4 : st1.n ≤ st2.n := hs4.le
     rcases hk with ((hk | hk) | hk) | hk
     · rcases hk with hk | hk
       · exact .inl hk
       · exact .inr ⟨hk.1, by omega⟩
     · exact .inr ⟨by omega, by omega⟩
     · exact .inr ⟨by have := hk.1; omega, by have := hk.2; omega⟩
     · have h1 := hk.1
       have h2 := hk.2
       dsimp only at h1 h2
       exact .inr ⟨by omega, by omega⟩
 rw [show ops.size - (ops.size - (i + 1)) = i + 1 by omega] at hfin
 exact hfin
end
def nanB (k : FloatKind) (b : Nat) : Prop := match k with
 | .f32 => 0x7f800000 < b % 2 ^ 31 ∧ b < 2 ^ 32
 | .f64 => 0x7ff0000000000000 < b % 2 ^ 63 ∧ b < 2 ^ 64
theorem cut_nan (k : FloatKind) (x y t : Nat) : nanB k ((Question.nanBits k x y).cut t) := by
 cases k
 · show _ < ((t % 2) * 2 ^ 31 + 0x7f800000 + 1 + (t / 2) % (2 ^ 23 - 1)) % 2 ^ 31 ∧ (t % 2) * 2 ^ 31 + 0x7f800000 + 1 + (t / 2) % (2 ^ 23 - 1) < _
   have := Nat.mod_lt (t / 2) (y := 2 ^ 23 - 1) (by decide)
   generalize (t / 2) % (2 ^ 23 - 1) = c at this
   constructor
   · rw [show (t % 2) * 2 ^ 31 + 0x7f800000 + 1 + c = (0x7f800000 + 1 + c) + 2 ^ 31 * (t % 2) by omega, Nat.add_mul_mod_self_left, Nat.mod_eq_of_lt (by omega)]
     omega
   · omega
 · show _ < ((t % 2) * 2 ^ 63 + 0x7ff0000000000000 + 1 + (t / 2) % (2 ^ 52 - 1)) % 2 ^ 63 ∧ (t % 2) * 2 ^ 63 + 0x7ff0000000000000 + 1 + (t / 2) % (2 ^ 52 - 1) < _
   have := Nat.mod_lt (t / 2) (y := 2 ^ 52 - 1) (by decide)
   generalize (t / 2) % (2 ^ 52 - 1) = c at this
   constructor
   · rw [show (t % 2) * 2 ^ 63 + 0x7ff0000000000000 + 1 + c = (0x7ff0000000000000 + 1 + c) + 2 ^ 63 * (t % 2) by omega, Nat.add_mul_mod_self_left, Nat.mod_eq_of_lt (by omega)]
     omega
   · omega
theorem read32 (b : Nat) : Ieee.single.read b = if b % 2 ^ 31 < 2 ^ 23 then .number (b / 2 ^ 31 % 2 == 1) (b % 2 ^ 31) (-149) else if b % 2 ^ 31 < 0x7f800000 then .number (b / 2 ^ 31 % 2 == 1) (2 ^ 23 + b % 2 ^ 31 % 2 ^ 23) (-149 + (b % 2 ^ 31 / 2 ^ 23 - 1 : Nat)) else if b % 2 ^ 31 = 0x7f800000 then .infinity (b / 2 ^ 31 % 2 == 1) else .nan (b / 2 ^ 31 % 2 == 1) (b % 2 ^ 31 - 0x7f800000) := rfl
theorem read64 (b : Nat) : Ieee.double.read b = if b % 2 ^ 63 < 2 ^ 52 then .number (b / 2 ^ 63 % 2 == 1) (b % 2 ^ 63) (-1074) else if b % 2 ^ 63 < 0x7ff0000000000000 then .number (b / 2 ^ 63 % 2 == 1) (2 ^ 52 + b % 2 ^ 63 % 2 ^ 52) (-1074 + (b % 2 ^ 63 / 2 ^ 52 - 1 : Nat)) else if b % 2 ^ 63 = 0x7ff0000000000000 then .infinity (b / 2 ^ 63 % 2 == 1) else .nan (b / 2 ^ 63 % 2 == 1) (b % 2 ^ 63 - 0x7ff0000000000000) := rfl
theorem read_nan {k : FloatKind} {b : Nat} (h : nanB k b) : ∃ s f, k.format.read b = .nan s f := by
 cases k
 · obtain ⟨h1, h2⟩ := h
   exact ⟨_, _, by rw [show FloatKind.f32.format = Ieee.single from rfl, read32, if_neg (by omega), if_neg (by omega), if_neg (by omega)]⟩
 · obtain ⟨h1, h2⟩ := h
   exact ⟨_, _, by rw [show FloatKind.f64.format = Ieee.double from rfl, read64, if_neg (by omega), if_neg (by omega), if_neg (by omega)]⟩
end Go.Ab

namespace Go.Ab
open Go Ieee
theorem cut_exact {way : Toward} {s : Bool} {n D : Nat} (hn : n ≠ 0) (hd : 2 ^ D ∣ n) : way.cut s n D = n / 2 ^ D := by
 have hlog : D ≤ n.log2 := by
   have h1 : 2 ^ D ≤ n := Nat.le_of_dvd (Nat.pos_of_ne_zero hn) hd
   have h2 := Nat.lt_log2_self (n := n)
   have h3 : 2 ^ D < 2 ^ (n.log2 + 1) := Nat.lt_of_le_of_lt h1 h2
   have := (Nat.pow_lt_pow_iff_right (by decide : 1 < 2)).1 h3
   omega
 unfold Toward.cut
 have hmin : min D (n.log2 + 2) = D := by omega
 have hr : n % 2 ^ D = 0 := Nat.mod_eq_zero_of_dvd hd
 have hp : 0 < 2 ^ D := Nat.two_pow_pos _
 simp only [hmin, Nat.one_shiftLeft, hr]
 cases way
 · have h1 : ¬ 2 ^ D < 0 := by omega
   have h2 : ¬ 2 ^ D = 0 := by omega
   simp
 · simp
 · simp
 · simp
theorem kept_lt {f : Format} {mag : Nat} {place last : Int} (hl : last = max (place + mag.log2 - f.fractionBits) f.leastPlace) (hd : 2 ^ (last - place).toNat ∣ mag * 2 ^ (place - last).toNat) : mag * 2 ^ (place - last).toNat / 2 ^ (last - place).toNat < 2 * f.binade := by
 obtain ⟨A, hA⟩ : ∃ A, (place - last).toNat = A := ⟨_, rfl⟩
 obtain ⟨D, hD⟩ : ∃ D, (last - place).toNat = D := ⟨_, rfl⟩
 rw [hA, hD] at hd ⊢
 obtain ⟨kept, hk⟩ : ∃ k, mag * 2 ^ A / 2 ^ D = k := ⟨_, rfl⟩
 have hkD : mag * 2 ^ A = kept * 2 ^ D := by rw [← hk, Nat.div_mul_cancel hd]
 have hhigh := Nat.lt_log2_self (n := mag)
 have hB : f.binade = 2 ^ f.fractionBits := rfl
 rw [hk]
 have h1 : kept * 2 ^ D < 2 ^ (mag.log2 + 1 + A) := by
   rw [← hkD, Nat.pow_add]
   exact Nat.mul_lt_mul_of_pos_right hhigh (Nat.two_pow_pos _)
 have h2 : 2 ^ (mag.log2 + 1 + A) ≤ 2 ^ (f.fractionBits + 1 + D) := Nat.pow_le_pow_right (by decide) (by omega)
 have h3 : kept * 2 ^ D < 2 * f.binade * 2 ^ D := by
   rw [hB, ← Nat.pow_succ', ← Nat.pow_add]
   exact Nat.lt_of_lt_of_le h1 h2
 exact Nat.lt_of_mul_lt_mul_right h3
theorem write_exact (f : Format) (s : Bool) {mag : Nat} {place last : Int} (hm : mag ≠ 0) (hl : last = max (place + mag.log2 - f.fractionBits) f.leastPlace) (hd : 2 ^ (last - place).toNat ∣ mag * 2 ^ (place - last).toNat)
   (hi : (last - f.leastPlace).toNat * f.binade + mag * 2 ^ (place - last).toNat / 2 ^ (last - place).toNat < f.infRung) :
   f.read (f.nearest s mag place) = .number s (mag * 2 ^ (place - last).toNat / 2 ^ (last - place).toNat) last := by
 obtain ⟨A, hA⟩ : ∃ A, (place - last).toNat = A := ⟨_, rfl⟩
 obtain ⟨D, hD⟩ : ∃ D, (last - place).toNat = D := ⟨_, rfl⟩
 rw [hA, hD] at hd hi ⊢
 have hn : mag * 2 ^ A ≠ 0 := Nat.mul_ne_zero hm (Nat.pos_iff_ne_zero.1 (Nat.two_pow_pos _))
 obtain ⟨kept, hk⟩ : ∃ k, mag * 2 ^ A / 2 ^ D = k := ⟨_, rfl⟩
 have hkD : mag * 2 ^ A = kept * 2 ^ D := by rw [← hk, Nat.div_mul_cancel hd]
 have hlow := Nat.log2_self_le hm
 have hB : f.binade = 2 ^ f.fractionBits := rfl
 have hkb : kept < 2 * f.binade := by
   have := kept_lt hl (by rw [hA, hD]; exact hd)
   rwa [hA, hD, hk] at this
 have hkl : f.leastPlace < last → f.binade ≤ kept := fun h => by
   have h1 : 2 ^ (mag.log2 + A) ≤ kept * 2 ^ D := by
     rw [← hkD, Nat.pow_add]
     exact Nat.mul_le_mul_right _ hlow
   have h2 : 2 ^ (f.fractionBits + D) ≤ 2 ^ (mag.log2 + A) := Nat.pow_le_pow_right (by decide) (by omega)
   have h3 : f.binade * 2 ^ D ≤ kept * 2 ^ D := by
     rw [hB, ← Nat.pow_add]
     exact Nat.le_trans h2 h1
   exact Nat.le_of_mul_le_mul_right h3 (Nat.two_pow_pos _)
 have hnear : f.nearest s mag place = f.word s ((last - f.leastPlace).toNat * f.binade + kept) := by
   unfold Format.nearest
   rw [if_neg hm]
   have h1 : Toward.cut Toward.even s (mag <<< (place - last).toNat) (last - place).toNat = kept := by
     rw [hA, hD, Nat.shiftLeft_eq, cut_exact hn hd, hk]
   simp only [← hl]
   rw [h1, Nat.min_eq_left]
   rw [hk] at hi
   omega
 rw [hnear, hk]
 rw [hk] at hi
 obtain ⟨q, hq⟩ : ∃ q, (last - f.leastPlace).toNat = q := ⟨_, rfl⟩
 rw [hq] at hi ⊢
 have hinf := f.infRung_lt
 have hbp : 0 < f.binade := Nat.two_pow_pos _
 obtain ⟨rung, hrung⟩ : ∃ r, q * f.binade + kept = r := ⟨_, rfl⟩
 rw [hrung] at hi ⊢
 have hsw : f.word s rung / f.signWeight % 2 = (if s then 1 else 0) ∧ f.word s rung % f.signWeight = rung := by
   unfold Format.word
   cases s
   · simp only [Bool.false_eq_true, if_false]
     rw [Nat.div_eq_of_lt (by omega), Nat.mod_eq_of_lt (a := rung) (by omega)]
     exact ⟨rfl, rfl⟩
   · simp only [if_true]
     have hp : 0 < f.signWeight := by omega
     rw [Nat.add_div_left _ hp, Nat.div_eq_of_lt (by omega), Nat.add_mod_left, Nat.mod_eq_of_lt (a := rung) (by omega)]
     exact ⟨rfl, rfl⟩
 unfold Format.read
 rw [hsw.1, hsw.2]
 have hneg : ((if s = true then 1 else 0) == 1) = s := by cases s <;> rfl
 simp only [hneg]
 by_cases h0 : last = f.leastPlace
 · have hq0 : q = 0 := by omega
   subst hq0
   have hr : rung = kept := by omega
   subst hr
   by_cases hb : rung < f.binade
   · rw [if_pos hb, h0]
   · rw [if_neg hb, if_pos hi]
     have h1 : rung / f.binade = 1 := by
       rw [show rung = f.binade * 1 + (rung - f.binade) by omega, Nat.mul_add_div hbp, Nat.div_eq_of_lt (by omega)]
     have h2 : rung % f.binade = rung - f.binade := by
       rw [Nat.mod_eq_sub_mod (by omega), Nat.mod_eq_of_lt (by omega)]
     rw [h1, h2, h0]
     congr 1 <;> omega
 · have hlt : f.leastPlace < last := by omega
   have hkl := hkl hlt
   have hqp : 0 < q := by omega
   have hr : rung = (q + 1) * f.binade + (kept - f.binade) := by rw [Nat.succ_mul]; omega
   have hnb : ¬ rung < f.binade := by
     have : 1 * f.binade ≤ q * f.binade := Nat.mul_le_mul_right _ hqp
     omega
   rw [if_neg hnb, if_pos hi]
   have h1 : rung / f.binade = q + 1 := by
     rw [hr, Nat.mul_comm, Nat.mul_add_div hbp, Nat.div_eq_of_lt (by omega)]
   have h2 : rung % f.binade = kept - f.binade := by
     rw [hr, Nat.mul_comm, Nat.mul_add_mod, Nat.mod_eq_of_lt (by omega)]
   rw [h1, h2]
   congr 1 <;> omega
theorem write_zero (f : Format) (s : Bool) (place : Int) : f.read (f.nearest s 0 place) = .number s 0 f.leastPlace := by
 have hinf := f.infRung_lt
 have hbp : 0 < f.binade := Nat.two_pow_pos _
 unfold Format.nearest
 rw [if_pos rfl]
 have hsw : f.word s 0 / f.signWeight % 2 = (if s then 1 else 0) ∧ f.word s 0 % f.signWeight = 0 := by
   unfold Format.word
   cases s
   · simp
   · have hp : 0 < f.signWeight := by omega
     simp [Nat.div_self hp]
 unfold Format.read
 rw [hsw.1, hsw.2, if_pos hbp]
 cases s <;> rfl
def mv2 (m : Nat) (e : Int) : Nat := m * 2 ^ (e + 1200).toNat
def sv2 (s : Bool) (m : Nat) (e : Int) : Int := if s then -(mv2 m e : Int) else mv2 m e
theorem write_val (f : Format) (s : Bool) {mag : Nat} {place last : Int} (hp : -1200 ≤ place) (hf : -1200 ≤ f.leastPlace) (hl : last = max (place + mag.log2 - f.fractionBits) f.leastPlace) (hd : 2 ^ (last - place).toNat ∣ mag)
   (hi : mag ≠ 0 → (last - f.leastPlace).toNat * f.binade + mag * 2 ^ (place - last).toNat / 2 ^ (last - place).toNat < f.infRung) :
   ∃ m e, f.read (f.nearest s mag place) = .number s m e ∧ f.leastPlace ≤ e ∧ mv2 m e = mv2 mag place := by
 by_cases hm : mag = 0
 · subst hm
   exact ⟨0, _, write_zero f s place, Int.le_refl _, by simp [mv2]⟩
 · refine ⟨_, _, write_exact f s hm hl (Nat.dvd_trans hd (Nat.dvd_mul_right _ _)) (hi hm), by omega, ?_⟩
   unfold mv2
   by_cases h : last ≤ place
   · have h1 : (last - place).toNat = 0 := by omega
     rw [h1, Nat.pow_zero, Nat.div_one, Nat.mul_assoc, ← Nat.pow_add]
     congr 2
     omega
   · have h1 : (place - last).toNat = 0 := by omega
     rw [h1, Nat.pow_zero, Nat.mul_one]
     rw [show (last + 1200).toNat = (last - place).toNat + (place + 1200).toNat by omega, Nat.pow_add, ← Nat.mul_assoc, Nat.div_mul_cancel hd]
theorem signed_val {s : Bool} {m : Nat} {e base : Int} (h1 : -1200 ≤ base) (h2 : base ≤ e) : signed s m (e - base).toNat * 2 ^ (base + 1200).toNat = sv2 s m e := by
 have h : m <<< (e - base).toNat * 2 ^ (base + 1200).toNat = mv2 m e := by
   unfold mv2
   rw [Nat.shiftLeft_eq, Nat.mul_assoc, ← Nat.pow_add]
   congr 2
   omega
 unfold signed sv2
 cases s
 · simp only [Bool.false_eq_true, if_false]
   rw [← h]
   push_cast
   rfl
 · simp only [if_true]
   rw [← h, Int.neg_mul]
   push_cast
   rfl
theorem compare_mul {a b c : Int} (hc : 0 < c) : compare (a * c) (b * c) = compare a b := by
 have h1 : (a * c < b * c) ↔ a < b := ⟨fun h => Int.lt_of_mul_lt_mul_right h (Int.le_of_lt hc), fun h => Int.mul_lt_mul_of_pos_right h hc⟩
 have h2 : (a * c = b * c) ↔ a = b := ⟨fun h => Int.eq_of_mul_eq_mul_right (by omega) h, fun h => by rw [h]⟩
 show compareOfLessAndEq _ _ = compareOfLessAndEq _ _
 unfold compareOfLessAndEq
 by_cases h : a < b
 · rw [if_pos h, if_pos (h1.2 h)]
 · rw [if_neg h, if_neg (fun x => h (h1.1 x))]
   by_cases h' : a = b
   · rw [if_pos h', if_pos (h2.2 h')]
   · rw [if_neg h', if_neg (fun x => h' (h2.1 x))]
theorem order_val {s t : Bool} {m n : Nat} {i j : Int} (hi : -1200 ≤ i) (hj : -1200 ≤ j) : (Datum.number s m i).order (.number t n j) = some (compare (sv2 s m i) (sv2 t n j)) := by
 show some (compare (signed s m (i - min i j).toNat) (signed t n (j - min i j).toNat)) = _
 rw [← signed_val (s := s) (m := m) (e := i) (base := min i j) (by omega) (by omega), ← signed_val (s := t) (m := n) (e := j) (base := min i j) (by omega) (by omega), compare_mul]
 exact Int.pow_pos (by decide)
end Go.Ab

namespace Go.Ab
open Go Ieee
def UV : Nat := 2 ^ 1200
theorem UV_pos : 0 < UV := by
 unfold UV
 exact Nat.two_pow_pos 1200
theorem mv2_gen {n N : Nat} {e : Int} (h : e.toNat = N) : n * 2 ^ e.toNat = n * 2 ^ N := by rw [h]
theorem mv2_nat (n : Nat) : mv2 n 0 = n * UV := by
 unfold mv2 UV
 exact mv2_gen (N := 1200) rfl
theorem two_gen {N a k : Nat} {e : Int} (h : (e + N).toNat + a = N + k) : 2 ^ a * 2 ^ (e + N).toNat = 2 ^ k * 2 ^ N := by
 rw [← Nat.pow_add, ← Nat.pow_add]
 congr 1
 omega
theorem mv2_two {a k : Nat} {e : Int} (h : (e + (1200 : Nat)).toNat + a = 1200 + k) : mv2 (2 ^ a) e = 2 ^ k * UV := by
 unfold mv2 UV
 exact two_gen (N := 1200) h
theorem write_small {f : Format} (hf : f = single ∨ f = double) (s : Bool) {mag : Nat} {place : Int} (hp : -1200 ≤ place) (hb : mag ≠ 0 → place + mag.log2 ≤ 60) (hd : mag ≠ 0 → 2 ^ (max (place + mag.log2 - f.fractionBits) f.leastPlace - place).toNat ∣ mag) :
   ∃ m e, f.read (f.nearest s mag place) = .number s m e ∧ f.leastPlace ≤ e ∧ mv2 m e = mv2 mag place := by
 have hleast : -1200 ≤ f.leastPlace ∧ (62 - (f.fractionBits : Int) - f.leastPlace).toNat ≤ 2 ^ f.exponentBits - 1 ∧ f.leastPlace ≤ 60 - f.fractionBits := by
   rcases hf with rfl | rfl <;> decide
 obtain ⟨h1, h2, h3⟩ := hleast
 by_cases hm : mag = 0
 · subst hm
   exact ⟨0, _, write_zero f s place, Int.le_refl _, by simp [mv2]⟩
 refine write_val f s hp h1 rfl (hd hm) fun _ => ?_
 have hk := kept_lt (f := f) (mag := mag) (place := place) rfl (Nat.dvd_trans (hd hm) (Nat.dvd_mul_right _ _))
 have hb := hb hm
 obtain ⟨last, hl⟩ : ∃ l, max (place + mag.log2 - f.fractionBits) f.leastPlace = l := ⟨_, rfl⟩
 rw [hl] at hk ⊢
 have hle : (last - f.leastPlace).toNat + 2 ≤ 2 ^ f.exponentBits - 1 := by
   generalize 2 ^ f.exponentBits - 1 = q at h2 ⊢
   omega
 unfold Format.infRung
 calc (last - f.leastPlace).toNat * f.binade + mag * 2 ^ (place - last).toNat / 2 ^ (last - place).toNat < (last - f.leastPlace).toNat * f.binade + 2 * f.binade := by omega
   _ = ((last - f.leastPlace).toNat + 2) * f.binade := by rw [Nat.add_mul]
   _ ≤ _ := Nat.mul_le_mul_right _ hle
theorem log2_lt {m k : Nat} (h : m < 2 ^ k) (hm : m ≠ 0) : m.log2 < k := (Nat.log2_lt hm).2 h
theorem log2_mul {m k : Nat} (hm : m ≠ 0) : (m * 2 ^ k).log2 = m.log2 + k := by
 have h1 : m * 2 ^ k ≠ 0 := Nat.mul_ne_zero hm (Nat.pos_iff_ne_zero.1 (Nat.two_pow_pos _))
 have a := Nat.log2_self_le hm
 have b := Nat.lt_log2_self (n := m)
 refine (Nat.log2_eq_iff h1).2 ⟨?_, ?_⟩
 · rw [Nat.pow_add]
   exact Nat.mul_le_mul_right _ a
 · rw [show m.log2 + k + 1 = m.log2 + 1 + k by omega, Nat.pow_add]
   exact Nat.mul_lt_mul_of_pos_right b (Nat.two_pow_pos _)
theorem pow_dvd {a b : Nat} (h : a ≤ b) (m : Nat) : 2 ^ a ∣ m * 2 ^ b := Nat.dvd_trans (Nat.pow_dvd_pow 2 h) (Nat.dvd_mul_left _ _)
theorem log2_of_mv2 {m : Nat} {e : Int} {k : Nat} (he : -1200 ≤ e) (hm : m ≠ 0) (h : mv2 m e ≤ 2 ^ k * UV) : e + m.log2 ≤ k := by
 unfold mv2 UV at h
 have h1 := Nat.log2_self_le hm
 have h2 : 2 ^ (m.log2 + (e + 1200).toNat) ≤ 2 ^ (k + 1200) := by
   rw [Nat.pow_add, Nat.pow_add]
   exact Nat.le_trans (Nat.mul_le_mul_right _ h1) h
 have := (Nat.pow_le_pow_iff_right (by decide : 1 < 2)).1 h2
 omega
def val32 (b : Nat) : Int := match single.read b with
 | .number s m e => sv2 s m e
 | _ => 0
def fin32 (b : Nat) : Bool := match single.read b with
 | .number .. => true
 | _ => false
theorem fin_form {b : Nat} (h : fin32 b = true) : ∃ s m e, single.read b = .number s m e ∧ m < 2 ^ 24 ∧ -149 ≤ e ∧ val32 b = sv2 s m e := by
 unfold fin32 at h
 unfold val32
 rw [read32] at h ⊢
 have hm := Nat.mod_lt (b % 2 ^ 31) (y := 2 ^ 23) (by decide)
 by_cases c1 : b % 2 ^ 31 < 2 ^ 23
 · rw [if_pos c1]
   exact ⟨_, _, _, rfl, by omega, by omega, rfl⟩
 rw [if_neg c1] at h ⊢
 by_cases c2 : b % 2 ^ 31 < 0x7f800000
 · rw [if_pos c2]
   exact ⟨_, _, _, rfl, by omega, by omega, rfl⟩
 rw [if_neg c2] at h
 by_cases c3 : b % 2 ^ 31 = 0x7f800000
 · rw [if_pos c3] at h
   cases h
 · rw [if_neg c3] at h
   cases h
theorem sv2_16 {s : Bool} {m k : Nat} {e l : Int} (h : mv2 k l = 16 * mv2 m e) : sv2 s k l = 16 * sv2 s m e := by
 unfold sv2
 rw [h]
 generalize mv2 m e = x
 cases s
 · simp only [Bool.false_eq_true, if_false]
   omega
 · simp only [if_true]
   omega
theorem sv2_abs {s : Bool} {m : Nat} {e : Int} : (sv2 s m e).natAbs = mv2 m e := by
 unfold sv2
 cases s <;> simp
theorem read16 : single.read 1098907648 = .number false 8388608 (-19) := by rw [read32]; decide
theorem prod16 {s : Bool} {m : Nat} {e : Int} : (Datum.number s m e).product (.number false 8388608 (-19)) = some (.number s (m * 8388608) (e + -19)) := by
 show some (Datum.number (s ^^ false) (m * 8388608) (e + -19)) = _
 rw [Bool.xor_false]
theorem prod16' {s : Bool} {m : Nat} {e : Int} : (Datum.number false 8388608 (-19)).product (.number s m e) = some (.number s (m * 8388608) (e + -19)) := by
 show some (Datum.number (false ^^ s) (8388608 * m) (-19 + e)) = _
 rw [Bool.false_xor, Nat.mul_comm, Int.add_comm]
theorem mul16_val {s : Bool} {m : Nat} {e : Int} (h2 : m < 2 ^ 24) (h3 : -149 ≤ e) (hs : mv2 m e ≤ 2 ^ 10 * UV) : ∃ k l, single.read (single.nearest s (m * 8388608) (e + -19)) = .number s k l ∧ mv2 k l = 16 * mv2 m e := by
 have h8 : (8388608 : Nat) = 2 ^ 23 := by decide
 obtain ⟨k, l, w1, w2, w3⟩ := write_small (f := single) (.inl rfl) s (mag := m * 8388608) (place := e + -19) (by omega) (fun hm => by
   have hm0 : m ≠ 0 := fun h => hm (by rw [h, Nat.zero_mul])
   rw [h8, log2_mul hm0]
   have := log2_of_mv2 (e := e) (k := 10) (by omega) hm0 hs
   push_cast
   omega) (fun hm => by
   have hm0 : m ≠ 0 := fun h => hm (by rw [h, Nat.zero_mul])
   rw [h8, log2_mul hm0]
   have := log2_lt h2 hm0
   refine pow_dvd ?_ m
   have e1 : single.fractionBits = 23 := rfl
   have e2 : single.leastPlace = -149 := rfl
   rw [e1, e2]
   push_cast
   omega)
 refine ⟨k, l, w1, ?_⟩
 rw [w3, h8]
 unfold mv2
 rw [Nat.mul_assoc, ← Nat.pow_add, show 23 + (e + -19 + 1200).toNat = 4 + (e + 1200).toNat by omega, Nat.pow_add, ← Nat.mul_assoc, Nat.mul_comm m, Nat.mul_assoc, show (2 : Nat) ^ 4 = 16 by decide]
theorem mul16 {b : Nat} (hf : fin32 b = true) (hs : (val32 b).natAbs ≤ 2 ^ 10 * UV) : ∃ r, single.mul b 1098907648 = some r ∧ single.mul 1098907648 b = some r ∧ fin32 r = true ∧ val32 r = 16 * val32 b := by
 obtain ⟨s, m, e, h1, h2, h3, h4⟩ := fin_form hf
 rw [h4, sv2_abs] at hs
 obtain ⟨k, l, w1, w2⟩ := mul16_val (s := s) h2 h3 hs
 have hw : single.write (.number s (m * 8388608) (e + -19)) = single.nearest s (m * 8388608) (e + -19) := rfl
 obtain ⟨r, hr⟩ : ∃ r, single.nearest s (m * 8388608) (e + -19) = r := ⟨_, rfl⟩
 rw [hr] at w1 hw
 refine ⟨r, ?_, ?_, ?_, ?_⟩
 · unfold Format.mul
   rw [h1, read16, prod16, Option.map_some, hw]
 · unfold Format.mul
   rw [h1, read16, prod16', Option.map_some, hw]
 · unfold fin32
   rw [w1]
 · unfold val32
   rw [w1, h1]
   exact sv2_16 w2
theorem near_val {f : Format} (hf : f = single ∨ f = double) (s : Bool) {n : Nat} (hn : n < 2 ^ 24) : ∃ m e, f.read (f.nearest s n 0) = .number s m e ∧ f.leastPlace ≤ e ∧ mv2 m e = n * UV := by
 obtain ⟨m, e, h1, h2, h3⟩ := write_small hf s (mag := n) (place := 0) (by omega) (fun hm => by have := log2_lt hn hm; omega) (fun hm => by
   have := log2_lt hn hm
   have e0 : (max (0 + (n.log2 : Int) - f.fractionBits) f.leastPlace - 0).toNat = 0 := by
     have : f.leastPlace ≤ 0 ∧ 23 ≤ f.fractionBits := by rcases hf with rfl | rfl <;> decide
     omega
   rw [e0]
   exact Nat.one_dvd _)
 exact ⟨m, e, h1, h2, by rw [h3, mv2_nat]⟩
theorem nearest_val {n : Int} (hn : n.natAbs < 2 ^ 24) : fin32 (FloatKind.f32.nearest n) = true ∧ val32 (FloatKind.f32.nearest n) = n * UV := by
 obtain ⟨m, e, h1, h2, h3⟩ := near_val (f := single) (.inl rfl) (n < 0) hn
 have hr : single.read (FloatKind.f32.nearest n) = .number (decide (n < 0)) m e := h1
 unfold fin32 val32
 rw [hr]
 refine ⟨rfl, ?_⟩
 show sv2 (decide (n < 0)) m e = _
 unfold sv2
 rw [h3]
 by_cases h : n < 0
 · rw [if_pos (by simpa using h)]
   push_cast
   rw [← Int.neg_mul]
   congr 1
   omega
 · rw [if_neg (by simpa using h)]
   push_cast
   congr 1
   omega
theorem cut_zero {s : Bool} {n D : Nat} : Toward.cut .zero s n D = n / 2 ^ D := by
 unfold Toward.cut
 simp only [Nat.one_shiftLeft, Bool.toNat_false, Nat.add_zero]
 by_cases h : D ≤ n.log2 + 2
 · rw [Nat.min_eq_left h]
 · rw [Nat.min_eq_right (by omega)]
   by_cases hn : n = 0
   · subst hn; simp
   have h1 := Nat.lt_log2_self (n := n)
   have h2 : 2 ^ (n.log2 + 1) ≤ 2 ^ (n.log2 + 2) := Nat.pow_le_pow_right (by decide) (by omega)
   have h3 : 2 ^ (n.log2 + 1) ≤ 2 ^ D := Nat.pow_le_pow_right (by decide) (by omega)
   rw [Nat.div_eq_of_lt (by omega), Nat.div_eq_of_lt (by omega)]
theorem whole_at {k N : Nat} {l : Int} (hl : -(N : Int) ≤ l) : k <<< l.toNat / 2 ^ (-l).toNat = k * 2 ^ (l + N).toNat / 2 ^ N := by
 rw [Nat.shiftLeft_eq]
 by_cases h : 0 ≤ l
 · rw [show (-l).toNat = 0 by omega, Nat.pow_zero, Nat.div_one, show (l + N).toNat = l.toNat + N by omega, Nat.pow_add, ← Nat.mul_assoc, Nat.mul_div_cancel _ (Nat.two_pow_pos _)]
 · rw [show l.toNat = 0 by omega, Nat.pow_zero, Nat.mul_one]
   obtain ⟨D, hD⟩ : ∃ D, (-l).toNat = D := ⟨_, rfl⟩
   obtain ⟨A, hA⟩ : ∃ A, (l + N).toNat = A := ⟨_, rfl⟩
   rw [hD, hA, show N = D + A by omega, Nat.pow_add, Nat.mul_div_mul_right _ _ (Nat.two_pow_pos _)]
theorem whole_mv {k : Nat} {l : Int} (hl : -1200 ≤ l) : k <<< l.toNat / 2 ^ (-l).toNat = mv2 k l / UV := by
 unfold mv2 UV
 exact whole_at (N := 1200) hl
theorem toInt_val {b : Nat} (hf : fin32 b = true) : (single.read b).toInt .zero = some ((val32 b).tdiv UV) := by
 obtain ⟨s, m, e, h1, h2, h3, h4⟩ := fin_form hf
 rw [h1, h4]
 unfold Datum.toInt
 show some (signed s (Toward.cut .zero s (m <<< e.toNat) (-e).toNat) 0) = _
 rw [cut_zero, whole_mv (by omega)]
 unfold signed sv2
 cases s
 · simp only [Bool.false_eq_true, if_false, Nat.shiftLeft_zero]
   rfl
 · simp only [if_true, Nat.shiftLeft_zero]
   rw [Int.neg_tdiv]
   rfl
end Go.Ab

namespace Go.Ab
open Go Ieee
theorem cmp_lt {a b : Int} : (some (compare a b) == some Ordering.lt) = decide (a < b) := by
 rw [show (compare a b) = compareOfLessAndEq a b from rfl]
 unfold compareOfLessAndEq
 by_cases h : a < b
 · rw [if_pos h]; simp [h]
 · rw [if_neg h]
   by_cases h' : a = b
   · rw [if_pos h']; simp [h]
   · rw [if_neg h']; simp [h]
theorem cmp_eq {a b : Int} : (some (compare a b) == some Ordering.eq) = decide (a = b) := by
 rw [show (compare a b) = compareOfLessAndEq a b from rfl]
 unfold compareOfLessAndEq
 by_cases h : a < b
 · rw [if_pos h]; simp; omega
 · rw [if_neg h]
   by_cases h' : a = b
   · rw [if_pos h']; simp [h']
   · rw [if_neg h']; simp [h']
theorem cmp_le {a b : Int} : (some (compare a b) == some Ordering.lt || some (compare a b) == some Ordering.eq) = decide (a ≤ b) := by
 rw [cmp_lt, cmp_eq]
 by_cases h : a < b
 · simp [h]; omega
 · by_cases h' : a = b
   · simp [h']
   · simp [h, h']; omega
theorem ord32 {a b : Nat} (ha : fin32 a = true) (hb : fin32 b = true) : single.order a b = some (compare (val32 a) (val32 b)) := by
 obtain ⟨s, m, e, h1, _, h3, h4⟩ := fin_form ha
 obtain ⟨t, n, j, k1, _, k3, k4⟩ := fin_form hb
 unfold Format.order
 rw [h1, k1, h4, k4, order_val (by omega) (by omega)]
theorem sub_self {b : Nat} (h : fin32 b = true) : single.sub b b = some 0 := by
 obtain ⟨s, m, e, h1, _, _, _⟩ := fin_form h
 unfold Format.sub
 rw [h1]
 have : (Datum.number s m e).sum (Datum.number s m e).opposite = some (.number false 0 e) := by
   unfold Datum.opposite Datum.sum
   simp only [Int.min_self, Int.sub_self]
   have h0 : signed s m (0 : Int).toNat + signed (!s) m (0 : Int).toNat = 0 := by
     unfold signed
     cases s
     · simp; omega
     · simp; omega
   rw [h0]
   cases s <;> rfl
 rw [this, Option.map_some]
 rfl
theorem sub_none {b : Nat} (h : fin32 b = false) : single.sub b b = none := by
 unfold fin32 at h
 unfold Format.sub
 split at h
 · cases h
 · rename_i hn
   rcases hr : single.read b with ⟨s, m, e⟩ | s | ⟨s, t⟩
   · exact absurd hr (hn _ _ _)
   · cases s <;> rfl
   · rfl
theorem quot16 {s : Bool} {m : Nat} {e : Int} : (Datum.number s m e).quotient 25 (.number false (2 ^ 23) (-19)) = some (.number s (2 * (m <<< (48 - m.log2) / 2 ^ 23) + (m <<< (48 - m.log2) % 2 ^ 23 != 0).toNat) (e - -19 - (48 - m.log2 : Nat) - 1)) := by
 have h0 : (2 ^ 23 : Nat).log2 = 23 := by rw [Nat.log2_two_pow]
 have h1 : (Datum.number s m e).quotient 25 (.number false (2 ^ 23) (-19)) = if (2 ^ 23 : Nat) = 0 then (if m = 0 then none else some (.infinity (s ^^ false))) else some (.number (s ^^ false) (2 * (m <<< (25 + (2 ^ 23 : Nat).log2 - m.log2) / 2 ^ 23) + (m <<< (25 + (2 ^ 23 : Nat).log2 - m.log2) % 2 ^ 23 != 0).toNat) (e - -19 - (25 + (2 ^ 23 : Nat).log2 - m.log2 : Nat) - 1)) := rfl
 rw [h1, if_neg (by decide), h0, show 25 + 23 = 48 from rfl, Bool.xor_false]
theorem div16 {n : Int} (hn : n.natAbs < 2 ^ 24) : ∃ r, single.div (FloatKind.f32.nearest n) 1098907648 = some r ∧ fin32 r = true ∧ 16 * val32 r = n * UV := by
 obtain ⟨f1, f2⟩ := nearest_val hn
 obtain ⟨s, m, e, h1, h2, h3, h4⟩ := fin_form f1
 obtain ⟨q, hq⟩ : ∃ q, FloatKind.f32.nearest n = q := ⟨_, rfl⟩
 rw [hq] at h1 f1 f2 h4 ⊢
 have hv : mv2 m e = n.natAbs * UV := by
   rw [← sv2_abs (s := s), ← h4, f2, Int.natAbs_mul]
   rfl
 have h8 : (8388608 : Nat) = 2 ^ 23 := by decide
 have he : m ≠ 0 → -24 < e := fun hm => by
   have h0 : n.natAbs ≠ 0 := fun h0 => by
     rw [h0, Nat.zero_mul] at hv
     unfold mv2 at hv
     rcases Nat.mul_eq_zero.1 hv with h | h
     · exact hm h
     · have := Nat.two_pow_pos (e + 1200).toNat
       omega
   have h5 : UV ≤ mv2 m e := by
     rw [hv]
     exact Nat.le_mul_of_pos_left _ (by omega)
   unfold mv2 UV at h5
   have h6 : 2 ^ 1200 < 2 ^ (24 + (e + 1200).toNat) := by
     rw [Nat.pow_add 2 24]
     exact Nat.lt_of_le_of_lt h5 (Nat.mul_lt_mul_of_pos_right h2 (Nat.two_pow_pos _))
   have := (Nat.pow_lt_pow_iff_right (by decide : 1 < 2)).1 h6
   omega
 have hlog : m.log2 ≤ 23 := by
   by_cases hm : m = 0
   · subst hm; decide
   · have := log2_lt h2 hm; omega
 obtain ⟨k, hk⟩ : ∃ k, 48 - m.log2 = k + 23 := ⟨25 - m.log2, by omega⟩
 have hmag : 2 * (m <<< (48 - m.log2) / 2 ^ 23) + (m <<< (48 - m.log2) % 2 ^ 23 != 0).toNat = m * 2 ^ (k + 1) := by
   rw [hk, Nat.shiftLeft_eq, Nat.pow_add, ← Nat.mul_assoc, Nat.mul_div_cancel _ (Nat.two_pow_pos _), Nat.mul_mod_left, Nat.pow_succ]
   simp only [bne_self_eq_false, Bool.toNat_false, Nat.add_zero]
   rw [Nat.mul_comm 2, Nat.mul_assoc]
 obtain ⟨k2, l2, w1, w2, w3⟩ := write_small (f := single) (.inl rfl) s (mag := m * 2 ^ (k + 1)) (place := e - -19 - (48 - m.log2 : Nat) - 1) (by omega) (fun hm => by
   have hm0 : m ≠ 0 := fun h => hm (by rw [h, Nat.zero_mul])
   rw [log2_mul hm0]
   have h5 := log2_of_mv2 (e := e) (k := 24) (by omega) hm0 (by rw [hv]; exact Nat.mul_le_mul_right _ (Nat.le_of_lt hn))
   push_cast
   omega) (fun hm => by
   have hm0 : m ≠ 0 := fun h => hm (by rw [h, Nat.zero_mul])
   rw [log2_mul hm0]
   refine pow_dvd ?_ m
   have e1 : single.fractionBits = 23 := rfl
   have e2 : single.leastPlace = -149 := rfl
   have := he hm0
   rw [e1, e2]
   push_cast
   omega)
 have hval : 16 * mv2 k2 l2 = mv2 m e := by
   rw [w3]
   by_cases hm0 : m = 0
   · subst hm0; simp [mv2]
   have := he hm0
   unfold mv2
   rw [Nat.mul_assoc, ← Nat.pow_add, Nat.mul_comm 16, Nat.mul_assoc, show (16 : Nat) = 2 ^ 4 by decide, ← Nat.pow_add]
   congr 2
   omega
 have hw : single.write (.number s (m * 2 ^ (k + 1)) (e - -19 - (48 - m.log2 : Nat) - 1)) = single.nearest s (m * 2 ^ (k + 1)) (e - -19 - (48 - m.log2 : Nat) - 1) := rfl
 obtain ⟨r, hr⟩ : ∃ r, single.nearest s (m * 2 ^ (k + 1)) (e - -19 - (48 - m.log2 : Nat) - 1) = r := ⟨_, rfl⟩
 rw [hr] at w1 hw
 refine ⟨r, ?_, ?_, ?_⟩
 · unfold Format.div
   rw [h1, read16, h8, show single.fractionBits + 2 = 25 from rfl, quot16, hmag, Option.map_some, hw]
 · unfold fin32
   rw [w1]
 · have h9 : val32 r = sv2 s k2 l2 := by
     unfold val32
     rw [w1]
   rw [h9, ← f2, h4]
   unfold sv2
   cases s
   · simp only [Bool.false_eq_true, if_false]
     omega
   · simp only [if_true]
     omega
def val64 (b : Nat) : Int := match double.read b with
 | .number s m e => sv2 s m e
 | _ => 0
def fin64 (b : Nat) : Bool := match double.read b with
 | .number .. => true
 | _ => false
theorem fin64_of {r : Nat} {s : Bool} {m : Nat} {e : Int} (h : double.read r = .number s m e) : fin64 r = true ∧ val64 r = sv2 s m e := by
 unfold fin64 val64
 rw [h]
 exact ⟨rfl, rfl⟩
theorem wide {b : Nat} (h : fin32 b = true) : ∃ s m e, single.read b = .number s m e ∧ fin64 (double.write (.number s m e)) = true ∧ val64 (double.write (.number s m e)) = val32 b := by
 obtain ⟨s, m, e, h1, h2, h3, h4⟩ := fin_form h
 refine ⟨s, m, e, h1, ?_⟩
 by_cases hbig : e ≤ 104
 · obtain ⟨k, l, w1, w2, w3⟩ : ∃ k l, double.read (double.nearest s m e) = .number s k l ∧ double.leastPlace ≤ l ∧ mv2 k l = mv2 m e := by
     refine write_val double s (last := max (e + m.log2 - double.fractionBits) double.leastPlace) (by omega) (by decide) rfl ?_ fun hm => ?_
     · by_cases hm : m = 0
       · subst hm; exact Nat.dvd_zero _
       have := log2_lt h2 hm
       have e0 : (max (e + (m.log2 : Int) - double.fractionBits) double.leastPlace - e).toNat = 0 := by
         have e1 : double.fractionBits = 52 := rfl
         have e2 : double.leastPlace = -1074 := rfl
         rw [e1, e2]
         push_cast
         omega
       rw [e0]
       exact Nat.one_dvd _
     · have hlog := log2_lt h2 hm
       have e1 : double.fractionBits = 52 := rfl
       have e2 : double.leastPlace = -1074 := rfl
       have e0 : (max (e + (m.log2 : Int) - double.fractionBits) double.leastPlace - e).toNat = 0 := by
         rw [e1, e2]
         push_cast
         omega
       have hk := kept_lt (f := double) (mag := m) (place := e) rfl (by rw [e0]; exact Nat.one_dvd _)
       obtain ⟨last, hl⟩ : ∃ l, max (e + (m.log2 : Int) - double.fractionBits) double.leastPlace = l := ⟨_, rfl⟩
       rw [hl] at hk ⊢
       have hle : (last - double.leastPlace).toNat + 2 ≤ 2 ^ double.exponentBits - 1 := by
         have e3 : 2 ^ double.exponentBits - 1 = 2047 := by decide
         rw [e3]
         rw [e1, e2] at hl
         rw [e2]
         push_cast at hl
         omega
       unfold Format.infRung
       calc (last - double.leastPlace).toNat * double.binade + m * 2 ^ (e - last).toNat / 2 ^ (last - e).toNat < (last - double.leastPlace).toNat * double.binade + 2 * double.binade := by omega
         _ = ((last - double.leastPlace).toNat + 2) * double.binade := by rw [Nat.add_mul]
         _ ≤ _ := Nat.mul_le_mul_right _ hle
   have hw : double.write (.number s m e) = double.nearest s m e := rfl
   rw [hw]
   obtain ⟨q1, q2⟩ := fin64_of w1
   refine ⟨q1, ?_⟩
   rw [q2, h4]
   unfold sv2
   rw [w3]
 · exfalso
   rw [read32] at h1
   by_cases c1 : b % 2 ^ 31 < 2 ^ 23
   · rw [if_pos c1] at h1
     injection h1 with a1 a2 a3
     omega
   rw [if_neg c1] at h1
   by_cases c2 : b % 2 ^ 31 < 0x7f800000
   · rw [if_pos c2] at h1
     injection h1 with a1 a2 a3
     omega
   · rw [if_neg c2] at h1
     by_cases c3 : b % 2 ^ 31 = 0x7f800000
     · rw [if_pos c3] at h1
       cases h1
     · rw [if_neg c3] at h1
       cases h1
def good32 (b : Nat) : Bool := fin32 b && decide ((val32 b).natAbs ≤ 2 ^ 10 * UV) && decide (UV ∣ (16 * val32 b).natAbs)
def six32 (b : Nat) : Int := (16 * val32 b).tdiv UV
def err32 (b : Nat) : Int := if fin32 b then (if good32 b then 0 else 3) else 1
theorem good_six {b : Nat} (h : good32 b = true) : 16 * val32 b = six32 b * UV ∧ (six32 b).natAbs ≤ 16384 := by
 unfold good32 at h
 simp only [Bool.and_eq_true, decide_eq_true_eq] at h
 obtain ⟨⟨h1, h2⟩, h3⟩ := h
 have hd : (UV : Int) ∣ 16 * val32 b := Int.natAbs_dvd_natAbs.1 (by simpa using h3)
 have h4 : six32 b * UV = 16 * val32 b := Int.tdiv_mul_cancel hd
 refine ⟨h4.symm, ?_⟩
 have h5 : (six32 b).natAbs * UV ≤ 16384 * UV := by
   have : (six32 b).natAbs * UV = 16 * (val32 b).natAbs := by
     rw [show (six32 b).natAbs * UV = (six32 b * UV).natAbs by rw [Int.natAbs_mul, Int.natAbs_natCast], h4, Int.natAbs_mul]
     rfl
   rw [this]
   have : (2 : Nat) ^ 10 = 1024 := rfl
   rw [this] at h2
   calc 16 * (val32 b).natAbs ≤ 16 * (1024 * UV) := Nat.mul_le_mul_left _ h2
     _ = 16384 * UV := by rw [← Nat.mul_assoc]
 exact Nat.le_of_mul_le_mul_right h5 UV_pos
end Go.Ab

namespace Go.Ab
open Go Ieee
section
variable {P : Program} {t : TypeId} {x y : Operand} {H : Heap} {n : Nat} {k : FloatKind} {a b r : Nat}
theorem bin_fmul (h : k.format.mul a b = some r) : binV P .mul t x y (.float k a) (.float k b) H n = some (.float k r, H, n) := by
 have : runP P (do eqGuard .mul t x y (.float k a) (.float k b); binOp .mul t (.float k a) (.float k b)) = some (.float k r) := by
   cases k
   · show runP P (match FloatKind.f32.format.mul a b with | some r => pure (Value.float .f32 r) | none => do pure (Value.float .f32 (← choose (.nanBits .f32 a b)))) = _
     rw [h]; rfl
   · show runP P (match FloatKind.f64.format.mul a b with | some r => pure (Value.float .f64 r) | none => do pure (Value.float .f64 (← choose (.nanBits .f64 a b)))) = _
     rw [h]; rfl
 simp [binV, this]
theorem bin_fsub (h : k.format.sub a b = some r) : binV P .sub t x y (.float k a) (.float k b) H n = some (.float k r, H, n) := by
 have : runP P (do eqGuard .sub t x y (.float k a) (.float k b); binOp .sub t (.float k a) (.float k b)) = some (.float k r) := by
   cases k
   · show runP P (match FloatKind.f32.format.sub a b with | some r => pure (Value.float .f32 r) | none => do pure (Value.float .f32 (← choose (.nanBits .f32 a b)))) = _
     rw [h]; rfl
   · show runP P (match FloatKind.f64.format.sub a b with | some r => pure (Value.float .f64 r) | none => do pure (Value.float .f64 (← choose (.nanBits .f64 a b)))) = _
     rw [h]; rfl
 simp [binV, this]
theorem bin_feql : binV P .eql t x y (.float k a) (.float k b) H n = some (.bool (k.format.order a b == some .eq), H, n) := by cases k <;> rfl
theorem bin_fleq : binV P .leq t x y (.float k a) (.float k b) H n = some (.bool (k.format.order a b == some .lt || k.format.order a b == some .eq), H, n) := by cases k <;> rfl
theorem sub_open (h : k.format.sub a b = none) : RunQ P (do eqGuard .sub t x y (.float k a) (.float k b); binOp .sub t (.float k a) (.float k b)) fun v => ∃ q, v = .float k q ∧ nanB k q := fun w => by
 have e : (do eqGuard .sub t x y (.float k a) (.float k b); binOp .sub t (.float k a) (.float k b) : Sem Value) = (do pure (Value.float k (← choose (.nanBits k a b)))) := by
   cases k
   · show (match FloatKind.f32.format.sub a b with | some r => pure (Value.float .f32 r) | none => do pure (Value.float .f32 (← choose (.nanBits .f32 a b)))) = _
     rw [h]
   · show (match FloatKind.f64.format.sub a b with | some r => pure (Value.float .f64 r) | none => do pure (Value.float .f64 (← choose (.nanBits .f64 a b)))) = _
     rw [h]
 rw [e]
 refine ⟨_, w.drawn + 1, ?_, _, rfl, cut_nan k a b (w.tape w.drawn (.nanBits k a b))⟩
 simp [Question.forced]
end
theorem nan_ord {k : FloatKind} {b c : Nat} (h : nanB k b) : k.format.order b c = none := by
 obtain ⟨s, f, e⟩ := read_nan h
 unfold Format.order
 rw [e]
 rfl
end Go.Ab

namespace Go.Proofs.YtndlfijfjglkdaaGreatDoor
open Go Go.Ab Go.Proofs Ieee
theorem w244 (b : Bool) (e : Int) : AC Tryz.prog 244 [.bool b, .int .i64 e] [] 10 (.int .i64 (whenV b e)) [] 10 := by
 have hr := recT_ok (P := Tryz.prog) (l := []) (by simp)
 refine AC.pure Tryz.func244 rfl (by kernel_rfl) rfl [] rfl ?_
 refine E.seq ?_
 refine E.reg hr (by simp [argsFr, Tryz.f244]; rfl) ?_
 refine E.seq ?_
 refine E.seq ?_
 refine E.reg hr (by simp; rfl) ?_
 refine E.cond (by rfl) (fun h => ?_) (fun h => ?_)
 · try simp at h
   refine E.seq ?_
   refine E.reg hr (by simp; rfl) ?_
   refine E.ret ?_
   exact pureK.ret rfl rfl (by simp [one, whenV, h]) (sub_refl _)
 · try simp at h
   refine E.skip ?_
   refine E.seq ?_
   refine E.reg hr (by simp; rfl) ?_
   refine E.ret ?_
   exact pureK.ret rfl rfl (by simp [one, whenV, h]) (sub_refl _)
theorem ok244 : EntOk Tryz.prog (244, g114) := by
 intro args H n v H' n' h
 simp only [g114] at h
 split at h
 · rename_i b e
   injection h with h; injection h with e1 e2; injection e2 with e2 e3; subst e1 e2 e3
   exact AC.liftP rfl (Part.plain (by simp) [] (by simp [Seen]) gsz ⟨_, _, w244 b e⟩)
 · cases h
theorem w243 (l : List Int) (o c : Nat) (hl : l.length < 2 ^ 31) : AC Tryz.prog 243 [.slice (some ⟨10, o, none⟩) l.length c] [(10, .inp o (l.map iv))] 11 (iv (firstV l)) [(10, .inp o (l.map iv))] 11 := by
 have hr := recT_ok (P := Tryz.prog) (l := []) (by simp)
 refine AC.pure Tryz.func243 rfl (by kernel_rfl) rfl [5, 6, 7] rfl ?_
 refine E.seq ?_
 refine E.reg hr (by simp [argsFr, Tryz.f243]; rfl) ?_
 refine E.seq ?_
 refine E.seq ?_
 refine E.reg hr (by simp [opBuiltin, builtinA]; rfl) ?_
 refine E.block ?_
 refine E.loop ?_
 refine EL.ind (fun i : Nat => { fr := [(5, .slice (some ⟨10, o, none⟩) l.length c), (6, iv l.length), (7, iv i)], sz := 15, H := [(10, .inp o (l.map iv))], n := 11, marks := [], vs := [5, 6, 7] }) (fun i => l.length - i) (fun i => i ≤ l.length ∧ firstV (l.drop i) = firstV l) 0 (.less rfl rfl rfl (by simp) (by simp)) ⟨Nat.zero_le _, rfl⟩ (fun _ => rfl) ?_
 intro i ⟨hi, hg⟩
 refine E.seq ?_
 refine E.reg hr (by simp; rfl) ?_
 refine E.seq ?_
 refine E.cond (by rfl) (fun h => ?_) (fun h => ?_)
 · simp at h
   refine E.skip ?_
   refine E.seq ?_
   refine E.block ?_
   refine E.seq ?_
   refine E.reg hr (by simp [opIndexaddr, Tryz.underlying206, flat, h, loadA, cellA]; rfl) ?_
   refine E.seq ?_
   refine E.reg hr (by simp; rfl) ?_
   refine E.cond (by rfl) (fun h2 => ?_) (fun h2 => ?_)
   · simp at h2
     refine E.seq ?_
     refine E.reg hr (by simp; rfl) ?_
     refine E.ret ?_
     refine pureK.ret rfl rfl ?_ (sub_refl _)
     rw [List.drop_eq_getElem_cons h] at hg
     simp [one, ← hg, firstV, h2]
   · simp at h2
     refine E.skip ?_
     have hw : IntKind.i64.wrap ((i : Int) + 1) = (i : Int) + 1 := W_in (by omega) (by omega)
     refine E.reg hr (by simp [hw]; rfl) ?_
     rw [List.drop_eq_getElem_cons h] at hg
     exact ⟨i + 1, .less rfl rfl rfl (by simp) (by simp), ⟨h, by rw [← hg]; simp [firstV, h2]⟩, by dsimp only; omega⟩
 · simp at h
   refine E.exit ?_
   refine E.seq ?_
   refine E.reg hr (by simp; rfl) ?_
   refine E.ret ?_
   have : l.drop i = [] := by simp; omega
   refine pureK.ret rfl rfl ?_ (sub_refl _)
   simp [one, ← hg, this, firstV]
theorem ok243 : EntOk Tryz.prog (243, g113) := by
 intro args H n v H' n' h
 simp only [g113] at h
 split at h
 · rename_i a len c
   rw [Option.map_eq_some_iff] at h
   obtain ⟨l, h1, h⟩ := h
   injection h with e1 e2; injection e2 with e2 e3; subst e1 e2 e3
   obtain ⟨hf, hc, hlen, hlt⟩ := intsAt_ok h1
   subst hlen
   exact AC.liftP rfl (Part.one (fun s => [s]) (by intro φ φ0 s s0 h; simp [denL, h]) (by intro p s h; exact ⟨h, trivial⟩) hf hc (afL_iv l) [] (by simp [Seen]) gsz fun c => ⟨_, _, w243 l _ c hlt⟩)
 · cases h
theorem c1024 : FloatKind.f32.nearest 1024 = 1149239296 := by decide +kernel
theorem n1024 : runP Tryz.prog (Op.unary .neg (.float .f32 1149239296)) = some (.float .f32 3296722944) := by kernel_rfl
theorem v1024 : fin32 1149239296 = true ∧ val32 1149239296 = (2 ^ 10 * UV : Nat) := by
 have h : single.read 1149239296 = .number false 8388608 (-13) := by rw [read32]; decide
 unfold fin32 val32
 rw [h]
 refine ⟨rfl, ?_⟩
 show ((mv2 8388608 (-13) : Nat) : Int) = _
 rw [show (8388608 : Nat) = 2 ^ 23 from rfl, mv2_two (k := 10) (by decide)]
theorem v1024n : fin32 3296722944 = true ∧ val32 3296722944 = -((2 ^ 10 * UV : Nat) : Int) := by
 have h : single.read 3296722944 = .number true 8388608 (-13) := by rw [read32]; decide
 unfold fin32 val32
 rw [h]
 refine ⟨rfl, ?_⟩
 show -((mv2 8388608 (-13) : Nat) : Int) = _
 rw [show (8388608 : Nat) = 2 ^ 23 from rfl, mv2_two (k := 10) (by decide)]
theorem cvFI0 (b : Nat) : runP Tryz.prog (convert 98 3 (.float .f32 b)) = runP Tryz.prog (Conv.floatToInt .f32 b .i64) := by kernel_rfl
theorem cvFI {b : Nat} (h : fin32 b = true) (hr : -1000000 ≤ (val32 b).tdiv UV ∧ (val32 b).tdiv UV ≤ 1000000) : runP Tryz.prog (convert 98 3 (.float .f32 b)) = some (iv ((val32 b).tdiv UV)) := by
 rw [cvFI0]
 unfold Conv.floatToInt
 have := toInt_val h
 have e : (FloatKind.f32.decode b).toInt .zero = some ((val32 b).tdiv UV) := this
 rw [e]
 simp only
 rw [if_pos ⟨by have : IntKind.i64.min = -9223372036854775808 := by decide
                omega, by have : IntKind.i64.max = 9223372036854775807 := by decide
                          omega⟩]
 rfl
theorem h00 : (FloatKind.f32.format.order 0 0 == some Ordering.eq) = true := by decide +kernel
theorem w245 (b : Nat) : AC Tryz.prog 245 [.float .f32 b] [] 10 (.bool (fin32 b)) [] 10 := by
 have hr := recT_ok (P := Tryz.prog) (l := []) (by simp)
 refine AC.pure Tryz.func245 rfl (by kernel_rfl) rfl [] rfl ?_
 refine E.seq ?_
 refine E.reg hr (by simp; rfl) ?_
 refine E.seq ?_
 cases h : fin32 b with
 | true =>
   refine E.reg hr (by simp [bin_fsub (k := .f32) (sub_self h), bin_feql, h00]; rfl) ?_
   refine E.ret ?_
   exact pureK.ret rfl rfl (by simp) (sub_refl _)
 | false =>
   apply E.opn (Q := fun v => ∃ q, v = .float .f32 q ∧ nanB .f32 q) (st0 := { fr := [(2, .bool false)], sz := 7, H := [], n := 10, marks := [], vs := [] }) (hr := hr) (i := 2)
   case ho => rfl
   case hpre => simp [opsF_cons, opsF_nil, oneF_plain]; rfl
   case hg => rfl
   case hd => rfl
   case hop => exact .bin (by simp; rfl) (by simp; rfl) rfl rfl
   case hq => exact sub_open (k := .f32) (a := b) (b := b) (sub_none h)
   case haf =>
     rintro v ⟨q, rfl, _⟩
     rfl
   case hpost =>
     rintro v ⟨q, rfl, hq⟩
     have ho : FloatKind.f32.format.order q 0 = none := nan_ord hq
     refine ⟨_, by simp [opsF_cons, opsF_nil, oneF_plain, bin_feql, ho]; rfl, ?_⟩
     exact .keep rfl rfl rfl (by simp) (Sub.refl _)
   refine E.ret ?_
   exact pureK.ret rfl rfl (by simp) (sub_refl _)
end Go.Proofs.YtndlfijfjglkdaaGreatDoor

namespace Go.Proofs.YtndlfijfjglkdaaGreatDoor
open Go Go.Ab Go.Proofs Ieee
theorem fin_none {b : Nat} (h : fin32 b = false) : (∃ s f, single.read b = .nan s f) ∨ ∃ s, single.read b = .infinity s := by
 unfold fin32 at h
 split at h
 · cases h
 · rename_i hn
   rcases hr : single.read b with ⟨s, m, e⟩ | s | ⟨s, t⟩
   · exact absurd hr (hn _ _ _)
   · exact .inr ⟨s, rfl⟩
   · exact .inl ⟨s, t, rfl⟩
theorem r1024 : single.read 1149239296 = .number false 8388608 (-13) := by rw [read32]; decide
theorem r1024n : single.read 3296722944 = .number true 8388608 (-13) := by rw [read32]; decide
theorem le_low {b : Nat} (h : fin32 b = true) : (FloatKind.f32.format.order 3296722944 b == some Ordering.lt || FloatKind.f32.format.order 3296722944 b == some Ordering.eq) = decide (-((2 ^ 10 * UV : Nat) : Int) ≤ val32 b) := by
 have : FloatKind.f32.format.order 3296722944 b = some (compare (val32 3296722944) (val32 b)) := ord32 v1024n.1 h
 rw [this, v1024n.2, cmp_le]
theorem le_high {b : Nat} (h : fin32 b = true) : (FloatKind.f32.format.order b 1149239296 == some Ordering.lt || FloatKind.f32.format.order b 1149239296 == some Ordering.eq) = decide (val32 b ≤ ((2 ^ 10 * UV : Nat) : Int)) := by
 have : FloatKind.f32.format.order b 1149239296 = some (compare (val32 b) (val32 1149239296)) := ord32 h v1024.1
 rw [this, v1024.2, cmp_le]
theorem six_bound {b : Nat} (hs : (val32 b).natAbs ≤ 2 ^ 10 * UV) : -16384 ≤ six32 b ∧ six32 b ≤ 16384 := by
 have h1 : (six32 b).natAbs ≤ 16384 := by
   unfold six32
   rw [Int.natAbs_tdiv, Int.natAbs_mul]
   obtain ⟨U, hU⟩ : ∃ U, UV = U := ⟨_, rfl⟩
   have hp : 0 < U := by rw [← hU]; exact UV_pos
   rw [hU] at hs ⊢
   rw [show (16 : Int).natAbs = 16 from rfl, Int.natAbs_natCast]
   have h2 : 16 * (val32 b).natAbs ≤ 16384 * U := by
     have : (2 : Nat) ^ 10 = 1024 := rfl
     rw [this] at hs
     omega
   calc 16 * (val32 b).natAbs / U ≤ 16384 * U / U := Nat.div_le_div_right h2
     _ = 16384 := Nat.mul_div_cancel _ hp
 omega
theorem six_run {b : Nat} (h : fin32 b = true) (hs : (val32 b).natAbs ≤ 2 ^ 10 * UV) : ∃ r, single.mul b 1098907648 = some r ∧ single.mul 1098907648 b = some r ∧ runP Tryz.prog (convert 98 3 (.float .f32 r)) = some (iv (six32 b)) ∧ (FloatKind.f32.format.order (FloatKind.f32.nearest (six32 b)) r == some Ordering.eq) = decide (UV ∣ (16 * val32 b).natAbs) := by
 obtain ⟨r, m1, m2, m3, m4⟩ := mul16 h hs
 have hb := six_bound hs
 have e6 : (val32 r).tdiv UV = six32 b := by rw [m4]; rfl
 refine ⟨r, m1, m2, ?_, ?_⟩
 · rw [← e6]
   exact cvFI m3 (by rw [e6]; omega)
 · obtain ⟨n1, n2⟩ := nearest_val (n := six32 b) (by omega)
   have : FloatKind.f32.format.order (FloatKind.f32.nearest (six32 b)) r = some (compare (val32 (FloatKind.f32.nearest (six32 b))) (val32 r)) := ord32 n1 m3
   rw [this, n2, m4, cmp_eq]
   refine decide_eq_decide.2 ⟨fun e => ?_, fun e => ?_⟩
   · rw [← e, Int.natAbs_mul, Int.natAbs_natCast]
     exact Nat.dvd_mul_left _ _
   · have hd : (UV : Int) ∣ 16 * val32 b := Int.natAbs_dvd_natAbs.1 (by simpa using e)
     exact Int.tdiv_mul_cancel hd
theorem good_false {b : Nat} (h : ¬ (val32 b).natAbs ≤ 2 ^ 10 * UV) : good32 b = false := by
 unfold good32
 rw [decide_eq_false h]
 simp
theorem w246 (b : Nat) : AC Tryz.prog 246 [.float .f32 b, iv 1024] [] 10 (.bool (good32 b)) [] 10 := by
 have hr := recT_ok (P := Tryz.prog) (l := []) (by simp)
 refine AC.pure Tryz.func246 rfl (by kernel_rfl) rfl [] rfl ?_
 refine E.seq ?_
 refine E.reg hr (by simp; rfl) ?_
 refine E.seq ?_
 cases h : fin32 b with
 | false =>
   have hg : good32 b = false := by unfold good32; rw [h]; rfl
   rcases fin_none h with ⟨s, f, e⟩ | ⟨s, e⟩
   · have o1 : FloatKind.f32.format.order 3296722944 b = none := by
       show (single.read 3296722944).order (single.read b) = none
       rw [r1024n, e]; rfl
     refine E.reg hr (by simp [opConvert, c1024, n1024, bin_fleq, o1, yieldedA, undefV]; rfl) ?_
     refine E.ret ?_
     exact pureK.ret rfl rfl (by simp [hg]) (sub_refl _)
   · cases s with
     | true =>
       have o1 : FloatKind.f32.format.order 3296722944 b = some .gt := by
         show (single.read 3296722944).order (single.read b) = _
         rw [r1024n, e]; rfl
       refine E.reg hr (by simp [opConvert, c1024, n1024, bin_fleq, o1, yieldedA, undefV]; rfl) ?_
       refine E.ret ?_
       exact pureK.ret rfl rfl (by simp [hg]) (sub_refl _)
     | false =>
       have o1 : FloatKind.f32.format.order 3296722944 b = some .lt := by
         show (single.read 3296722944).order (single.read b) = _
         rw [r1024n, e]; rfl
       have o2 : FloatKind.f32.format.order b 1149239296 = some .gt := by
         show (single.read b).order (single.read 1149239296) = _
         rw [r1024, e]; rfl
       refine E.reg hr (by simp [opConvert, c1024, n1024, bin_fleq, o1, o2, yieldedA, undefV]; rfl) ?_
       refine E.ret ?_
       exact pureK.ret rfl rfl (by simp [hg]) (sub_refl _)
 | true =>
   have q1 := le_low h
   have q2 := le_high h
   obtain ⟨U, hU⟩ : ∃ U : Nat, 2 ^ 10 * UV = U := ⟨_, rfl⟩
   rw [hU] at q1 q2
   by_cases a1 : -(U : Int) ≤ val32 b
   case neg =>
     have hg : good32 b = false := good_false (by rw [hU]; omega)
     rw [decide_eq_false a1] at q1
     refine E.reg hr (by simp [-Bool.or_eq_false_iff, opConvert, c1024, n1024, bin_fleq, q1, yieldedA, undefV]; rfl) ?_
     refine E.ret ?_
     exact pureK.ret rfl rfl (by simp [hg]) (sub_refl _)
   rw [decide_eq_true a1] at q1
   by_cases a2 : val32 b ≤ (U : Int)
   case neg =>
     have hg : good32 b = false := good_false (by rw [hU]; omega)
     rw [decide_eq_false a2] at q2
     refine E.reg hr (by simp [-Bool.or_eq_false_iff, -Bool.or_eq_true, opConvert, c1024, n1024, bin_fleq, q1, q2, yieldedA, undefV]; rfl) ?_
     refine E.ret ?_
     exact pureK.ret rfl rfl (by simp [hg]) (sub_refl _)
   rw [decide_eq_true a2] at q2
   have hs : (val32 b).natAbs ≤ 2 ^ 10 * UV := by rw [hU]; omega
   obtain ⟨r, m1, _, m3, m4⟩ := six_run h hs
   have hg : good32 b = decide (UV ∣ (16 * val32 b).natAbs) := by
     unfold good32
     rw [h, decide_eq_true hs]
     rfl
   rw [← hg] at m4
   refine E.reg hr (by simp [-Bool.or_eq_false_iff, -Bool.or_eq_true, opConvert, c1024, n1024, bin_fleq, bin_feql, bin_fmul (k := .f32) m1, m3, m4, q1, q2, yieldedA]; rfl) ?_
   refine E.ret ?_
   exact pureK.ret rfl rfl (by simp) (sub_refl _)
end Go.Proofs.YtndlfijfjglkdaaGreatDoor

namespace Go.Proofs.YtndlfijfjglkdaaGreatDoor
open Go Go.Ab Go.Proofs Ieee
def gFl (F : Nat → Value) (args : List Value) (H : Heap) (n : Nat) : R := match args with
 | [.float .f32 b] => some (F b, H, n)
 | _ => none
theorem okFl {f : FuncId} {F : Nat → Value} (hF : ∀ b, af (F b) = true) (h : ∀ b, AC Tryz.prog f [.float .f32 b] [] 10 (F b) [] 10) : EntOk Tryz.prog (f, gFl F) := by
 intro args H n v H' n' h'
 simp only [gFl] at h'
 split at h'
 · injection h' with h'; injection h' with e1 e2; injection e2 with e2 e3; subst e1 e2 e3
   exact AC.liftP (hF _) (Part.plain (by simp) [] (by simp [Seen]) gsz ⟨_, _, h _⟩)
 · cases h'
theorem ok245 : EntOk Tryz.prog (245, gFl fun b => .bool (fin32 b)) := okFl (fun _ => rfl) w245
def g246 (args : List Value) (H : Heap) (n : Nat) : R := match args with
 | [.float .f32 b, .int .i64 m] => if m = 1024 then some (.bool (good32 b), H, n) else none
 | _ => none
theorem ok246 : EntOk Tryz.prog (246, g246) := by
 intro args H n v H' n' h'
 simp only [g246] at h'
 split at h'
 · split at h'
   · rename_i hm
     subst hm
     injection h' with h'; injection h' with e1 e2; injection e2 with e2 e3; subst e1 e2 e3
     exact AC.liftP rfl (Part.plain (by simp) [] (by simp [Seen]) gsz ⟨_, _, w246 _⟩)
   · cases h'
 · cases h'
theorem w206 (b : Nat) : AC Tryz.prog 206 [.float .f32 b] [] 10 (iv (err32 b)) [] 10 := by
 have hr := recT_ok (P := Tryz.prog) (l := [(245, gFl fun b => .bool (fin32 b)), (244, g114), (246, g246), (243, g113)]) (by simp only [List.forall_mem_cons]; exact ⟨ok245, ok244, ok246, ok243, by simp⟩)
 refine AC.pure Tryz.func206 rfl (by kernel_rfl) rfl [] rfl ?_
 refine E.seq ?_
 refine E.reg hr (by simp; rfl) ?_
 refine E.seq ?_
 refine E.reg hr (by simp [gFl, g246, g113, g114, intsAt, intsOf]; rfl) ?_
 refine E.ret ?_
 refine pureK.ret rfl rfl ?_ (by repeat first | exact sub_refl _ | refine sub_cons rfl ?_)
 unfold err32
 cases h : fin32 b <;> cases h2 : good32 b <;> simp [whenV, firstV]
theorem ok206 : EntOk Tryz.prog (206, gFl fun b => iv (err32 b)) := okFl (fun _ => rfl) w206
def sm32 (b : Nat) : Bool := fin32 b && decide ((val32 b).natAbs ≤ 2 ^ 10 * UV)
theorem sm_good {b : Nat} (h : good32 b = true) : sm32 b = true := by
 unfold good32 at h
 unfold sm32
 rw [Bool.and_eq_true] at h
 exact h.1
def gSix (args : List Value) (H : Heap) (n : Nat) : R := match args with
 | [.float .f32 b] => if sm32 b = true then some (iv (six32 b), H, n) else none
 | _ => none
theorem okSix {f : FuncId} (h : ∀ b, sm32 b = true → AC Tryz.prog f [.float .f32 b] [] 10 (iv (six32 b)) [] 10) : EntOk Tryz.prog (f, gSix) := by
 intro args H n v H' n' h'
 simp only [gSix] at h'
 split at h'
 · split at h'
   · rename_i hm
     injection h' with h'; injection h' with e1 e2; injection e2 with e2 e3; subst e1 e2 e3
     exact AC.liftP rfl (Part.plain (by simp) [] (by simp [Seen]) gsz ⟨_, _, h _ hm⟩)
   · cases h'
 · cases h'
theorem w203 (b : Nat) (h : sm32 b = true) : AC Tryz.prog 203 [.float .f32 b] [] 10 (iv (six32 b)) [] 10 := by
 unfold sm32 at h
 rw [Bool.and_eq_true, decide_eq_true_eq] at h
 obtain ⟨r, m1, m2, m3, _⟩ := six_run h.1 h.2
 have hr := recT_ok (P := Tryz.prog) (l := []) (by simp)
 refine AC.pure Tryz.func203 rfl (by kernel_rfl) rfl [] rfl ?_
 refine E.seq ?_
 refine E.reg hr (by simp; rfl) ?_
 refine E.seq ?_
 refine E.reg hr (by simp [opConvert, bin_fmul (k := .f32) m1, m3]; rfl) ?_
 refine E.ret ?_
 exact pureK.ret rfl rfl (by simp) (sub_refl _)
theorem ok203 : EntOk Tryz.prog (203, gSix) := okSix w203
end Go.Proofs.YtndlfijfjglkdaaGreatDoor

namespace Go.Proofs.YtndlfijfjglkdaaGreatDoor
open Go Go.Ab Go.Proofs Ieee
end Go.Proofs.YtndlfijfjglkdaaGreatDoor

namespace Go.Proofs.YtndlfijfjglkdaaGreatDoor
open Go Go.Ab Go.Proofs Ieee
end Go.Proofs.YtndlfijfjglkdaaGreatDoor

namespace Go.Proofs.YtndlfijfjglkdaaGreatDoor
open Go Go.Ab Go.Proofs Ieee
end Go.Proofs.YtndlfijfjglkdaaGreatDoor

namespace Go.Ab
open Go
theorem flat_n {b o : Nat} : flat ⟨b, o, none⟩ = true := rfl
theorem flat_z {b o : Nat} : flat ⟨b, o, some 0⟩ = true := rfl
section
variable {n : Nat} {H : Heap}
@[simp] theorem namesOk_tidy : namesOk n (tidy n H) = true := (namesOk_tidyL _).1
@[simp] theorem namesOk_tidy' {c : Nat} : namesOk (n + c) (tidy n H) = true := namesOk_mono (by omega) _ (namesOk_tidyL _).1
@[simp] theorem plainH_tidy : plainH (tidy n H) = true := (namesOk_tidyL _).2
@[simp] theorem takeNew_tidy : takeNew n (frzH (tidy n H)) = [] := takeNew_frz namesOk_tidy
theorem tidy_lt : ∀ k b, hget (tidy n H) k = some b → k < n := fun _ _ h => (hget_tidy.1 h).2.1
@[simp] theorem tidy_new : hget (tidy n H) n = none := (no_new tidy_lt).1
@[simp] theorem tidy_new' {c : Nat} : hget (tidy n H) (n + c) = none := (no_new tidy_lt).2 c
end
theorem nest_tidy {H : Heap} {n : Nat} (hold : ∀ k b, hget H k = some b → k < n ∧ scB (· < n) b) {v : Value} {ls : List (List Int)} (h : nestV H v = some ls) : nestV (tidy n H) v = some ls :=
 listV_tidy (decL_tidy decI_tidy) (fun k b hk => (hold k b hk).1) h
theorem int_tidy {H : Heap} {n : Nat} (hold : ∀ k b, hget H k = some b → k < n ∧ scB (· < n) b) {v : Value} {l : List Int} (h : intV H v = some l) : intV (tidy n H) v = some l :=
 listV_tidy decI_tidy (fun k b hk => (hold k b hk).1) h
@[simp] theorem sne2 {n : Nat} : (n + 1 + 1 = n) = False := eq_false (by omega)
@[simp] theorem slt2 {n : Nat} : (n < n + 1 + 1) = True := eq_true (by omega)
@[simp] theorem sle2 {n : Nat} : (n ≤ n + 1 + 1) = True := eq_true (by omega)
@[simp] theorem snm2 {n : Nat} {H : Heap} : namesOk (n + 1 + 1) (tidy n H) = true := namesOk_mono (by omega) _ (namesOk_tidyL _).1
@[simp] theorem sne3 {n : Nat} : (n + 1 + 1 + 1 = n) = False := eq_false (by omega)
@[simp] theorem slt3 {n : Nat} : (n < n + 1 + 1 + 1) = True := eq_true (by omega)
@[simp] theorem sne4 {n : Nat} : (n + 1 + 1 + 1 + 1 = n) = False := eq_false (by omega)
@[simp] theorem slt4 {n : Nat} : (n < n + 1 + 1 + 1 + 1) = True := eq_true (by omega)
@[simp] theorem sne5 {n : Nat} : (n + 1 + 1 + 1 + 1 + 1 = n) = False := eq_false (by omega)
@[simp] theorem slt5 {n : Nat} : (n < n + 1 + 1 + 1 + 1 + 1) = True := eq_true (by omega)
@[simp] theorem sne6 {n : Nat} : (n + 1 + 1 + 1 + 1 + 1 + 1 = n) = False := eq_false (by omega)
@[simp] theorem slt6 {n : Nat} : (n < n + 1 + 1 + 1 + 1 + 1 + 1) = True := eq_true (by omega)
@[simp] theorem sne7 {n : Nat} : (n + 1 + 1 + 1 + 1 + 1 + 1 + 1 = n) = False := eq_false (by omega)
@[simp] theorem slt7 {n : Nat} : (n < n + 1 + 1 + 1 + 1 + 1 + 1 + 1) = True := eq_true (by omega)
@[simp] theorem sne8 {n : Nat} : (n + 1 + 1 + 1 + 1 + 1 + 1 + 1 + 1 = n) = False := eq_false (by omega)
@[simp] theorem slt8 {n : Nat} : (n < n + 1 + 1 + 1 + 1 + 1 + 1 + 1 + 1) = True := eq_true (by omega)
@[simp] theorem sle8 {n : Nat} : (n ≤ n + 1 + 1 + 1 + 1 + 1 + 1 + 1 + 1) = True := eq_true (by omega)
@[simp] theorem sne9 {n : Nat} : (n + 1 + 1 + 1 + 1 + 1 + 1 + 1 + 1 + 1 = n) = False := eq_false (by omega)
@[simp] theorem slt9 {n : Nat} : (n < n + 1 + 1 + 1 + 1 + 1 + 1 + 1 + 1 + 1) = True := eq_true (by omega)
theorem hget_set {H : Heap} {b k : Nat} {x : Blk} : hget (hset H b x) k = if b = k then (hget H b).map fun _ => x else hget H k := by
 rw [hget_hset]
theorem Fresh.pair {n n2 : Nat} {H B H1 : Heap} {v u : Value} (h : Fresh n n2 H v B u H1) (e : Int) : Fresh n n2 H (.tuple #[v, Value.int .i64 e]) B (.tuple #[u, Value.int .i64 e]) H1 := by
 obtain ⟨ρ, h1, h2, h3⟩ := h
 exact ⟨ρ, h1, by rw [h2]; simp [ren], h3⟩
theorem namesOk_iff {k : Nat} : ∀ {H : Heap}, namesOk k H = true ↔ ∀ x ∈ H, x.1 < k
 | [] => by simp [namesOk]
 | (i, b) :: H => by
   rw [namesOk]
   by_cases h : i < k
   · rw [(blt_iff _ _).2 h]
     simp [namesOk_iff (H := H), h]
   · have : Nat.blt i k = false := by rw [← Bool.not_eq_true, blt_iff]; exact h
     rw [this]
     simp [h]
theorem hget_in : ∀ {H : Heap} {k : Nat} {b : Blk}, hget H k = some b → ∃ x ∈ H, x.1 = k
 | [], _, _, h => by cases h
 | (j, c) :: H, k, b, h => by
   rw [hget_cons] at h
   split at h
   · rename_i e; exact ⟨(j, c), List.mem_cons_self .., e⟩
   · obtain ⟨x, hx, e⟩ := hget_in h
     exact ⟨x, List.mem_cons_of_mem _ hx, e⟩
theorem namesOk_none {H : Heap} {k : Nat} (h : namesOk k H = true) : ∀ j, k ≤ j → hget H j = none := fun j hj => by
 cases e : hget H j with
 | none => rfl
 | some b =>
   obtain ⟨x, hx, e⟩ := hget_in e
   have := namesOk_iff.1 h x hx
   omega
theorem hdel_mem : ∀ {H : Heap} {k : Nat} {x : Nat × Blk}, x ∈ hdel H k → x ∈ H
 | [], _, _, h => h
 | (i, b) :: H, k, x, h => by
   rw [hdel] at h
   split at h
   · exact List.mem_cons_of_mem _ (hdel_mem h)
   · rcases List.mem_cons.1 h with rfl | h
     · exact List.mem_cons_self ..
     · exact List.mem_cons_of_mem _ (hdel_mem h)
theorem hset_mem : ∀ {H : Heap} {k : Nat} {c : Blk} {x : Nat × Blk}, x ∈ hset H k c → ∃ y ∈ H, y.1 = x.1
 | [], _, _, _, h => by cases h
 | (i, b) :: H, k, c, x, h => by
   rw [hset] at h
   split at h
   · rcases List.mem_cons.1 h with rfl | h
     · exact ⟨(i, b), List.mem_cons_self .., rfl⟩
     · first
       | exact ⟨x, List.mem_cons_of_mem _ h, rfl⟩
       | (obtain ⟨y, hy, e⟩ := hset_mem h; exact ⟨y, List.mem_cons_of_mem _ hy, e⟩)
   · rcases List.mem_cons.1 h with rfl | h
     · exact ⟨(i, b), List.mem_cons_self .., rfl⟩
     · obtain ⟨y, hy, e⟩ := hset_mem h
       exact ⟨y, List.mem_cons_of_mem _ hy, e⟩
theorem namesOk_hdel {H : Heap} {k j : Nat} (h : namesOk k H = true) : namesOk k (hdel H j) = true := namesOk_iff.2 fun x hx => namesOk_iff.1 h x (hdel_mem hx)
theorem namesOk_hset {H : Heap} {k j : Nat} {c : Blk} (h : namesOk k H = true) : namesOk k (hset H j c) = true := namesOk_iff.2 fun x hx => by
 obtain ⟨y, hy, e⟩ := hset_mem hx
 have := namesOk_iff.1 h y hy
 omega
theorem namesOk_put {H : Heap} {k j : Nat} {c : Blk} (hj : j < k) (h : namesOk k H = true) : namesOk k ((j, c) :: H) = true := by
 rw [namesOk, (blt_iff _ _).2 hj]; exact h
def names (c : Nat) : Nat → List Nat
 | 0 => []
 | k + 1 => c :: names (c + 1) k
structure RowK (α : Type) (dec : Dec α) where
 val : Nat → List α → Value
 blk : List α → Blk
 ren : ∀ (ρ : Nat → Nat) m l, Ab.ren ρ (val m l) = val (ρ m) l
 sc : ∀ (p : Nat → Prop) m l, p m → Ab.sc p (val m l)
 fix : ∀ (ρ : Nat → Nat) l, renB ρ (blk l) = blk l
 scB : ∀ (p : Nat → Prop) l, Ab.scB p (blk l)
 car : ∀ l, carried (blk l)
 own : ∀ l, (blk l).own = true
 see : ∀ H m l, hget H m = some (blk l) → l.length < 2147483648 → listV 1 dec H (val m l) = some l
structure En (α : Type) (dec : Dec α) where
 to : α → Value
 ren : ∀ (ρ : Nat → Nat) x, Ab.ren ρ (to x) = to x
 sc : ∀ (p : Nat → Prop) x, Ab.sc p (to x)
 one : ∀ H x, dec H [to x] = some x
theorem En.renL {α : Type} {dec : Dec α} (e : En α dec) (ρ : Nat → Nat) : ∀ l : List α, Ab.renL ρ (l.map e.to) = l.map e.to
 | [] => rfl
 | x :: l => by simp only [List.map_cons, Ab.renL, e.ren, e.renL ρ l]
theorem En.scL {α : Type} {dec : Dec α} (e : En α dec) (p : Nat → Prop) : ∀ l : List α, Ab.scL p (l.map e.to)
 | [] => trivial
 | x :: l => ⟨e.sc p x, e.scL p l⟩
theorem En.dec {α : Type} {dec : Dec α} (e : En α dec) {H : Heap} {l : List α} (i : Nat) (v : Value) (h : (l.map e.to)[i]? = some v) : dec H [v] = l[i]? := by
 rw [List.getElem?_map, Option.map_eq_some_iff] at h
 obtain ⟨x, hx, rfl⟩ := h
 rw [e.one, hx]
def kCp {α : Type} {dec : Dec α} (e : En α dec) (t : TypeId) : RowK α dec where
 val := fun m l => if l.length = 0 then .slice (some ⟨m, 0, none⟩) 0 0 else .slice (some ⟨m, 0, some 0⟩) l.length 0
 blk := fun l => if l.length = 0 then .cells [] t else .ext (l.map e.to) t 1
 ren := fun ρ m l => by split <;> rfl
 sc := fun p m l h => by split <;> exact h
 fix := fun ρ l => by
   split
   · simp [renB, Ab.renL]
   · simp only [renB, e.renL]
 scB := fun p l => by
   split
   · trivial
   · exact e.scL p l
 car := fun l => by split <;> trivial
 own := fun l => by split <;> rfl
 see := fun H m l h hl => by
   by_cases h0 : l.length = 0
   · obtain rfl := List.length_eq_zero_iff.1 h0
     rfl
   · rw [if_neg h0] at h ⊢
     exact listV_mk (cs := l.map e.to) rfl (by rw [cellsA_eq, h]; simp [cellsB]; exact List.take_of_length_le (by simp)) (by simp) hl fun i v hv => e.dec i v hv
end Go.Ab

namespace Go.Soft
end Go.Soft

namespace Go.Proofs.YtndlfijfjglkdaaGreatDoor
open Go Go.Ab Go.Proofs
end Go.Proofs.YtndlfijfjglkdaaGreatDoor

namespace Go.Proofs.YtndlfijfjglkdaaGreatDoor
open Go Go.Ab Go.Proofs Go.Soft
theorem gcs_lenB : ∀ l : List Gun, (gcs l).length = l.length * 7
 | [] => rfl
 | g :: l => by
   have := gcs_lenB l
   unfold gcs at this ⊢
   rw [List.flatMap_cons, List.length_append, this, List.length_cons]
   show 7 + l.length * 7 = (l.length + 1) * 7
   omega
theorem gcs_appendB (a b : List Gun) : gcs (a ++ b) = gcs a ++ gcs b := by simp [gcs]
theorem gcs_atB {l : List Gun} {j : Nat} (hj : j < l.length) : ((gcs l).drop (j * 7)).take 7 = Gun.cells l[j] := by
 have e : l = l.take j ++ l[j] :: l.drop (j + 1) := by rw [← List.drop_eq_getElem_cons hj, List.take_append_drop]
 have hlen : (gcs (l.take j)).length = j * 7 := by rw [gcs_lenB, List.length_take]; congr 1; omega
 have h1 : gcs l = gcs (l.take j) ++ (Gun.cells l[j] ++ gcs (l.drop (j + 1))) := by
   conv => lhs; rw [e, gcs_appendB]
   rfl
 rw [h1, List.drop_left' hlen]
 exact List.take_left' rfl
end Go.Proofs.YtndlfijfjglkdaaGreatDoor

namespace Go.Proofs.YtndlfijfjglkdaaGreatDoor
open Go Go.Ab Go.Proofs Go.Soft
end Go.Proofs.YtndlfijfjglkdaaGreatDoor

namespace Go.Proofs.YtndlfijfjglkdaaGreatDoor
open Go Go.Ab Go.Proofs Go.Soft
theorem gcs_injB : ∀ {a b : List Gun}, gcs a = gcs b → a = b
 | [], [], _ => rfl
 | [], g :: b, h => by have := congrArg List.length h; rw [gcs_lenB, gcs_lenB] at this; simp at this
 | g :: a, [], h => by have := congrArg List.length h; rw [gcs_lenB, gcs_lenB] at this; simp at this
 | g :: a, g' :: b, h => by
   have e1 : gcs (g :: a) = Gun.cells g ++ gcs a := rfl
   have e2 : gcs (g' :: b) = Gun.cells g' ++ gcs b := rfl
   rw [e1, e2] at h
   obtain ⟨h1, h2⟩ := List.append_inj h rfl
   obtain ⟨s, v, x, y, f, l, u⟩ := g
   obtain ⟨s', v', x', y', f', l', u'⟩ := g'
   simp only [Gun.cells, List.cons.injEq, Value.string.injEq, Value.int.injEq, true_and, and_true] at h1
   obtain ⟨rfl, rfl, rfl, rfl, rfl, rfl, rfl⟩ := h1
   rw [gcs_injB h2]
end Go.Proofs.YtndlfijfjglkdaaGreatDoor

namespace Go.Proofs.YtndlfijfjglkdaaGreatDoor
open Go Go.Ab Go.Proofs Go.Soft
def GunsAt (H : Heap) (v : Value) (l : List Gun) : Prop := ∃ a c, v = .slice (some a) l.length c ∧ flat a = true ∧ cellsA H a.block a.off (l.length * 7) = some (gcs l) ∧ 0 < l.length ∧ l.length < 2147483648
theorem GunsAt.mono {H H' : Heap} (hs : Sub H H') {v : Value} {l : List Gun} (h : GunsAt H v l) : GunsAt H' v l := by
 obtain ⟨a, c, e, h1, h2, h3⟩ := h
 exact ⟨a, c, e, h1, hs.cells h2, h3⟩
theorem GunsAt.tidy {H : Heap} {n : Nat} (hl : ∀ k b, hget H k = some b → k < n) {v : Value} {l : List Gun} (h : GunsAt H v l) : GunsAt (Ab.tidy n H) v l := by
 obtain ⟨a, c, e, h1, h2, h3⟩ := h
 exact ⟨a, c, e, h1, cellsA_tidy hl h2, h3⟩
end Go.Proofs.YtndlfijfjglkdaaGreatDoor

namespace Go.Proofs.YtndlfijfjglkdaaGreatDoor
open Go Go.Ab Go.Proofs Go.Soft
end Go.Proofs.YtndlfijfjglkdaaGreatDoor

namespace Go.Ab
open Go
mutual
theorem ren_af (ρ : Nat → Nat) : ∀ v, af v = true → ren ρ v = v
 | .bool _, _ | .int _ _, _ | .float _ _, _ | .complex _ _ _, _ | .string _, _ | .nilFunc, _ | .nilIface, _ | .chan _, _ => by simp [ren]
 | .pointer none, _ | .slice none _ _, _ | .map none, _ => by simp [ren]
 | .pointer (some a), hs | .slice (some _) _ _, hs | .map (some r), hs | .func (.yield l) a b, hs => by simp [af] at hs
 | .func (.func f) a b, hs | .func (.method f) a b, hs | .func (.methodOf _ f) a b, hs | .func (.via _ _ f _) a b, hs => by
   simp only [af, Bool.and_eq_true] at hs
   simp only [ren]
   rw [renL_af ρ _ hs.1, renL_af ρ _ hs.2]
 | .iface t v, hs => by simp only [ren]; rw [ren_af ρ v (by simpa [af] using hs)]
 | .agg cs, hs => by simp only [ren]; rw [renL_af ρ _ (by simpa [af] using hs)]
 | .tuple cs, hs => by simp only [ren]; rw [renL_af ρ _ (by simpa [af] using hs)]
theorem renL_af (ρ : Nat → Nat) : ∀ vs, afL vs = true → renL ρ vs = vs
 | [], _ => rfl
 | v :: vs, hs => by
   simp only [afL, Bool.and_eq_true] at hs
   simp only [renL]; rw [ren_af ρ v hs.1, renL_af ρ vs hs.2]
end
end Go.Ab

namespace Go.Proofs.YtndlfijfjglkdaaGreatDoor
open Go Go.Ab Go.Proofs Go.Soft
end Go.Proofs.YtndlfijfjglkdaaGreatDoor

namespace Go.Proofs.YtndlfijfjglkdaaGreatDoor
open Go Go.Ab Go.Proofs Go.Soft
theorem GunsAt.one {H : Heap} {v : Value} {l k : List Gun} (h : GunsAt H v l) (h' : GunsAt H v k) : l = k := by
 obtain ⟨a, c, rfl, _, h1, _⟩ := h
 obtain ⟨a', c', e, _, h1', _⟩ := h'
 injection e with e1 e2 e3
 injection e1 with e1
 subst e1
 rw [← e2, h1] at h1'
 injection h1' with h1'
 exact gcs_injB h1'
end Go.Proofs.YtndlfijfjglkdaaGreatDoor

namespace Go.Proofs.YtndlfijfjglkdaaGreatDoor
open Go Go.Ab Go.Proofs Go.Soft
end Go.Proofs.YtndlfijfjglkdaaGreatDoor

namespace Go.Proofs.YtndlfijfjglkdaaGreatDoor
open Go Go.Ab Go.Proofs Go.Soft
end Go.Proofs.YtndlfijfjglkdaaGreatDoor

namespace Go.Proofs.YtndlfijfjglkdaaGreatDoor
open Go Go.Ab Go.Proofs Go.Soft
def enS : En ByteArray decS where
 to := fun s => sv s
 ren := fun _ _ => rfl
 sc := fun _ _ => trivial
 one := fun _ _ => rfl
abbrev kS : RowK ByteArray decS := kCp enS 9
theorem strV_src {H : Heap} {v : Value} {l : List ByteArray} (h : Ab.strV H v = some l) (hne : l.length ≠ 0) : ∃ a c, v = .slice (some a) l.length c ∧ flat a = true ∧ cellsA H a.block a.off l.length = some (l.map enS.to) := by
 obtain ⟨oa, c, e, hlt, _, hrow⟩ := strV_form h
 obtain ⟨a, rfl, hf, _⟩ := hrow 0 (by omega)
 refine ⟨a, c, e, hf, ?_⟩
 subst e
 unfold Ab.strV listV at h
 simp only [if_pos hlt, if_neg hne, hf, if_true, Nat.mul_one] at h
 obtain ⟨cs, hc, hm⟩ := Option.bind_eq_some_iff.1 h
 rw [hc]
 have hl := mapO_get hm
 have hcl : cs.length = l.length := by
   have := hl.1
   rw [chunks_len] at this
   have := cellsA_cell hc (i := 0) (by omega)
   exact this.2
 congr 1
 apply List.ext_getElem?
 intro i
 by_cases hi : i < l.length
 · obtain ⟨a', e', _, hci⟩ := hrow i hi
   injection e' with e'
   subst e'
   have := (cellsA_cell hc (i := i) hi).1
   rw [← this, hci, List.getElem?_map, List.getElem?_eq_getElem hi]
   rfl
 · rw [List.getElem?_eq_none (by omega), List.getElem?_eq_none (by simp; omega)]
theorem oneL_svs : ∀ l : List ByteArray, oneL (l.map enS.to) = true
 | [] => rfl
 | x :: l => by
   have := oneL_svs l
   show oneL (sv x :: l.map enS.to) = true
   simp [oneL, this]
theorem app_words {H : Heap} {n m : Nat} {l : List ByteArray} {v : Value} (h : Ab.strV H v = some l) (hne : l.length ≠ 0) (h0 : cellsA H n 0 0 = some []) :
   builtinA Tryz.prog .append #[102, 102] H m [.slice (some ⟨n, 0, none⟩) 0 0, v] = some (.slice (some ⟨m, 0, some 0⟩) l.length 0, (m, .ext (l.map enS.to) 9 1) :: H, m + 1) := by
 have hlt : l.length < 2147483648 := by
   obtain ⟨_, _, _, hlt, _⟩ := strV_form h
   exact hlt
 obtain ⟨a, c, rfl, hf, hc⟩ := strV_src h hne
 have hsm : l.length * 16 ≤ 1099511627776 ∧ l.length ≤ 1099511627776 := by omega
 simp [-cellsA, -flat, hf, hc, hne, hsm, h0, oneL_svs]
end Go.Proofs.YtndlfijfjglkdaaGreatDoor

namespace Go.Proofs.YtndlfijfjglkdaaGreatDoor
open Go Go.Ab Go.Proofs Go.Soft
set_option maxRecDepth 20000 in
theorem w94 {H : Heap} {n : Nat} {v : Value} {l : List ByteArray} (hl : Ab.strV H v = some l) : AC Tryz.prog 94 [v] H n (kS.val n l) ([(n, kS.blk l)] ++ H) (n + 1) := by
 refine AC.given fun hold hsc hgn => AC.tidied (fun x hx => ?_) ?_
 · rw [List.mem_singleton] at hx; subst hx; exact Nat.le_refl _
 replace hl : Ab.strV (tidy n H) v = some l := listV_tidy decS_tidy (fun k b h => (hold k b h).1) hl
 have hr := recT_ok (P := Tryz.prog) (l := []) (by simp)
 have hS : Sub (tidy n H) ((n, .cells [] 9) :: tidy n H) := Sub.cons (by simp) (Sub.refl _)
 have hl' := listV_mono decS_mono hS hl
 refine AC.fresh Tryz.func94 rfl (by kernel_rfl) rfl [0, 2] (by omega) (kS.sc _ _ _ (by omega)) (fun ρ => by rw [kS.ren]; simp only [kS, kCp]; split <;> rfl) ?_
 refine E.seq ?_
 refine E.reg hr (by simp; rfl) ?_
 by_cases hne : l.length = 0
 · obtain rfl := List.length_eq_zero_iff.1 hne
   obtain ⟨oa, c, rfl, _, _, _⟩ := strV_form hl
   have hfin : Fresh n (n + 1) (tidy n H) (kS.val n []) [(n, kS.blk [])] (.slice (some ⟨n, 0, none⟩) 0 0) ((n, .cells [] 9) :: tidy n H) := by
     refine ⟨id, fun _ _ => rfl, rfl, fun k b hk => ?_, fun j b k c hj hk e => e, hS⟩
     rw [hget_cons] at hk
     split at hk
     · rename_i e; subst e; injection hk with hk; subst hk
       refine ⟨Nat.le_refl _, Nat.lt_succ_self _, Nat.le_refl _, ?_, kS.scB _ _, kS.car _, kS.own _⟩
       rw [kS.fix, id, hget_cons, if_pos rfl]
       rfl
     · cases hk
   cases oa with
   | none =>
     refine E.seq ?_
     refine E.reg hr (by simp; rfl) ?_
     refine E.ret ?_
     exact outK.ret rfl rfl hfin
   | some a =>
     refine E.seq ?_
     refine E.reg hr (by simp; rfl) ?_
     refine E.ret ?_
     exact outK.ret rfl rfl hfin
 · have hnn : ¬ l = [] := fun e => hne (by rw [e]; rfl)
   have happ := app_words (n := n) (m := n + 1) hl' hne (by rw [cellsA_eq, hget_cons, if_pos rfl]; rfl)
   refine E.seq ?_
   refine E.reg hr (by simp [-builtinA, happ]; rfl) ?_
   refine E.ret ?_
   refine outK.ret rfl rfl ⟨fun k => if k = n then n + 1 else k, fun k hk => if_neg (by omega), ?_, fun k b hk => ?_, fun j b k c hj hk _ => ?_, hS.trans (Sub.cons (by simp) (Sub.refl _))⟩
   · rw [kS.ren]
     simp [kS, kCp, hnn]
   · rw [hget_cons] at hk
     split at hk
     · rename_i e; subst e; injection hk with hk; subst hk
       refine ⟨Nat.le_refl _, Nat.lt_succ_self _, by simp, ?_, kS.scB _ _, kS.car _, kS.own _⟩
       rw [kS.fix]
       simp [kS, kCp, hnn]
     · cases hk
   · rw [hget_cons] at hj hk
     split at hj
     · split at hk
       · omega
       · cases hk
     · cases hj
def g94 (args : List Value) (H : Heap) (n : Nat) : R := match args with
 | [v] => (Ab.strV H v).map fun l => (kS.val n l, (n, kS.blk l) :: H, n + 1)
 | _ => none
theorem ok94 : EntOk Tryz.prog (94, g94) := by
 intro args H n v H' n' h
 simp only [g94] at h
 split at h
 · rw [Option.map_eq_some_iff] at h
   obtain ⟨ls, h1, h⟩ := h
   injection h with e1 e2; injection e2 with e2 e3; subst e1 e2 e3
   exact w94 h1
 · cases h
end Go.Proofs.YtndlfijfjglkdaaGreatDoor

namespace Go.Ab
open Go
theorem plainH_hdel : ∀ {H : Heap} {k : Nat}, plainH H = true → plainH (hdel H k) = true
 | [], _, _ => rfl
 | (i, b) :: H, k, h => by
   simp only [plainH, Bool.and_eq_true] at h
   rw [hdel]
   split
   · exact plainH_hdel h.2
   · simp only [plainH, Bool.and_eq_true]
     exact ⟨h.1, plainH_hdel h.2⟩
end Go.Ab

namespace Go.Ab
open Go
def outS (o k : Nat) : Value := if k = 0 then .slice none 0 0 else .slice (some ⟨o, 0, some 0⟩) k 0
@[simp] theorem outS_nil {o : Nat} : outS o 0 = .slice none 0 0 := rfl
theorem outS_ne {o k : Nat} (h : k ≠ 0) : outS o k = .slice (some ⟨o, 0, some 0⟩) k 0 := if_neg h
def outSB (n t sz k : Nat) (cs : List Value) : Heap := if k = 0 then [] else [(n, .ext cs t sz)]
structure GL (L : Heap) (n t sz : Nat) (cs : List Value) (k : Nat) (Hx : Heap) (N o : Nat) : Prop where
 len : cs.length = k * sz
 out : k ≠ 0 → hget Hx o = some (.ext cs t sz) ∧ o < N
 sub : Sub L Hx
 nm : namesOk N Hx = true
 big : n ≤ N
 low : n ≤ o
 pl : plainH Hx = true
section
variable {L Hx : Heap} {n t sz k N o : Nat} {cs new : List Value}
theorem GL.start (hs : Sub L Hx) (hn : namesOk N Hx = true) (hb : n ≤ N) (hp : plainH Hx = true) : GL L n t sz [] 0 Hx N n :=
 ⟨by simp, fun h => absurd rfl h, hs, hn, hb, Nat.le_refl _, hp⟩
theorem GL.skip (hL : ∀ k b, hget L k = some b → k < n) (h : GL L n t sz cs k Hx N o) (b : Blk) (hp : plainB2 b = true) : GL L n t sz cs k ((N, b) :: Hx) (N + 1) o := by
 have hb := h.big
 refine ⟨h.len, fun hk => ?_, fun j b' hj => ?_, namesOk_put (by omega) (namesOk_mono (by omega) _ h.nm), by omega, h.low, by rw [plainH, hp, h.pl]; rfl⟩
 · obtain ⟨h1, h2⟩ := h.out hk
   rw [hget_cons, if_neg (by omega)]
   exact ⟨h1, by omega⟩
 · have := hL j b' hj
   rw [hget_cons, if_neg (by omega)]
   exact h.sub j b' hj
theorem GL.grow (hL : ∀ k b, hget L k = some b → k < n) (h : GL L n t sz cs k Hx N o) {cs' : List Value} {k' : Nat} (hl : cs'.length = k' * sz) : GL L n t sz cs' k' ((N, .ext cs' t sz) :: (if k = 0 then Hx else hdel Hx o)) (N + 1) N := by
 have hb := h.big
 have hlo := h.low
 have hg : ∀ j, j < n → hget (if k = 0 then Hx else hdel Hx o) j = hget Hx j := fun j hj => by
   split
   · rfl
   · rw [hget_hdel, if_neg (by omega)]
 have hn2 : namesOk N (if k = 0 then Hx else hdel Hx o) = true := by
   split
   · exact h.nm
   · exact namesOk_hdel h.nm
 have hp2 : plainH (if k = 0 then Hx else hdel Hx o) = true := by
   split
   · exact h.pl
   · exact plainH_hdel h.pl
 refine ⟨hl, fun _ => ⟨by rw [hget_cons, if_pos rfl], by omega⟩, fun j b hj => ?_, namesOk_put (by omega) (namesOk_mono (by omega) _ hn2), by omega, by omega, by simp [plainH, hp2]⟩
 have := hL j b hj
 rw [hget_cons, if_neg (by omega), hg j this]
 exact h.sub j b hj
theorem GL.app {P : Program} {st : TypeId} {i : TypeInfo} (hL : ∀ k b, hget L k = some b → k < n) (hu : P.underlying st = some (.slice t)) (hi : P.info? t = some i) (hsz : i.size = sz) (hz : zeroOk i = true) (hb : i.bytes ≤ 128) (h : GL L n t sz cs k Hx N o) (hk : k < 2147483647) (hnew : new.length = sz) (hs0 : 0 < sz) (hone : oneL new = true) (hpn : plainB2 (.cells new t) = true) :
   ∃ Hz, builtinA P .append #[st, st] ((N, .cells new t) :: Hx) (N + 1) [outS o k, .slice (some ⟨N, 0, none⟩) 1 1] = some (outS (N + 1) (k + 1), Hz, N + 1 + 1) ∧ GL L n t sz (cs ++ new) (k + 1) Hz (N + 1 + 1) (N + 1) := by
 have h2 := h.skip hL (.cells new t) hpn
 refine ⟨_, ?_, h2.grow hL (by rw [List.length_append, h.len, hnew, Nat.succ_mul])⟩
 have hc : cellsA ((N, .cells new t) :: Hx) N 0 (1 * sz) = some new := by
   rw [cellsA_eq, hget_cons, if_pos rfl]
   simp only [Option.bind_some, cellsB]
   rw [if_pos (by omega), List.drop_zero, List.take_of_length_le (by omega)]
 have hsm1 : smallA i.bytes 1 = true := by
   unfold smallA
   rw [Bool.and_eq_true]
   exact ⟨decide_eq_true (by omega), decide_eq_true (by omega)⟩
 have hsm : smallA i.bytes (k + 1) = true := by
   unfold smallA
   rw [Bool.and_eq_true]
   refine ⟨decide_eq_true ?_, decide_eq_true ?_⟩
   · have := Nat.mul_le_mul_left (k + 1) hb
     omega
   · omega
 have h1 : ¬ 1 * sz = 0 := by omega
 show appendA P #[st, st] _ _ _ _ = _
 unfold appendA
 have hnb : Nat.beq new.length (1 * sz) = true := by rw [hnew, Nat.one_mul, Nat.beq_refl]
 rw [outS_ne (Nat.succ_ne_zero k)]
 by_cases hk0 : k = 0
 · subst hk0
   simp only [outS_nil, List.getElem?_toArray, List.getElem?_cons_zero, List.getElem?_cons_succ, hu, hi, lenX, lenV, srcX, srcA, hsz, if_neg h1, flat_n, if_true, hc, hnb, hone, Bool.and_self]
   unfold appendTo
   have hcs : cs = [] := List.eq_nil_of_length_eq_zero (by rw [h.len, Nat.zero_mul])
   subst hcs
   simp only [and_self, if_true, Nat.one_ne_zero, if_false, hsm1, hz, Bool.and_self, hsz]
   rfl
 · obtain ⟨ho, _⟩ := h2.out hk0
   have hle : ¬ (k + 1) * sz ≤ cs.length := by rw [h.len, Nat.succ_mul]; omega
   have hle2 : k * sz ≤ cs.length := by rw [h.len]; omega
   have htk : cs.take (k * sz) = cs := List.take_of_length_le (by rw [h.len]; omega)
   rw [outS_ne hk0]
   simp only [List.getElem?_toArray, List.getElem?_cons_zero, List.getElem?_cons_succ, hu, hi, lenX, lenV, srcX, srcA, hsz, if_neg h1, flat_n, if_true, hc, hnb, hone, Bool.and_self]
   unfold appendTo
   simp only [ho, hsz, hle2, and_self, if_true, if_neg hle, hsm, hz, Bool.and_self, htk, if_neg hk0]
   rfl
theorem sc_outS {o k : Nat} {p : Nat → Prop} (h : p o) : sc p (outS o k) := by
 unfold outS
 split
 · trivial
 · exact h
theorem ren_outS {o m k : Nat} {ρ : Nat → Nat} (h : ρ o = m) : ren ρ (outS o k) = outS m k := by
 unfold outS
 split
 · rfl
 · simp [ren, h]
theorem GL.fresh {n0 : Nat} (h : GL L n t sz cs k Hx N o) (hn : n0 ≤ n) (haf : afL cs = true) (hren : ∀ ρ, renL ρ cs = cs) : Fresh n0 (n0 + 1) L (outS n0 k) (outSB n0 t sz k cs) (outS o k) Hx := by
 have hlo := h.low
 refine ⟨fun j => if j = n0 then o else j, fun j hj => if_neg (by omega), by rw [ren_outS (ρ := fun j => if j = n0 then o else j) (m := o) (by simp)], fun j b hj => ?_, fun j b j' c hj hj' _ => ?_, h.sub⟩
 · by_cases hk : k = 0
   · rw [outSB, if_pos hk] at hj; cases hj
   · rw [outSB, if_neg hk, hget_cons] at hj
     split at hj
     · rename_i e; subst e; injection hj with hj; subst hj
       refine ⟨Nat.le_refl _, Nat.lt_succ_self _, by simp; omega, ?_, scL_af _ _ haf, trivial, rfl⟩
       simp [renB, hren, (h.out hk).1]
     · cases hj
 · by_cases hk : k = 0
   · rw [outSB, if_pos hk] at hj; cases hj
   · rw [outSB, if_neg hk, hget_cons] at hj hj'
     split at hj
     · split at hj'
       · omega
       · cases hj'
     · cases hj
end
theorem AC.wider {P : Program} {f : FuncId} {args : List Value} {H : Heap} {n : Nat} {v : Value} (h : AC P f args H n v H n) (hr : v = Ab.ren id v) (hv : sc (· < n + 1) v) : AC P f args H n v H (n + 1) :=
 AC.given fun hold _ _ => h.ren id (fun _ _ => rfl) (by omega) hr hv (fun _ _ hk => .inl ⟨hk, hk⟩) fun j b k c hj hk h1 _ _ => absurd (hold j b h1).1 (by omega)
theorem AC.grown {P : Program} {f : FuncId} {fn : Func} {c : Code} {args : List Value} {H : Heap} {n t sz k : Nat} {cs : List Value} (hf : P.funcs[f]? = some fn) (hb : fn.body = some c) (he : enterable P f = true) (hlen : Nat.ble args.length fn.ntmps = true) (vs : List Nat)
   (h : E P n none c { fr := argsFr args 0, sz := fn.ntmps, H, n, marks := [], vs } (outK P fn (Fresh n (n + 1) H (outS n k) (outSB n t sz k cs)))) : AC P f args H n (outS n k) (outSB n t sz k cs ++ H) (n + 1) := by
 by_cases hk : k = 0
 · subst hk
   have h2 : AC P f args H n (.slice none 0 0) H n := AC.pure hf hb he hlen vs rfl (E.mono h fun e st hh => by
     obtain ⟨h1, h2, us, h3, ρ, _, h4, _, _, h5⟩ := hh
     exact ⟨h1, h2, ⟨us, h3, by rw [h4]; rfl⟩, h5⟩)
   exact h2.wider rfl trivial
 · exact AC.fresh hf hb he hlen vs (by omega) (sc_outS (by omega)) (fun ρ => by rw [outS_ne hk]; rfl) h
theorem AC.grownE {P : Program} {f : FuncId} {fn : Func} {c : Code} {args : List Value} {H : Heap} {n t sz k : Nat} {cs : List Value} {e : Int} (hf : P.funcs[f]? = some fn) (hb : fn.body = some c) (he : enterable P f = true) (hlen : Nat.ble args.length fn.ntmps = true) (vs : List Nat)
   (h : E P n none c { fr := argsFr args 0, sz := fn.ntmps, H, n, marks := [], vs } (outK P fn (Fresh n (n + 1) H (.tuple #[outS n k, .int .i64 e]) (outSB n t sz k cs)))) : AC P f args H n (.tuple #[outS n k, .int .i64 e]) (outSB n t sz k cs ++ H) (n + 1) := by
 by_cases hk : k = 0
 · subst hk
   have h2 : AC P f args H n (.tuple #[.slice none 0 0, .int .i64 e]) H n := AC.pure hf hb he hlen vs rfl (E.mono h fun e st hh => by
     obtain ⟨h1, h2, us, h3, ρ, _, h4, _, _, h5⟩ := hh
     exact ⟨h1, h2, ⟨us, h3, by rw [h4]; rfl⟩, h5⟩)
   exact h2.wider rfl ⟨trivial, trivial, trivial⟩
 · exact AC.fresh hf hb he hlen vs (by omega) ⟨sc_outS (by omega), trivial, trivial⟩ (fun ρ => by rw [outS_ne hk]; rfl) h
theorem fresh_none {n t sz : Nat} {H H1 : Heap} {cs : List Value} (hs : Sub H H1) : Fresh n (n + 1) H (outS n 0) (outSB n t sz 0 cs) (.slice none 0 0) H1 :=
 ⟨id, fun _ _ => rfl, rfl, fun k b hk => (by cases hk), fun j b k c hj _ _ => (by cases hj), hs⟩
theorem outSB_ge {n t sz k : Nat} {cs : List Value} : ∀ x ∈ outSB n t sz k cs, n ≤ x.1 := fun x hx => by
 unfold outSB at hx
 split at hx
 · cases hx
 · rw [List.mem_singleton] at hx; subst hx; exact Nat.le_refl _
theorem Fresh.lower {n n2 : Nat} {H H' B H1 : Heap} {v u : Value} (h : Fresh n n2 H v B u H1) (hs : Sub H' H) : Fresh n n2 H' v B u H1 := by
 obtain ⟨ρ, h1, h2, h3, h4, h5⟩ := h
 exact ⟨ρ, h1, h2, h3, h4, fun k b hk => h5 k b (hs k b hk)⟩
theorem fresh_sb {n m t sz k : Nat} {cs : List Value} {H Z : Heap} (haf : afL cs = true) (hren : ∀ ρ, renL ρ cs = cs) (hm : n ≤ m) (hs : Sub H Z) (hZ : hget H m = none) : Fresh n (n + 1) H (outS n k) (outSB n t sz k cs) (outS m k) (outSB m t sz k cs ++ Z) := by
 by_cases hk : k = 0
 · subst hk
   exact fresh_none hs
 · have e : outSB m t sz k cs ++ Z = (m, .ext cs t sz) :: Z := by rw [outSB, if_neg hk]; rfl
   rw [e]
   refine ⟨fun j => if j = n then m else j, fun j hj => if_neg (by omega), by rw [ren_outS (ρ := fun j => if j = n then m else j) (m := m) (by simp)], fun j b hj => ?_, fun j b j' c hj hj' _ => ?_, fun j b hj => ?_⟩
   · rw [outSB, if_neg hk, hget_cons] at hj
     split at hj
     · rename_i e; subst e; injection hj with hj; subst hj
       refine ⟨Nat.le_refl _, Nat.lt_succ_self _, by simpa using hm, ?_, scL_af _ _ haf, trivial, rfl⟩
       simp [renB, hren]
     · cases hj
   · rw [outSB, if_neg hk, hget_cons] at hj hj'
     split at hj
     · split at hj'
       · omega
       · cases hj'
     · cases hj
   · rw [hget_cons, if_neg fun e => by rw [e] at hZ; rw [hZ] at hj; cases hj]
     exact hs j b hj
end Go.Ab
