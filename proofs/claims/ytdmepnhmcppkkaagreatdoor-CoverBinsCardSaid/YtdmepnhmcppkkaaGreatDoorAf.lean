/-
Runs in pieces; rules for stepping through code whose values are not known; tables of contracts.
-/
import Derived.Below
import Derived.KernelRfl
import Derived.IntWalk
import Derived.Test.YtdmepnhmcppkkaaGreatDoorAe
namespace Go.Ab
open Go
/-! ### closed runs, cut in pieces -/
def eqAd : Option Addr → Option Addr → Bool
 | none, none => true
 | some ⟨b, o, none⟩, some ⟨b', o', none⟩ => Nat.beq b b' && Nat.beq o o'
 | some ⟨b, o, some s⟩, some ⟨b', o', some s'⟩ => Nat.beq b b' && Nat.beq o o' && Nat.beq s s'
 | _, _ => false
theorem eqAd_ok : ∀ a b, eqAd a b = true → a = b
 | none, none, _ => rfl
 | some ⟨b, o, none⟩, some ⟨b', o', none⟩, h => by
   simp only [eqAd, Bool.and_eq_true] at h
   rw [Nat.eq_of_beq_eq_true h.1, Nat.eq_of_beq_eq_true h.2]
 | some ⟨b, o, some s⟩, some ⟨b', o', some s'⟩, h => by
   simp only [eqAd, Bool.and_eq_true] at h
   rw [Nat.eq_of_beq_eq_true h.1.1, Nat.eq_of_beq_eq_true h.1.2, Nat.eq_of_beq_eq_true h.2]
 | none, some _, h | some _, none, h => by simp [eqAd] at h
 | some ⟨_, _, none⟩, some ⟨_, _, some _⟩, h | some ⟨_, _, some _⟩, some ⟨_, _, none⟩, h => by simp [eqAd] at h
mutual
def eqV : Value → Value → Bool
 | .bool a, .bool b => a == b
 | .int k n, .int k' n' => decide (k = k') && decide (n = n')
 | .float k n, .float k' n' => decide (k = k') && Nat.beq n n'
 | .string s, .string s' => decide (s.data.toList = s'.data.toList)
 | .pointer a, .pointer b => eqAd a b
 | .slice a l c, .slice a' l' c' => eqAd a a' && Nat.beq l l' && Nat.beq c c'
 | .map none, .map none => true
 | .map (some r), .map (some r') => Nat.beq r r'
 | .func (.func f) a b, .func (.func f') a' b' => Nat.beq f f' && eqL a.toList a'.toList && eqL b.toList b'.toList
 | .nilFunc, .nilFunc => true
 | .nilIface, .nilIface => true
 | .iface t v, .iface t' v' => Nat.beq t t' && eqV v v'
 | .agg a, .agg b => eqL a.toList b.toList
 | .tuple a, .tuple b => eqL a.toList b.toList
 | _, _ => false
def eqL : List Value → List Value → Bool
 | [], [] => true
 | v :: vs, u :: us => eqV v u && eqL vs us
 | _, _ => false
end
theorem arr_eq {α : Type} {a b : Array α} (h : a.toList = b.toList) : a = b := Array.ext' h
mutual
theorem eqV_ok : ∀ v u, eqV v u = true → v = u
 | .bool a, u, h => by cases u <;> simp [eqV] at h; rw [h]
 | .int k n, u, h => by cases u <;> simp [eqV] at h; rw [h.1, h.2]
 | .float k n, u, h => by cases u <;> simp [eqV] at h; rw [h.1, h.2]
 | .complex _ _ _, u, h => by cases u <;> simp [eqV] at h
 | .string s, u, h => by
   cases u <;> simp [eqV] at h
   rename_i s'
   obtain ⟨d⟩ := s
   obtain ⟨d'⟩ := s'
   rw [show d = d' from h]
 | .pointer a, u, h => by
   cases u <;> simp only [eqV] at h <;> first | cases h | rw [eqAd_ok _ _ h]
 | .slice a l c, u, h => by
   cases u with
   | slice a' l' c' =>
     simp only [eqV, Bool.and_eq_true] at h
     rw [eqAd_ok _ _ h.1.1, Nat.eq_of_beq_eq_true h.1.2, Nat.eq_of_beq_eq_true h.2]
   | _ => simp [eqV] at h
 | .map none, u, h => by
   cases u with
   | map r => cases r <;> simp [eqV] at h ⊢
   | _ => simp [eqV] at h
 | .map (some r), u, h => by
   cases u with
   | map r' => cases r' <;> simp [eqV] at h ⊢; exact h
   | _ => simp [eqV] at h
 | .chan _, u, h => by cases u <;> simp [eqV] at h
 | .func (.func f) a b, u, h => by
   cases u with
   | func fn a' b' =>
     cases fn with
     | func f' =>
       simp only [eqV, Bool.and_eq_true] at h
       rw [Nat.eq_of_beq_eq_true h.1.1, arr_eq (eqL_ok _ _ h.1.2), arr_eq (eqL_ok _ _ h.2)]
     | _ => simp [eqV] at h
   | _ => simp [eqV] at h
 | .func (.method _) _ _, u, h | .func (.methodOf _ _) _ _, u, h | .func (.via _ _ _ _) _ _, u, h | .func (.yield _) _ _, u, h => by cases u <;> simp [eqV] at h
 | .nilFunc, u, h => by cases u <;> simp [eqV] at h ⊢
 | .nilIface, u, h => by cases u <;> simp [eqV] at h ⊢
 | .iface t v, u, h => by
   cases u with
   | iface t' v' =>
     simp only [eqV, Bool.and_eq_true] at h
     rw [Nat.eq_of_beq_eq_true h.1, eqV_ok v v' h.2]
   | _ => simp [eqV] at h
 | .agg a, u, h => by
   cases u with
   | agg b => rw [arr_eq (eqL_ok _ _ h)]
   | _ => simp [eqV] at h
 | .tuple a, u, h => by
   cases u with
   | tuple b => rw [arr_eq (eqL_ok _ _ h)]
   | _ => simp [eqV] at h
theorem eqL_ok : ∀ vs us, eqL vs us = true → vs = us
 | [], us, h => by cases us <;> simp [eqL] at h ⊢
 | v :: vs, us, h => by
   cases us with
   | nil => simp [eqL] at h
   | cons u us =>
     simp only [eqL, Bool.and_eq_true] at h
     rw [eqV_ok v u h.1, eqL_ok vs us h.2]
end
def eqB : Blk → Blk → Bool
 | .cells cs t, .cells cs' t' => eqL cs cs' && Nat.beq t t'
 | .ext cs t z, .ext cs' t' z' => eqL cs cs' && Nat.beq t t' && Nat.beq z z'
 | .inp o cs, .inp o' cs' => Nat.beq o o' && eqL cs cs'
 | _, _ => false
theorem eqB_ok : ∀ b b', eqB b b' = true → b = b' := by
 intro b b' h
 unfold eqB at h
 split at h
 · rw [Bool.and_eq_true] at h; rw [eqL_ok _ _ h.1, Nat.eq_of_beq_eq_true h.2]
 · rw [Bool.and_eq_true, Bool.and_eq_true] at h; rw [eqL_ok _ _ h.1.1, Nat.eq_of_beq_eq_true h.1.2, Nat.eq_of_beq_eq_true h.2]
 · rw [Bool.and_eq_true] at h; rw [Nat.eq_of_beq_eq_true h.1, eqL_ok _ _ h.2]
 · cases h
def frIn (fr : Fr) : List (Nat × Value) → Bool
 | [] => true
 | (t, v) :: l => (match lk fr t with | some u => eqV u v | none => false) && frIn fr l
def heapIn (H : Heap) : List (Nat × Blk) → Bool
 | [] => true
 | (k, b) :: l => (match hget H k with | some u => eqB u b | none => false) && heapIn H l
theorem frIn_ok (fr : Fr) : ∀ (l : List (Nat × Value)), frIn fr l = true → ∀ t v, lk l t = some v → lk fr t = some v
 | [], _, t, v, h => by simp [lk] at h
 | (i, u) :: l, h, t, v, hv => by
   simp only [frIn, Bool.and_eq_true] at h
   rw [lk_cons] at hv
   by_cases hi : i = t
   · rw [if_pos hi] at hv
     injection hv with hv
     subst hi hv
     have h1 := h.1
     split at h1
     · rename_i x hx; rw [hx, eqV_ok _ _ h1]
     · cases h1
   · rw [if_neg hi] at hv; exact frIn_ok fr l h.2 t v hv
theorem heapIn_ok (H : Heap) : ∀ (l : List (Nat × Blk)), heapIn H l = true → ∀ k b, hget l k = some b → hget H k = some b
 | [], _, k, b, h => by simp [hget] at h
 | (i, u) :: l, h, k, b, hb => by
   simp only [heapIn, Bool.and_eq_true] at h
   rw [hget_cons] at hb
   by_cases hi : i = k
   · rw [if_pos hi] at hb
     injection hb with hb
     subst hi hb
     have h1 := h.1
     split at h1
     · rename_i x hx; rw [hx, eqB_ok _ _ h1]
     · cases h1
   · rw [if_neg hi] at hb; exact heapIn_ok H l h.2 k b hb
def exIs : Ex → Ex → Bool
 | .normal, .normal => true
 | .ret, .ret => true
 | _, _ => false
def cutOk (x : Option (Ex × St)) (e : Ex) (s : St) : Bool := match x with
 | some (e', s') => exIs e' e && Nat.beq s'.n s.n && Nat.beq s'.sz s.sz && s'.marks.isEmpty && s.marks.isEmpty && frIn s'.fr s.fr && heapIn s'.H s.H
 | none => false
theorem exIs_ok {a b : Ex} (h : exIs a b = true) : a = b := by
 cases a <;> cases b <;> first | rfl | simp [exIs] at h
theorem AT.cut {P : Program} {ro : Option Nat} {c : Code} {st st' s : St} {e : Ex} (h : AT P ro c st e st') (hn : st'.n = s.n) (hz : st'.sz = s.sz) (hm : st'.marks = s.marks) (hf : ∀ t v, lk s.fr t = some v → lk st'.fr t = some v)
   (hh : ∀ k b, hget s.H k = some b → hget st'.H k = some b) : AT P ro c st e s := fun p φ a w hS hl =>
 wpIn_mono (h p φ a w hS hl) fun e2 a' w' hp => by
   obtain ⟨he, φ', hs, hst⟩ := hp
   refine ⟨he, φ', ?_, ?_⟩
   · rw [← hn]
     have hst2 := hst.sub hh
     exact ⟨⟨hst2.rel, by rw [← hn]; exact hs.base.lt, hs.base.gl, by rw [← hn]; exact hs.base.gn, hs.base.sm.sub hh, fun t v hv => hs.base.ar t v (hf t v hv), fun t v hv => hs.base.sf t v (hf t v hv)⟩, by rw [← hz]; exact hs.size, by rw [← hm]; exact hs.defs, by rw [← hm]; exact hs.marks⟩
   · rw [← hn]; exact hst.sub hh
theorem AT.piece {P : Program} {r : Rec} {m : Nat} (hr : RecOk P r m) {ro : Option Nat} {c : Code} {st s : St} {e : Ex} (h : cutOk (r.code ro c st) e s = true) : AT P ro c st e s := by
 unfold cutOk at h
 split at h
 · rename_i e' s' hc
   simp only [Bool.and_eq_true] at h
   obtain ⟨⟨⟨⟨⟨⟨h1, h2⟩, h3⟩, h4⟩, h5⟩, h6⟩, h7⟩ := h
   have he := exIs_ok h1
   subst he
   have e1 : s'.marks = [] := List.isEmpty_iff.1 h4
   have e2 : s.marks = [] := List.isEmpty_iff.1 h5
   exact (hr.code _ _ _ _ _ hc).cut (Nat.eq_of_beq_eq_true h2) (Nat.eq_of_beq_eq_true h3) (by rw [e1, e2]) (frIn_ok _ _ h6) (heapIn_ok _ _ h7)
 · cases h
end Go.Ab

namespace Go.Ab
open Go Go.RowKit
/-! ### to and from the library's contracts -/
theorem HRel.below {P : Program} {φ : Vl} {M : Mp} {w w' : World} (h : HRel P φ M w) (hb : Below w.heap.size w w') : HRel P φ M w' :=
 ⟨fun k b hk => by rw [hb.block _ (h.lt hk)]; exact h.blk k b hk, h.apart, h.glob⟩
theorem Step.below {P : Program} {φ : Vl} {n : Nat} {M : Mp} {w w' : World} (h : HRel P φ M w) (hb : Below w.heap.size w w') : Step P φ n M w φ n M w' :=
 ⟨Nat.le_refl _, fun _ _ => ⟨rfl, rfl⟩, h.below hb, fun k b hk ho => .inr ⟨k, b, hk, ho, rfl⟩, fun _ _ hk _ => hk, ⟨hb.os, hb.tape, hb.output, hb.size, fun i hi _ => hb.block i hi⟩⟩
theorem AC.of_calls {P : Program} {f : FuncId} {args : List Value} {H : Heap} {n : Nat} {v : Value} (he : enterable P f = true) (hv : af v = true)
   (h : ∀ p φ w, Base P p φ n (hget H) w [] act0 → scL p args → Calls P f (denL φ args).toArray w fun e w' => e = .returned v ∧ Below w.heap.size w w') : AC P f args H n v H n := by
 intro p φ w hB hsc
 refine .inl ⟨enter_run he _ w, callsIn_wide.2 ((h p φ w hB hsc).mono fun e w' hh => ?_)⟩
 refine ⟨φ, ?_, hB.sm.mono fun _ h => .inl h, sc_af _ _ hv, Step.below hB.rel hh.2⟩
 rw [den_af _ _ hv]
 exact hh.1
theorem AC.calls {P : Program} {f : FuncId} {args : List Value} {H : Heap} {n : Nat} {v : Value} {H' : Heap} {n' : Nat} (h : AC P f args H n v H' n') (he : enterable P f = true) (hv : af v = true) {p : Nat → Prop} {φ : Vl} {w : World}
   (hB : Base P p φ n (hget H) w [] act0) (hsc : scL p args) (ho : ∀ k b, hget H k = some b → b.own = false) : Calls P f (denL φ args).toArray w fun e w' => e = .returned v ∧ Below w.heap.size w w' := by
 rcases h p φ w hB hsc with ⟨_, hc⟩ | ⟨φ', w', hrun, _⟩
 · refine (callsIn_wide.1 hc).mono fun e w' hh => ?_
   obtain ⟨φ', rfl, hd⟩ := hh
   rw [den_af _ _ hv]
   exact ⟨rfl, hd.2.2.frm.os, hd.2.2.frm.tape, hd.2.2.frm.output, hd.2.2.frm.size, fun k hk => hd.2.2.frm.keep k hk fun j x hx hx' => by rw [ho j x hx] at hx'; cases hx'⟩
 · rw [enter_run he] at hrun
   cases hrun
theorem Base.laid {P : Program} {H : Heap} {w : World} (hg : ∀ k b, hget H k = some b → k < P.globals.size ∧ b.own = false ∧ scB (fun _ => False) b ∧ BRel P ⟨id, fun _ => 0⟩ k b w.heap[k]?) : Base P (fun k => k < P.globals.size) ⟨id, fun _ => 0⟩ P.globals.size (hget H) w [] act0 :=
 ⟨⟨fun k b hb => (hg k b hb).2.2.2, fun k b k' b' hb _ _ ho => (by rw [(hg k b hb).2.1] at ho; cases ho), fun _ _ => rfl⟩, fun _ h => h, fun _ h => h, Nat.le_refl _,
  fun k b hb => ⟨(hg k b hb).1, scB_mono (fun _ h => h.elim) _ (hg k b hb).2.2.1⟩, fun t v hv => by simp [lk] at hv, fun t v hv => by simp [lk] at hv⟩
end Go.Ab

/-
What is known behind a piece of code, as a predicate on the evaluator's states: rules for stepping through code whose values are not known.
-/
namespace Go.Ab
open Go

def ATX (P : Program) (n0 : Nat) (ro : Option Nat) (c : Code) (st : St) (e : Ex) (st' : St) : Prop :=
 ∀ p φ M w0, (∀ g, g < P.globals.size → p g) → (∀ k, p k → k < n0) → (∀ l, ro = some l → p l) → ∀ a w φ1, SRel P (Nx p n0 st.n) φ1 st a w → Step P φ n0 M w0 φ1 st.n (hget st.H) w → c.wpIn (fence φ ro) 0 P (Post P p φ n0 M w0 e st') a w
theorem AT.x {P : Program} {n0 : Nat} {ro : Option Nat} {c : Code} {st st' : St} {e : Ex} (h : AT P ro c st e st') : ATX P n0 ro c st e st' := by
 intro p φ M w0 hg hp hl a w φ1 hS hs
 have := h _ φ1 a w hS (fun l h => .inl (hl l h))
 rw [fence_step hs hp hl] at this
 exact wpIn_mono this fun _ _ _ hh => Post.trans hp hs hh
theorem ATX.at {P : Program} {ro : Option Nat} {c : Code} {st st' : St} {e : Ex} (h : ATX P st.n ro c st e st') : AT P ro c st e st' := fun p φ a w hS hl =>
 h p φ (hget st.H) w hS.base.gl hS.base.lt hl a w φ (hS.mono (fun _ h => .inl h) fun _k hk => Nx.lt hS.base.lt (Nat.le_refl _) hk) (Step.refl hS.base.rel)
def E (P : Program) (n0 : Nat) (ro : Option Nat) (c : Code) (st : St) (K : Ex → St → Prop) : Prop := ∃ e st', ATX P n0 ro c st e st' ∧ K e st'
def seqK (P : Program) (n0 : Nat) (ro : Option Nat) (b : Code) (K : Ex → St → Prop) : Ex → St → Prop
 | .normal, st => E P n0 ro b st K
 | e, st => K e st
def blockK (id : Nat) (K : Ex → St → Prop) : Ex → St → Prop
 | .exit j, st => match Nat.beq j id with
   | true => K .normal st
   | false => K (.exit j) st
 | e, st => K e st
def scopeK (K : Ex → St → Prop) : Ex → St → Prop
 | .goto _, _ => False
 | e, st => K e st
def ATL (P : Program) (n0 : Nat) (ro : Option Nat) (b : Code) (m : Nat) (st : St) (e : Ex) (st' : St) : Prop :=
 ∀ p φ M w0, (∀ g, g < P.globals.size → p g) → (∀ k, p k → k < n0) → (∀ l, ro = some l → p l) → ∀ a w φ1, SRel P (Nx p n0 st.n) φ1 st a w → Step P φ n0 M w0 φ1 st.n (hget st.H) w →
   ∀ Q : Exit → Act → World → Prop, (∀ e2 a' w', Post P p φ n0 M w0 e st' e2 a' w' → Q e2 a' w') → LoopN (fence φ ro) 0 P b Q m a w
def EL (P : Program) (n0 : Nat) (ro : Option Nat) (b : Code) (st : St) (K : Ex → St → Prop) : Prop := ∃ k e st', ATL P n0 ro b k st e st' ∧ K e st'
def loopK (P : Program) (n0 : Nat) (ro : Option Nat) (b : Code) (K : Ex → St → Prop) : Ex → St → Prop
 | .normal, st => EL P n0 ro b st K
 | e, st => K e st
section
variable {P : Program} {n0 : Nat} {ro : Option Nat} {st st' : St} {e : Ex} {K : Ex → St → Prop}
theorem E.mono {K' : Ex → St → Prop} {c : Code} (h : E P n0 ro c st K) (hk : ∀ e st', K e st' → K' e st') : E P n0 ro c st K' := by
 obtain ⟨e, st', h, k⟩ := h
 exact ⟨e, st', h, hk _ _ k⟩
theorem E.at {c : Code} (h : AT P ro c st e st') (k : K e st') : E P n0 ro c st K := ⟨_, _, h.x, k⟩
theorem E.skip (h : K .normal st) : E P n0 ro .skip st K := .at .skip h
theorem E.label {l : Nat} (h : K .normal st) : E P n0 ro (.label l) st K := .at .label h
theorem E.ret (h : K .ret st) : E P n0 ro .ret st K := .at .ret h
theorem E.exit {id : Nat} (h : K (.exit id) st) : E P n0 ro (.exit id) st K := .at .exit h
theorem E.goto {l : Nat} (h : K (.goto l) st) : E P n0 ro (.goto l) st K := .at .goto h
theorem E.seq {a b : Code} (h : E P n0 ro a st (seqK P n0 ro b K)) : E P n0 ro (.seq a b) st K := by
 obtain ⟨e, st1, ha, hk⟩ := h
 cases e with
 | normal =>
   obtain ⟨e2, st2, hb, hk2⟩ := hk
   refine ⟨e2, st2, fun p φ M w0 hg hp hl a w φ1 hS hs => wpIn_seq (wpIn_mono (ha p φ M w0 hg hp hl a w φ1 hS hs) fun e3 a1 w1 hh => ?_), hk2⟩
   obtain ⟨he, φ2, hS2, hs2⟩ := hh
   subst he
   exact hb p φ M w0 hg hp hl a1 w1 φ2 hS2 hs2
 | _ =>
   refine ⟨_, st1, fun p φ M w0 hg hp hl a w φ1 hS hs => wpIn_seq (wpIn_mono (ha p φ M w0 hg hp hl a w φ1 hS hs) fun e3 a1 w1 hh => ?_), hk⟩
   have he := hh.1
   subst he
   exact hh
theorem E.cond {c : Operand} {x y : Code} {t : Bool} (hc : evO P st.fr c = some (.bool t)) (h1 : t = true → E P n0 ro x st K) (h2 : t = false → E P n0 ro y st K) : E P n0 ro (.cond c x y) st K := by
 have go : ∀ z, (if t then x else y) = z → E P n0 ro z st K → E P n0 ro (.cond c x y) st K := fun z hz h => by
   obtain ⟨e, st', h, k⟩ := h
   refine ⟨e, st', fun p φ M w0 hg hp hl a w φ1 hS hs => wpIn_cond (t := t) (by rw [(hS.base.evO hc).1, den]) ?_, k⟩
   rw [hz]
   exact h p φ M w0 hg hp hl a w φ1 hS hs
 cases t with
 | true => exact go x rfl (h1 rfl)
 | false => exact go y rfl (h2 rfl)
theorem E.block {id : Nat} {b : Code} (h : E P n0 ro b st (blockK id K)) : E P n0 ro (.block id b) st K := by
 obtain ⟨e, st', h, k⟩ := h
 cases e with
 | exit j =>
   simp only [blockK] at k
   split at k
   · rename_i hj
     have := Nat.eq_of_beq_eq_true hj
     subst this
     refine ⟨_, st', fun p φ M w0 hg hp hl a w φ1 hS hs => wpIn_block (wpIn_mono (h p φ M w0 hg hp hl a w φ1 hS hs) fun e3 a1 w1 hh => ?_), k⟩
     have he := hh.1
     subst he
     simp only [Ex.to, Exit.inBlock, if_true]
     exact ⟨rfl, hh.2⟩
   · rename_i hj
     refine ⟨_, st', fun p φ M w0 hg hp hl a w φ1 hS hs => wpIn_block (wpIn_mono (h p φ M w0 hg hp hl a w φ1 hS hs) fun e3 a1 w1 hh => ?_), k⟩
     have he := hh.1
     subst he
     have : j ≠ id := fun e => by rw [e, Nat.beq_refl] at hj; cases hj
     simp only [Ex.to, Exit.inBlock, this, if_false]
     exact hh
 | _ =>
   refine ⟨_, st', fun p φ M w0 hg hp hl a w φ1 hS hs => wpIn_block (wpIn_mono (h p φ M w0 hg hp hl a w φ1 hS hs) fun e3 a1 w1 hh => ?_), k⟩
   have he := hh.1
   subst he
   exact hh
theorem E.code {r : Rec} {m : Nat} (hr : RecOk P r m) {c : Code} {e : Ex} {st' : St} (h : r.code ro c st = some (e, st')) (k : K e st') : E P n0 ro c st K := .at (hr.code _ _ _ _ _ h) k
theorem E.loop {b : Code} (h : EL P n0 ro b st K) : E P n0 ro (.loop b) st K := by
 obtain ⟨k, e, st', h, hk⟩ := h
 exact ⟨e, st', fun p φ M w0 hg hp hl a w φ1 hS hs => (h p φ M w0 hg hp hl a w φ1 hS hs _ fun _ _ _ hh => hh).wpIn, hk⟩
theorem EL.step {b : Code} (h : E P n0 ro b { st with fr := trim st.vs st.fr } (loopK P n0 ro b K)) : EL P n0 ro b st K := by
 obtain ⟨e, st1, ha, hk⟩ := h
 have out : e ≠ .normal → K e st1 → EL P n0 ro b st K := fun hne hk => ⟨1, e, st1, fun p φ M w0 hg hp hl a w φ1 hS hs Q hQ => by
   unfold LoopN
   refine wpIn_mono (ha p φ M w0 hg hp hl a w φ1 hS.trim hs) fun e2 a1 w1 hh => ?_
   have he := hh.1
   have hh' := hQ _ _ _ hh
   subst he
   cases e with
   | normal => exact absurd rfl hne
   | _ => exact hh', hk⟩
 cases e with
 | normal =>
   obtain ⟨k, e, st2, hl2, hk2⟩ := hk
   refine ⟨k + 1, e, st2, fun p φ M w0 hg hp hl a w φ1 hS hs Q hQ => ?_, hk2⟩
   unfold LoopN
   refine wpIn_mono (ha p φ M w0 hg hp hl a w φ1 hS.trim hs) fun e2 a1 w1 hh => ?_
   obtain ⟨he, φ2, hs1, hst1⟩ := hh
   subst he
   exact hl2 p φ M w0 hg hp hl a1 w1 φ2 hs1 hst1 Q hQ
 | _ => exact out (by simp) hk
theorem EL.mono {K' : Ex → St → Prop} {c : Code} (h : EL P n0 ro c st K) (hk : ∀ e st', K e st' → K' e st') : EL P n0 ro c st K' := by
 obtain ⟨k, e, st', h, hh⟩ := h
 exact ⟨k, e, st', h, hk _ _ hh⟩
end

/-! ### names put anew -/
mutual
def ren (ρ : Nat → Nat) : Value → Value
 | .pointer (some a) => .pointer (some ⟨ρ a.block, a.off, a.spot⟩)
 | .slice (some a) l c => .slice (some ⟨ρ a.block, a.off, a.spot⟩) l c
 | .map (some r) => .map (some (ρ r))
 | .func (.yield l) a b => .func (.yield (ρ l)) (renL ρ a.toList).toArray (renL ρ b.toList).toArray
 | .func fn a b => .func fn (renL ρ a.toList).toArray (renL ρ b.toList).toArray
 | .iface t v => .iface t (ren ρ v)
 | .agg cs => .agg (renL ρ cs.toList).toArray
 | .tuple vs => .tuple (renL ρ vs.toList).toArray
 | v => v
def renL (ρ : Nat → Nat) : List Value → List Value
 | [] => []
 | v :: vs => ren ρ v :: renL ρ vs
end
theorem renL_eq (ρ : Nat → Nat) : ∀ vs, renL ρ vs = vs.map (ren ρ)
 | [] => rfl
 | v :: vs => by simp [renL, renL_eq ρ vs]
def Rn (p : Nat → Prop) (ρ : Nat → Nat) (φ ψ : Vl) : Prop := ∀ k, p k → ψ.loc k = φ.loc (ρ k) ∧ ψ.cap k = φ.cap (ρ k)
mutual
theorem den_ren {p : Nat → Prop} {ρ : Nat → Nat} {φ ψ : Vl} (h : Rn p ρ φ ψ) : ∀ v, sc p v → den φ (ren ρ v) = den ψ v
 | .bool _, _ | .int _ _, _ | .float _ _, _ | .complex _ _ _, _ | .string _, _ | .nilFunc, _ | .nilIface, _ | .chan _, _ => by simp [den, ren]
 | .pointer none, _ | .slice none _ _, _ | .map none, _ => by simp [den, ren]
 | .pointer (some a), hs => by simp [den, ren, (h _ hs).1]
 | .slice (some ⟨b, o, s⟩) l c, hs => by
   have h1 := h _ hs
   dsimp only at h1
   cases s <;> simp [den, ren, h1]
 | .map (some r), hs => by simp [den, ren, (h _ hs).1]
 | .func (.yield l) a b, hs => by
   simp only [sc] at hs
   simp only [den, ren]
   rw [denL_ren h _ hs.2.1, denL_ren h _ hs.2.2, (h _ hs.1).1]
 | .func (.func f) a b, hs | .func (.method f) a b, hs | .func (.methodOf _ f) a b, hs | .func (.via _ _ f _) a b, hs => by
   simp only [sc] at hs
   simp only [den, ren]
   rw [denL_ren h _ hs.1, denL_ren h _ hs.2]
 | .iface t v, hs => by simp only [den, ren]; rw [den_ren h v hs]
 | .agg cs, hs => by simp only [den, ren]; rw [denL_ren h _ hs]
 | .tuple cs, hs => by simp only [den, ren]; rw [denL_ren h _ hs]
theorem denL_ren {p : Nat → Prop} {ρ : Nat → Nat} {φ ψ : Vl} (h : Rn p ρ φ ψ) : ∀ vs, scL p vs → denL φ (renL ρ vs) = denL ψ vs
 | [], _ => rfl
 | v :: vs, hs => by simp only [denL, renL]; rw [den_ren h v hs.1, denL_ren h vs hs.2]
end
def renB (ρ : Nat → Nat) : Blk → Blk
 | .cells cs t => .cells (renL ρ cs) t
 | .ext cs t sz => .ext (renL ρ cs) t sz
 | .inp o cs => .inp o (renL ρ cs)
 | .row cs sz => .row (renL ρ cs) sz
 | .tab cs => .tab (renL ρ cs)
 | .map es c => .map (es.map fun e => { key := ren ρ e.key, val := ren ρ e.val, born := e.born }) c
 | .miter m s q l => .miter (m.map ρ) s q l
 | b => b
def carried : Blk → Prop
 | .loop .. => False
 | _ => True
theorem renB_own (ρ : Nat → Nat) (b : Blk) : (renB ρ b).own = b.own := by cases b <;> rfl
theorem BRel.ren {P : Program} {p : Nat → Prop} {ρ : Nat → Nat} {φ ψ : Vl} (h : Rn p ρ φ ψ) {k : Nat} (hk : p k) : ∀ {b : Blk} {o : Option Obj}, carried b → scB p b → BRel P φ (ρ k) (renB ρ b) o → BRel P ψ k b o
 | .cells cs t, o, _, hs, hb => by simp only [BRel, renB] at *; rw [denL_ren h _ hs] at hb; exact hb
 | .ext cs t sz, o, _, hs, hb => by
   simp only [BRel, renB] at *; rw [denL_ren h _ hs, ← (h k hk).2] at hb
   obtain ⟨c, h1, h2, h3⟩ := hb
   refine ⟨c, h1, ?_, h3⟩
   rw [← h2, renL_eq, List.length_map]
 | .inp o0 cs, o, _, hs, hb => by
   simp only [BRel, renB] at *; rw [denL_ren h _ hs] at hb
   obtain ⟨c, t, fz, h1, h2⟩ := hb
   exact ⟨c, t, fz, h1, fun i hi => h2 i (by rw [renL_eq, List.length_map]; exact hi)⟩
 | .row cs sz, o, _, hs, hb => by
   simp only [BRel, renB] at *; rw [denL_ren h _ hs, ← (h k hk).2] at hb
   obtain ⟨c, t, fz, h1, h2, h3⟩ := hb
   refine ⟨c, t, fz, h1, ?_, h3⟩
   rw [← h2, renL_eq, List.length_map]
 | .tab cs, o, _, hs, hb => by simp only [BRel, renB] at *; rw [denL_ren h _ hs] at hb; exact hb
 | .map es c, o, _, hs, hb => by
   simp only [BRel, renB] at *
   rw [hb, List.map_map]
   congr 2
   congr 1
   exact List.map_congr_left fun e he => by simp only [denE, Function.comp]; rw [den_ren h _ (hs e he).1, den_ren h _ (hs e he).2]
 | .iter _ _, o, _, _, hb => hb
 | .miter none _ _ _, o, _, _, hb => hb
 | .miter (.some m) _ _ _, o, _, hs, hb => by simp only [BRel, renB, Option.map_some] at *; rw [(h m (hs m rfl)).1]; exact hb
 | .defd, o, _, _, hb => hb
 | .loop .., _, hc, _, _ => hc.elim
mutual
theorem sc_ren {q r : Nat → Prop} {ρ : Nat → Nat} : ∀ v, sc q (ren ρ v) → sc r v → sc (fun k => q (ρ k) ∧ r k) v
 | .bool _, _, _ | .int _ _, _, _ | .float _ _, _, _ | .complex _ _ _, _, _ | .string _, _, _ | .nilFunc, _, _ | .nilIface, _, _ | .chan _, _, _ => by simp [sc]
 | .pointer none, _, _ | .slice none _ _, _, _ | .map none, _, _ => by simp [sc]
 | .pointer (some _), h1, h2 => ⟨h1, h2⟩
 | .slice (some _) _ _, h1, h2 => ⟨h1, h2⟩
 | .map (some _), h1, h2 => ⟨h1, h2⟩
 | .func (.yield l) a b, h1, h2 => by
   simp only [sc, ren] at h1 h2 ⊢
   exact ⟨⟨h1.1, h2.1⟩, scL_ren _ h1.2.1 h2.2.1, scL_ren _ h1.2.2 h2.2.2⟩
 | .func (.func f) a b, h1, h2 | .func (.method f) a b, h1, h2 | .func (.methodOf _ f) a b, h1, h2 | .func (.via _ _ f _) a b, h1, h2 => by
   simp only [sc, ren] at h1 h2 ⊢
   exact ⟨scL_ren _ h1.1 h2.1, scL_ren _ h1.2 h2.2⟩
 | .iface t v, h1, h2 => by simp only [sc, ren] at h1 h2 ⊢; exact sc_ren v h1 h2
 | .agg cs, h1, h2 => by simp only [sc, ren] at h1 h2 ⊢; exact scL_ren _ h1 h2
 | .tuple cs, h1, h2 => by simp only [sc, ren] at h1 h2 ⊢; exact scL_ren _ h1 h2
theorem scL_ren {q r : Nat → Prop} {ρ : Nat → Nat} : ∀ vs, scL q (renL ρ vs) → scL r vs → scL (fun k => q (ρ k) ∧ r k) vs
 | [], _, _ => trivial
 | v :: vs, h1, h2 => by simp only [scL, renL] at h1 h2 ⊢; exact ⟨sc_ren v h1.1 h2.1, scL_ren vs h1.2 h2.2⟩
end
theorem scB_ren {q r : Nat → Prop} {ρ : Nat → Nat} : ∀ b, carried b → scB q (renB ρ b) → scB r b → scB (fun k => q (ρ k) ∧ r k) b
 | .cells cs _t, _, h1, h2 | .ext cs _t _, _, h1, h2 | .inp _ cs, _, h1, h2 | .row cs _, _, h1, h2 | .tab cs, _, h1, h2 => scL_ren cs h1 h2
 | .map _es _c, _, h1, h2 => fun e he => ⟨sc_ren _ (h1 { key := ren ρ e.key, val := ren ρ e.val, born := e.born } (List.mem_map.2 ⟨e, he, rfl⟩)).1 (h2 e he).1, sc_ren _ (h1 { key := ren ρ e.key, val := ren ρ e.val, born := e.born } (List.mem_map.2 ⟨e, he, rfl⟩)).2 (h2 e he).2⟩
 | .iter _ _, _, _, _ | .defd, _, _, _ => trivial
 | .miter _ _ _ _, _, h1, h2 => fun r hr => by subst hr; exact ⟨h1 _ rfl, h2 _ rfl⟩
 | .loop .., hc, _, _ => hc.elim
theorem lk_mem : ∀ (fr : Fr) (t : Nat) (v : Value), lk fr t = some v → (t, v) ∈ fr
 | [], _, _, h => by simp [lk] at h
 | (i, u) :: fr, t, v, h => by
   rw [lk_cons] at h
   by_cases hi : i = t
   · rw [if_pos hi] at h; injection h with h; subst hi h; exact List.mem_cons_self ..
   · rw [if_neg hi] at h; exact List.mem_cons_of_mem _ (lk_mem fr t v h)
theorem hget_mem : ∀ (H : Heap) (k : Nat) (b : Blk), hget H k = some b → (k, b) ∈ H
 | [], _, _, h => by simp [hget] at h
 | (i, u) :: H, k, b, h => by
   rw [hget_cons] at h
   by_cases hi : i = k
   · rw [if_pos hi] at h; injection h with h; subst hi h; exact List.mem_cons_self ..
   · rw [if_neg hi] at h; exact List.mem_cons_of_mem _ (hget_mem H k b h)
structure Renamed (n0 : Nat) (ρ : Nat → Nat) (s s2 : St) : Prop where
 le : n0 ≤ s2.n
 sz : s2.sz = s.sz
 marks : s.marks = [] ∧ s2.marks = []
 low : ∀ k, k < n0 → ρ k = k
 high : ∀ k, n0 ≤ k → k < s2.n → n0 ≤ ρ k ∧ ρ k < s.n
 inj : ∀ j k, j < s2.n → k < s2.n → ρ j = ρ k → j = k
 fr : ∀ x ∈ s2.fr, lk s.fr x.1 = some (ren ρ x.2) ∧ sc (· < s2.n) x.2
 heap : ∀ x ∈ s2.H, x.1 < s2.n ∧ hget s.H (ρ x.1) = some (renB ρ x.2) ∧ scB (· < s2.n) x.2 ∧ carried x.2 ∧ (x.2.own = false → ρ x.1 = x.1 ∧ renB ρ x.2 = x.2)
theorem Renamed.step {P : Program} {n0 : Nat} {ρ : Nat → Nat} {s s2 : St} (h : Renamed n0 ρ s s2) {p : Nat → Prop} {φ φ1 : Vl} {M : Mp} {w0 w : World} {a : Act} (hg : ∀ g, g < P.globals.size → p g) (hp : ∀ k, p k → k < n0)
   (hS : SRel P (Nx p n0 s.n) φ1 s a w) (hs : Step P φ n0 M w0 φ1 s.n (hget s.H) w) : ∃ φ2, SRel P (Nx p n0 s2.n) φ2 s2 a w ∧ Step P φ n0 M w0 φ2 s2.n (hget s2.H) w := by
 let φ2 : Vl := ⟨fun k => if n0 ≤ k ∧ k < s2.n then φ1.loc (ρ k) else φ.loc k, fun k => if n0 ≤ k ∧ k < s2.n then φ1.cap (ρ k) else φ.cap k⟩
 have hlow : ∀ k, k < n0 → φ2.loc k = φ.loc k ∧ φ2.cap k = φ.cap k := fun k hk => by simp only [φ2]; rw [if_neg (by omega), if_neg (by omega)]; exact ⟨rfl, rfl⟩
 have hmid : ∀ k, n0 ≤ k → k < s2.n → φ2.loc k = φ1.loc (ρ k) ∧ φ2.cap k = φ1.cap (ρ k) := fun k h1 h2 => by simp only [φ2]; rw [if_pos ⟨h1, h2⟩, if_pos ⟨h1, h2⟩]; exact ⟨rfl, rfl⟩
 have hrn : Rn (Nx p n0 s2.n) ρ φ1 φ2 := fun k hk => by
   rcases hk with hk | hk
   · have hk0 := hp k hk
     rw [(hlow k hk0).1, (hlow k hk0).2, h.low k hk0, (hs.only k (.inl hk0)).1, (hs.only k (.inl hk0)).2]
     exact ⟨rfl, rfl⟩
   · exact hmid k hk.1 hk.2
 have hnx : ∀ k, Nx p n0 s.n (ρ k) ∧ k < s2.n → Nx p n0 s2.n k := fun k hk => by
   by_cases h0 : k < n0
   · have := hk.1
     rw [h.low k h0] at this
     rcases this with h1 | h1
     · exact .inl h1
     · omega
   · exact .inr ⟨by omega, hk.2⟩
 have hscv : ∀ v, sc (Nx p n0 s.n) (ren ρ v) → sc (· < s2.n) v → sc (Nx p n0 s2.n) v := fun v h1 h2 => sc_mono hnx v (sc_ren v h1 h2)
 have hH : ∀ k b, hget s2.H k = some b → Nx p n0 s2.n k ∧ hget s.H (ρ k) = some (renB ρ b) ∧ scB (Nx p n0 s2.n) b ∧ carried b ∧ (b.own = false → ρ k = k ∧ renB ρ b = b) := fun k b hk => by
   obtain ⟨h1, h2, h3, h4, h5⟩ := h.heap (k, b) (hget_mem _ _ _ hk)
   have hsm := hS.base.sm _ _ h2
   exact ⟨hnx k ⟨hsm.1, h1⟩, h2, scB_mono hnx _ (scB_ren b h4 hsm.2 h3), h4, h5⟩
 have hlt : ∀ k, Nx p n0 s2.n k → k < s2.n := fun k hk => Nx.lt hp h.le hk
 have hrel : HRel P φ2 (hget s2.H) w := by
   refine ⟨fun k b hk => ?_, fun k b k' b' h1 h2 hne ho => ?_, fun g hg' => ?_⟩
   · obtain ⟨hn, h2, h3, h4, _⟩ := hH k b hk
     rw [(hrn k hn).1]
     exact BRel.ren hrn hn h4 h3 (hS.base.rel.blk _ _ h2)
   · obtain ⟨n1, e1, _, _, _⟩ := hH k b h1
     obtain ⟨n2, e2, _, _, _⟩ := hH k' b' h2
     rw [(hrn k n1).1, (hrn k' n2).1]
     exact hS.base.rel.apart _ _ _ _ e1 e2 (fun e => hne (h.inj k k' (hlt k n1) (hlt k' n2) e)) (by rw [renB_own]; exact ho)
   · have := hp g (hg g hg')
     rw [(hlow g this).1, ← (hs.only g (.inl this)).1]
     exact hS.base.rel.glob g hg'
 refine ⟨φ2, ⟨⟨hrel, hlt, fun g hg' => .inl (hg g hg'), ?_, fun k b hk => ⟨(hH k b hk).1, (hH k b hk).2.2.1⟩, fun t v hv => ?_, fun t v hv => ?_⟩, ?_, ?_, ?_⟩, h.le, fun k hk => ?_, hrel, fun k b hk ho => ?_, fun k b hk ho => ?_, hs.frm⟩
 · refine Nat.le_of_not_lt fun hc => ?_
   have := hp _ (hg _ hc)
   have := h.le
   omega
 · obtain ⟨h1, h2⟩ := h.fr (t, v) (lk_mem _ _ _ hv)
   have hsf := hS.base.sf t _ h1
   rw [hS.base.ar t _ h1, den_ren hrn v (hscv v hsf h2)]
 · obtain ⟨h1, h2⟩ := h.fr (t, v) (lk_mem _ _ _ hv)
   exact hscv v (hS.base.sf t _ h1) h2
 · rw [h.sz]; exact hS.size
 · rw [h.marks.2, hS.defs, h.marks.1]; rfl
 · rw [h.marks.2]; simp
 · rcases hk with hk | hk
   · exact hlow k hk
   · simp only [φ2]; rw [if_neg (by omega), if_neg (by omega)]; exact ⟨rfl, rfl⟩
 · obtain ⟨hn, h2, _, _, _⟩ := hH k b hk
   rw [(hrn k hn).1]
   exact hs.new _ _ h2 (by rw [renB_own]; exact ho)
 · obtain ⟨hn, h2, _, _, h5⟩ := hH k b hk
   have := hs.inp _ _ h2 (by rw [renB_own]; exact ho)
   rw [(h5 ho).1, (h5 ho).2] at this
   exact this
def Leads (P : Program) (n0 : Nat) (s s2 : St) : Prop := ∀ p φ M w0, (∀ g, g < P.globals.size → p g) → (∀ k, p k → k < n0) → ∀ a w φ1, SRel P (Nx p n0 s.n) φ1 s a w → Step P φ n0 M w0 φ1 s.n (hget s.H) w →
 ∃ φ2, SRel P (Nx p n0 s2.n) φ2 s2 a w ∧ Step P φ n0 M w0 φ2 s2.n (hget s2.H) w
theorem Leads.refl {P : Program} {n0 : Nat} (s : St) : Leads P n0 s s := fun _ _ _ _ _ _ _ _ φ1 hS hs => ⟨φ1, hS, hs⟩
theorem Leads.trans {P : Program} {n0 : Nat} {s s1 s2 : St} (h1 : Leads P n0 s s1) (h2 : Leads P n0 s1 s2) : Leads P n0 s s2 := fun p φ M w0 hg hp a w φ1 hS hs => by
 obtain ⟨φ2, hS2, hs2⟩ := h1 p φ M w0 hg hp a w φ1 hS hs
 exact h2 p φ M w0 hg hp a w φ2 hS2 hs2
theorem Renamed.leads {P : Program} {n0 : Nat} {ρ : Nat → Nat} {s s2 : St} (h : Renamed n0 ρ s s2) : Leads P n0 s s2 := fun _ _ _ _ hg hp _ _ _ hS hs => h.step hg hp hS hs
theorem Leads.less {P : Program} {n0 : Nat} {s s2 : St} (hn : s2.n = s.n) (hz : s2.sz = s.sz) (hm : s2.marks = s.marks) (hf : ∀ x ∈ s2.fr, lk s.fr x.1 = some x.2) (hh : ∀ x ∈ s2.H, hget s.H x.1 = some x.2) : Leads P n0 s s2 := by
 intro p φ M w0 hg hp a w φ1 hS hs
 have hf' : ∀ t v, lk s2.fr t = some v → lk s.fr t = some v := fun t v h => hf (t, v) (lk_mem _ _ _ h)
 have hh' : ∀ k b, hget s2.H k = some b → hget s.H k = some b := fun k b h => hh (k, b) (hget_mem _ _ _ h)
 rw [hn]
 exact ⟨φ1, ⟨⟨hS.base.rel.sub hh', hn ▸ hS.base.lt, hS.base.gl, hn ▸ hS.base.gn, hS.base.sm.sub hh', fun t v hv => hS.base.ar t v (hf' t v hv), fun t v hv => hS.base.sf t v (hf' t v hv)⟩, hz ▸ hS.size, hm ▸ hS.defs, hm ▸ hS.marks⟩, hs.sub hh'⟩
def rnm (n0 : Nat) (olds : List Nat) (k : Nat) : Nat := if k < n0 then k else olds.getD (k - n0) 0
def oldsOk (n0 n : Nat) : List Nat → Bool
 | [] => true
 | k :: ks => Nat.ble n0 k && Nat.blt k n && !(ks.any (Nat.beq k)) && oldsOk n0 n ks
theorem oldsOk_spec {n0 n : Nat} : ∀ (olds : List Nat), oldsOk n0 n olds = true → (∀ k ∈ olds, n0 ≤ k ∧ k < n) ∧ olds.Nodup
 | [], _ => ⟨by simp, by simp⟩
 | k :: ks, h => by
   simp only [oldsOk, Bool.and_eq_true] at h
   obtain ⟨⟨⟨h1, h2⟩, h3⟩, h4⟩ := h
   have ih := oldsOk_spec ks h4
   refine ⟨fun j hj => ?_, List.nodup_cons.2 ⟨fun hk => ?_, ih.2⟩⟩
   · rcases List.mem_cons.1 hj with rfl | hj
     · exact ⟨Nat.le_of_ble_eq_true h1, (blt_iff _ _).1 h2⟩
     · exact ih.1 j hj
   · have : ks.any (Nat.beq k) = true := List.any_eq_true.2 ⟨k, hk, Nat.beq_refl k⟩
     rw [this] at h3; cases h3
theorem Leads.ren {P : Program} {n0 : Nat} {s s2 : St} (olds : List Nat) (ho : oldsOk n0 s.n olds = true) (hn : s2.n = n0 + olds.length) (hz : s2.sz = s.sz) (hm : s.marks = [] ∧ s2.marks = [])
   (hf : ∀ x ∈ s2.fr, lk s.fr x.1 = some (ren (rnm n0 olds) x.2) ∧ sc (· < s2.n) x.2)
   (hh : ∀ x ∈ s2.H, x.1 < s2.n ∧ hget s.H (rnm n0 olds x.1) = some (renB (rnm n0 olds) x.2) ∧ scB (· < s2.n) x.2 ∧ carried x.2 ∧ (x.2.own = false → rnm n0 olds x.1 = x.1 ∧ renB (rnm n0 olds) x.2 = x.2)) : Leads P n0 s s2 := by
 obtain ⟨hk, hd⟩ := oldsOk_spec olds ho
 have hget : ∀ k, n0 ≤ k → k < s2.n → ∃ h : k - n0 < olds.length, rnm n0 olds k = olds[k - n0] := fun k h1 h2 => by
   refine ⟨by omega, ?_⟩
   unfold rnm
   rw [if_neg (by omega), List.getD_eq_getElem?_getD, List.getElem?_eq_getElem (by omega)]
   rfl
 refine Renamed.leads (ρ := rnm n0 olds) ⟨by omega, hz, hm, fun k h => by unfold rnm; rw [if_pos h], fun k h1 h2 => ?_, fun j k h1 h2 he => ?_, hf, hh⟩
 · obtain ⟨h, e⟩ := hget k h1 h2
   rw [e]; exact hk _ (List.getElem_mem h)
 · by_cases hj : j < n0
   · by_cases hk' : k < n0
     · unfold rnm at he; rw [if_pos hj, if_pos hk'] at he; exact he
     · obtain ⟨h, e⟩ := hget k (by omega) h2
       have := hk _ (List.getElem_mem h)
       rw [← e, ← he] at this
       unfold rnm at this; rw [if_pos hj] at this; omega
   · obtain ⟨h, e⟩ := hget j (by omega) h1
     by_cases hk' : k < n0
     · have := hk _ (List.getElem_mem h)
       rw [← e, he] at this
       unfold rnm at this; rw [if_pos hk'] at this; omega
     · obtain ⟨h', e'⟩ := hget k (by omega) h2
       rw [e, e'] at he
       have hne : ∀ (x y : Nat) (hx : x < olds.length) (hy : y < olds.length), x < y → olds[x] ≠ olds[y] := fun x y hx hy hlt => List.pairwise_iff_getElem.1 hd x y hx hy hlt
       rcases Nat.lt_trichotomy (j - n0) (k - n0) with hlt | heq | hlt
       · exact absurd he (hne _ _ _ _ hlt)
       · omega
       · exact absurd he.symm (hne _ _ _ _ hlt)
theorem E.lead {P : Program} {n0 : Nat} {ro : Option Nat} {c : Code} {K : Ex → St → Prop} {s : St} (s2 : St) (h : Leads P n0 s s2) (k : E P n0 ro c s2 K) : E P n0 ro c s K := by
 obtain ⟨e, st', hx, hk⟩ := k
 refine ⟨e, st', fun p φ M w0 hg hp hl a w φ1 hS hs => ?_, hk⟩
 obtain ⟨φ2, hS2, hs2⟩ := h p φ M w0 hg hp a w φ1 hS hs
 exact hx p φ M w0 hg hp hl a w φ2 hS2 hs2
theorem EL.lead {P : Program} {n0 : Nat} {ro : Option Nat} {c : Code} {K : Ex → St → Prop} {s : St} (s2 : St) (h : Leads P n0 s s2) (k : EL P n0 ro c s2 K) : EL P n0 ro c s K := by
 obtain ⟨m, e, st', hx, hk⟩ := k
 refine ⟨m, e, st', fun p φ M w0 hg hp hl a w φ1 hS hs => ?_, hk⟩
 obtain ⟨φ2, hS2, hs2⟩ := h p φ M w0 hg hp a w φ1 hS hs
 exact hx p φ M w0 hg hp hl a w φ2 hS2 hs2
def indK {α : Type} (P : Program) (n0 : Nat) (S : α → St) (μ : α → Nat) (Good : α → Prop) (a : α) (K : Ex → St → Prop) : Ex → St → Prop
 | .normal, st => ∃ a', Leads P n0 st (S a') ∧ Good a' ∧ μ a' < μ a
 | e, st => K e st
theorem EL.ind {P : Program} {n0 : Nat} {ro : Option Nat} {c : Code} {K : Ex → St → Prop} {st : St} {α : Type} (S : α → St) (μ : α → Nat) (Good : α → Prop) (a0 : α) (hren : Leads P n0 st (S a0)) (h0 : Good a0)
   (htrim : ∀ a, trim (S a).vs (S a).fr = (S a).fr) (step : ∀ a, Good a → E P n0 ro c (S a) (indK P n0 S μ Good a K)) : EL P n0 ro c st K := by
 have main : ∀ (m : Nat) (a : α), μ a < m → Good a → EL P n0 ro c (S a) K := by
   intro m
   induction m with
   | zero => intro a h; omega
   | succ m ih =>
     intro a hm hg
     refine EL.step ?_
     rw [show ({ S a with fr := trim (S a).vs (S a).fr } : St) = S a by rw [htrim]]
     refine (step a hg).mono fun e st' hk => ?_
     cases e with
     | normal =>
       obtain ⟨a', hr, hg', hlt⟩ := hk
       exact EL.lead _ hr (ih a' (by omega) hg')
     | _ => exact hk
 exact EL.lead _ hren (main _ a0 (Nat.lt_succ_self _) h0)

/-! ### contracts -/
theorem AC.assume {P : Program} {f : FuncId} {args : List Value} {H : Heap} {n : Nat} {v : Value} {H' : Heap} {n' : Nat} (h : (∀ k b, hget H k = some b → k < n) → AC P f args H n v H' n') : AC P f args H n v H' n' :=
 fun p φ w hB hsc => h (fun k b hk => hB.lt k (hB.sm k b hk).1) p φ w hB hsc
theorem AC.sub {P : Program} {f : FuncId} {args : List Value} {H : Heap} {n : Nat} {v : Value} {H1 : Heap} {n1 : Nat} {H2 : Heap} (h : AC P f args H n v H1 n1) (hv : af v = true)
   (hs : ∀ k b, hget H2 k = some b → hget H1 k = some b ∧ (hget H k = some b ∨ (k < n ∧ (∃ b0, hget H k = some b0) ∧ scB (fun _ => False) b))) : AC P f args H n v H2 n := by
 intro p φ w hB hsc
 have key : ∀ φ' w', Dn P p φ n (hget H) w v n1 (hget H1) φ' w' → Dn P p φ n (hget H) w v n (hget H2) φ w' := by
   intro φ' w' hd
   obtain ⟨hsm, hscv, hst⟩ := hd
   have hp : ∀ k b, hget H2 k = some b → p k ∧ scB p b := fun k b hk => by
     rcases (hs k b hk).2 with h | ⟨_, ⟨b0, h0⟩, h2⟩
     · exact hB.sm k b h
     · exact ⟨(hB.sm k b0 h0).1, scB_mono (fun _ h => h.elim) _ h2⟩
   have hagr : Agr p φ' φ := fun k hk => ⟨(hst.only k (.inl (hB.lt k hk))).1.symm, (hst.only k (.inl (hB.lt k hk))).2.symm⟩
   refine ⟨fun k b hk => ⟨.inl (hp k b hk).1, scB_mono (fun _ h => .inl h) _ (hp k b hk).2⟩, sc_af _ _ hv, Nat.le_refl _, fun _ _ => ⟨rfl, rfl⟩, ?_, fun k b hk ho => ?_, fun k b hk ho => ?_, hst.frm⟩
   · exact (hst.rel.sub fun k b hk => (hs k b hk).1).congr hp hagr hB.rel.glob
   · rcases hst.new k b (hs k b hk).1 ho with h | ⟨k0, b0, h1, h2, h3⟩
     · exact .inl (by rw [(hagr k (hp k b hk).1).1]; exact h)
     · exact .inr ⟨k0, b0, h1, h2, by rw [(hagr k (hp k b hk).1).1]; exact h3⟩
   · exact hst.inp k b (hs k b hk).1 ho
 rcases h p φ w hB hsc with ⟨h1, h2⟩ | ⟨φ', w', h1, h2⟩
 · refine .inl ⟨h1, CallsIn.mono h2 fun e w' hh => ?_⟩
   obtain ⟨φ', he, hd⟩ := hh
   exact ⟨φ, by rw [he, den_af _ _ hv, den_af _ _ hv], key φ' w' hd⟩
 · exact .inr ⟨φ, w', by rw [h1, den_af _ _ hv, den_af _ _ hv], key φ' w' h2⟩
theorem AC.tidy {P : Program} {f : FuncId} {args : List Value} {H : Heap} {n : Nat} {v : Value} {H1 : Heap} {n1 : Nat} (h : AC P f args H n v H1 n1) (hv : af v = true) (hs : ∀ k b, hget H k = some b → hget H1 k = some b) : AC P f args H n v H n :=
 h.sub hv fun k b hk => ⟨hs k b hk, .inl hk⟩
def pureK (P : Program) (fn : Func) (H : Heap) (v : Value) (e : Ex) (st : St) : Prop :=
 (e = .normal ∨ e = .ret) ∧ st.marks = [] ∧ (∃ vs, resultsA P st.fr st.H fn.results.toList = some vs ∧ one vs = v) ∧ ∀ k b, hget H k = some b → hget st.H k = some b
def newName (j : Nat) (H : Heap) : Bool := H.all fun x => !(Nat.beq x.1 j)
theorem hget_newName {j : Nat} {H : Heap} (h : newName j H = true) : hget H j = none := by
 induction H with
 | nil => rfl
 | cons x H ih =>
   obtain ⟨k, b⟩ := x
   simp only [newName, List.all_cons, Bool.and_eq_true] at h
   rw [hget_cons, if_neg]
   · exact ih h.2
   · intro e; subst e; simp at h
theorem sub_refl (H : Heap) : ∀ k b, hget H k = some b → hget H k = some b := fun _ _ h => h
theorem sub_cons {j : Nat} {H H' : Heap} {x : Blk} (h : newName j H = true) (hs : ∀ k b, hget H k = some b → hget H' k = some b) : ∀ k b, hget H k = some b → hget ((j, x) :: H') k = some b := fun k b hk => by
 rw [hget_cons, if_neg]
 · exact hs k b hk
 · intro e; subst e; rw [hget_newName h] at hk; cases hk
theorem pureK.ret {P : Program} {fn : Func} {H : Heap} {v : Value} {st : St} {vs : List Value} (hm : st.marks = []) (h : resultsA P st.fr st.H fn.results.toList = some vs) (ho : one vs = v) (hs : ∀ k b, hget H k = some b → hget st.H k = some b) : pureK P fn H v .ret st :=
 ⟨.inr rfl, hm, ⟨vs, h, ho⟩, hs⟩
theorem pureK.normal {P : Program} {fn : Func} {H : Heap} {v : Value} {st : St} {vs : List Value} (hm : st.marks = []) (h : resultsA P st.fr st.H fn.results.toList = some vs) (ho : one vs = v) (hs : ∀ k b, hget H k = some b → hget st.H k = some b) : pureK P fn H v .normal st :=
 ⟨.inl rfl, hm, ⟨vs, h, ho⟩, hs⟩
theorem AC.pure {P : Program} {f : FuncId} {fn : Func} {c : Code} {args : List Value} {H : Heap} {n : Nat} {v : Value} (hf : P.funcs[f]? = some fn) (hb : fn.body = some c) (he : enterable P f = true) (hlen : Nat.ble args.length fn.ntmps = true) (vs : List Nat) (hv : af v = true)
   (h : E P n none c { fr := argsFr args 0, sz := fn.ntmps, H, n, marks := [], vs } (pureK P fn H v)) : AC P f args H n v H n := by
 refine AC.assume fun hlt => ?_
 obtain ⟨e, st, hA, hen, hm, ⟨us, hus, hone⟩, hsub⟩ := h
 have hleave : ∃ H1, leaveF P fn args n st = some (v, H1, st.n) ∧ ∀ k b, hget H k = some b → hget H1 k = some b := by
   unfold leaveF
   rw [hm]
   simp only [shutA, hus, hone]
   cases hc : (af v && args.all dropOk) with
   | true => exact ⟨_, rfl, fun k b hk => by rw [hget_dropNew, if_pos (hlt k b hk)]; exact hsub k b hk⟩
   | false => exact ⟨_, rfl, hsub⟩
 obtain ⟨H1, hl, hs⟩ := hleave
 exact (bodyAT_ok hf hb he (Nat.le_of_ble_eq_true hlen) hen (ATX.at hA) hl).tidy hv hs
def outK (P : Program) (fn : Func) (Q : Value → Heap → Prop) (e : Ex) (st : St) : Prop :=
 (e = .normal ∨ e = .ret) ∧ st.marks = [] ∧ ∃ vs, resultsA P st.fr st.H fn.results.toList = some vs ∧ Q (one vs) st.H
theorem outK.ret {P : Program} {fn : Func} {Q : Value → Heap → Prop} {st : St} {vs : List Value} (hm : st.marks = []) (h : resultsA P st.fr st.H fn.results.toList = some vs) (hq : Q (one vs) st.H) : outK P fn Q .ret st := ⟨.inr rfl, hm, vs, h, hq⟩
theorem outK.normal {P : Program} {fn : Func} {Q : Value → Heap → Prop} {st : St} {vs : List Value} (hm : st.marks = []) (h : resultsA P st.fr st.H fn.results.toList = some vs) (hq : Q (one vs) st.H) : outK P fn Q .normal st := ⟨.inl rfl, hm, vs, h, hq⟩
theorem AC.out {P : Program} {f : FuncId} {fn : Func} {c : Code} {args : List Value} {H : Heap} {n : Nat} {Q : Value → Heap → Prop} (hf : P.funcs[f]? = some fn) (hb : fn.body = some c) (he : enterable P f = true) (hlen : Nat.ble args.length fn.ntmps = true) (vs : List Nat)
   (h : E P n none c { fr := argsFr args 0, sz := fn.ntmps, H, n, marks := [], vs } (outK P fn Q)) : ∃ v H1 n1 H2, AC P f args H n v H1 n1 ∧ Q v H2 ∧ (af v = false → H1 = H2) := by
 obtain ⟨e, st, hA, hen, hm, us, hus, hq⟩ := h
 have hleave : ∃ H1, leaveF P fn args n st = some (one us, H1, st.n) ∧ (af (one us) = false → H1 = st.H) := by
   unfold leaveF
   rw [hm]
   simp only [shutA, hus]
   cases hc : (af (one us) && args.all dropOk) with
   | true => exact ⟨_, rfl, fun h => by rw [h] at hc; cases hc⟩
   | false => exact ⟨_, rfl, fun _ => rfl⟩
 obtain ⟨H1, hl, hs⟩ := hleave
 exact ⟨_, H1, _, st.H, bodyAT_ok hf hb he (Nat.le_of_ble_eq_true hlen) hen (ATX.at hA) hl, hq, hs⟩
def freshK (P : Program) (fn : Func) (H : Heap) (n : Nat) (vf : Nat → Value) (blk : Blk) (e : Ex) (st : St) : Prop :=
 (e = .normal ∨ e = .ret) ∧ st.marks = [] ∧ (∃ vs m, resultsA P st.fr st.H fn.results.toList = some vs ∧ one vs = vf m ∧ hget st.H m = some blk ∧ n ≤ m) ∧ ∀ k b, hget H k = some b → hget st.H k = some b
def Names1 (vf : Nat → Value) : Prop := (∀ (φ ψ : Vl) m n, φ.loc m = ψ.loc n → φ.cap m = ψ.cap n → den φ (vf m) = den ψ (vf n)) ∧ (∀ (p : Nat → Prop) n, p n → sc p (vf n))
theorem BRel.move {P : Program} {φ ψ : Vl} {m n : Nat} (hc : ψ.cap n = φ.cap m) : ∀ {b : Blk} {o : Option Obj}, (∃ cs t, b = .cells cs t ∧ afL cs = true) ∨ (∃ cs t sz, b = .ext cs t sz ∧ afL cs = true) → BRel P φ m b o → BRel P ψ n b o
 | _, o, .inl ⟨cs, t, rfl, haf⟩, h => by simp only [BRel] at *; rw [denL_af _ _ haf] at *; exact h
 | _, o, .inr ⟨cs, t, sz, rfl, haf⟩, h => by simp only [BRel] at *; rw [denL_af _ _ haf] at *; rw [hc]; exact h
def plainB (b : Blk) : Prop := (∃ cs t, b = .cells cs t ∧ afL cs = true) ∨ (∃ cs t sz, b = .ext cs t sz ∧ afL cs = true)
theorem plainB.own {b : Blk} (h : plainB b) : b.own = true := by
 rcases h with ⟨_, _, rfl, _⟩ | ⟨_, _, _, rfl, _⟩ <;> rfl
theorem plainB.sc {b : Blk} (h : plainB b) (p : Nat → Prop) : scB p b := by
 rcases h with ⟨_, _, rfl, h⟩ | ⟨_, _, _, rfl, h⟩ <;> exact scL_af _ _ h
def Part (P : Program) (args : List Value) (H : Heap) (n : Nat) (R : List Value → Heap → Nat → Prop) : Prop :=
 ∀ p φ w, Base P p φ n (hget H) w [] act0 → scL p args → ∃ args0 H0 n0 φ0 p0, Base P p0 φ0 n0 (hget H0) w [] act0 ∧ scL p0 args0 ∧ denL φ0 args0 = denL φ args ∧ (∀ k b, hget H0 k = some b → b.own = false) ∧ R args0 H0 n0
theorem AC.map {P : Program} {f : FuncId} {args args0 : List Value} {H H0 : Heap} {n n0 : Nat} {v v0 : Value} {H' H1 : Heap} {n' n1 : Nat} {p p0 : Nat → Prop} {φ φ0 : Vl} {w : World} (h : AC P f args0 H0 n0 v0 H1 n1)
   (hB0 : Base P p0 φ0 n0 (hget H0) w [] act0) (hsc0 : scL p0 args0) (hden : denL φ0 args0 = denL φ args)
   (key : ∀ φ' w', Dn P p0 φ0 n0 (hget H0) w v0 n1 (hget H1) φ' w' → ∃ φ2, den φ' v0 = den φ2 v ∧ Dn P p φ n (hget H) w v n' (hget H') φ2 w') :
   ((callFunc f (denL φ args).toArray).run P w = .ok (.enter f (denL φ args).toArray) w ∧
     CallsIn Fence.wide 0 P f (denL φ args).toArray w fun e w' => ∃ φ', e = .returned (den φ' v) ∧ Dn P p φ n (hget H) w v n' (hget H') φ' w') ∨
   ∃ φ' w', (callFunc f (denL φ args).toArray).run P w = .ok (.value (den φ' v)) w' ∧ Dn P p φ n (hget H) w v n' (hget H') φ' w' := by
 have := h p0 φ0 w hB0 hsc0
 rw [hden] at this
 rcases this with ⟨h1, h2⟩ | ⟨φ', w', h1, h2⟩
 · refine .inl ⟨h1, CallsIn.mono h2 fun e w' hh => ?_⟩
   obtain ⟨φ', he, hd⟩ := hh
   obtain ⟨φ2, e2, hd2⟩ := key φ' w' hd
   exact ⟨φ2, by rw [he, e2], hd2⟩
 · obtain ⟨φ2, e2, hd2⟩ := key φ' w' h2
   exact .inr ⟨φ2, w', by rw [h1, e2], hd2⟩
theorem AC.liftP {P : Program} {f : FuncId} {args : List Value} {H : Heap} {n : Nat} {v : Value} (hv : af v = true) (h : Part P args H n fun args0 H0 n0 => ∃ H1 n1, AC P f args0 H0 n0 v H1 n1) : AC P f args H n v H n := by
 intro p φ w hB hsc
 obtain ⟨args0, H0, n0, φ0, p0, hB0, hsc0, hden, hown, H1, n1, hAC⟩ := h p φ w hB hsc
 refine hAC.map hB0 hsc0 hden fun φ' w' hd => ⟨φ, by rw [den_af _ _ hv, den_af _ _ hv], ?_⟩
 obtain ⟨_, _, hst⟩ := hd
 have hkeep : ∀ b, b < w.heap.size → w'.heap[b]? = w.heap[b]? := fun b hb => hst.frm.keep b hb fun k x hk ho => by rw [hown k x hk] at ho; cases ho
 exact ⟨hB.sm.mono fun _ h => .inl h, sc_af _ _ hv, Nat.le_refl _, fun _ _ => ⟨rfl, rfl⟩, ⟨fun k b hk => by rw [hkeep _ (hB.rel.lt hk)]; exact hB.rel.blk k b hk, hB.rel.apart, hB.rel.glob⟩, fun k b hk ho => .inr ⟨k, b, hk, ho, rfl⟩, fun _ _ hk _ => hk, ⟨hst.frm.os, hst.frm.tape, hst.frm.output, hst.frm.size, fun b hb _ => hkeep b hb⟩⟩
theorem AC.liftF {P : Program} {f : FuncId} {args : List Value} {H : Heap} {n : Nat} {vf : Nat → Value} {blk : Blk} (hN : Names1 vf) (hblk : plainB blk)
   (h : Part P args H n fun args0 H0 n0 => ∃ m H1 n1, n0 ≤ m ∧ hget H1 m = some blk ∧ AC P f args0 H0 n0 (vf m) H1 n1) : AC P f args H n (vf n) ((n, blk) :: H) (n + 1) := by
 intro p φ w hB hsc
 obtain ⟨args0, H0, n0, φ0, p0, hB0, hsc0, hden, hown, m, H1, n1, hm, hg1, hAC⟩ := h p φ w hB hsc
 refine hAC.map hB0 hsc0 hden fun φ' w' hd => ?_
 obtain ⟨hsm, hscv, hst⟩ := hd
 have hat := Vl.at_same φ n (φ'.loc m) (φ'.cap m)
 have hagr : Agr p φ (φ.at n (φ'.loc m) (φ'.cap m)) := agr_at hB.lt
 have hkeep : ∀ b, b < w.heap.size → w'.heap[b]? = w.heap[b]? := fun b hb => hst.frm.keep b hb fun k x hk ho => by rw [hown k x hk] at ho; cases ho
 have hfresh : w.heap.size ≤ φ'.loc m := by
   rcases hst.new m blk hg1 hblk.own with h | ⟨k0, b0, h1, h2, _⟩
   · exact h
   · rw [hown k0 b0 h1] at h2; cases h2
 have hM : ∀ k b, hget ((n, blk) :: H) k = some b → (k = n ∧ b = blk) ∨ (k ≠ n ∧ k < n ∧ hget H k = some b) := fun k b hk => by
   rw [hget_cons] at hk
   by_cases e : n = k
   · rw [if_pos e] at hk; injection hk with hk; exact .inl ⟨e.symm, hk.symm⟩
   · rw [if_neg e] at hk; exact .inr ⟨fun h => e h.symm, hB.lt k (hB.sm k b hk).1, hk⟩
 refine ⟨φ.at n (φ'.loc m) (φ'.cap m), hN.1 _ _ _ _ hat.1.symm hat.2.symm, ?_, hN.2 _ _ (.inr ⟨Nat.le_refl _, Nat.lt_succ_self _⟩), Nat.le_succ _, fun k hk => Vl.at_other φ (by omega), ⟨?_, ?_, ?_⟩, ?_, ?_, ⟨hst.frm.os, hst.frm.tape, hst.frm.output, hst.frm.size, fun b hb _ => hkeep b hb⟩⟩
 · intro k b hk
   rcases hM k b hk with ⟨rfl, rfl⟩ | ⟨_, _, hk⟩
   · exact ⟨.inr ⟨Nat.le_refl _, Nat.lt_succ_self _⟩, hblk.sc _⟩
   · exact ⟨.inl (hB.sm k b hk).1, scB_mono (fun _ h => .inl h) _ (hB.sm k b hk).2⟩
 · intro k b hk
   rcases hM k b hk with ⟨rfl, rfl⟩ | ⟨hne, _, hk⟩
   · rw [hat.1]; exact BRel.move hat.2 hblk (hst.rel.blk m b hg1)
   · rw [(Vl.at_other φ hne).1, hkeep _ (hB.rel.lt hk)]
     exact (hB.rel.blk k b hk).congr hagr (hB.sm k b hk).1 (hB.sm k b hk).2
 · intro k b k' b' h1 h2 hne ho
   rcases hM k b h1 with ⟨e1, _⟩ | ⟨hk, _, g1⟩
   · rcases hM k' b' h2 with ⟨e2, _⟩ | ⟨hk', _, g2⟩
     · exact absurd (e1.trans e2.symm) hne
     · rw [e1, hat.1, (Vl.at_other φ hk').1]
       have := hB.rel.lt g2
       omega
   · rcases hM k' b' h2 with ⟨e2, _⟩ | ⟨hk', _, g2⟩
     · rw [e2, hat.1, (Vl.at_other φ hk).1]
       have := hB.rel.lt g1
       omega
     · rw [(Vl.at_other φ hk).1, (Vl.at_other φ hk').1]
       exact hB.rel.apart k b k' b' g1 g2 hne ho
 · intro g hg
   rw [(Vl.at_other φ (by have := hB.gn; omega)).1]; exact hB.rel.glob g hg
 · intro k b hk ho
   rcases hM k b hk with ⟨rfl, rfl⟩ | ⟨hne, _, hk⟩
   · exact .inl (by rw [hat.1]; exact hfresh)
   · exact .inr ⟨k, b, hk, ho, by rw [(Vl.at_other φ hne).1]⟩
 · intro k b hk ho
   rcases hM k b hk with ⟨rfl, rfl⟩ | ⟨hne, _, hk⟩
   · rw [hblk.own] at ho; cases ho
   · exact hk
/-! ### what a callee sees -/
theorem cellsA_block {P : Program} {φ : Vl} {H : Heap} {w : World} (hr : HRel P φ (hget H) w) {b o m : Nat} {cs : List Value} (h : cellsA H b o m = some cs) (haf : afL cs = true) (ψ : Vl) (k : Nat) : BRel P ψ k (.inp o cs) w.heap[φ.loc b]? := by
 simp only [BRel, denL_af _ _ haf]
 unfold cellsA at h
 split at h
 · rename_i xs t hb
   split at h
   · rename_i hle
     injection h with h
     have := hr.blk b _ hb
     simp only [BRel] at this
     refine ⟨_, _, _, this, fun i hi => ?_⟩
     subst h
     simp only [List.length_take, List.length_drop] at hi
     have hx := congrArg (·[i]?) (denL_af φ _ haf)
     simp only [denL_eq] at hx
     simp only [List.getElem?_toArray, denL_eq]
     rw [← hx]
     simp only [List.getElem?_map, List.getElem?_take, List.getElem?_drop]
     rw [if_pos (by omega)]
   · cases h
 · rename_i xs t sz hb
   split at h
   · rename_i hle
     injection h with h
     obtain ⟨c, e1, e2, e3, _⟩ := hr.blk b _ hb
     refine ⟨_, _, _, e1, fun i hi => ?_⟩
     subst h
     simp only [List.length_take, List.length_drop] at hi
     have hx := congrArg (·[i]?) (denL_af φ _ haf)
     simp only [denL_eq] at hx
     rw [← hx]
     simp only [List.getElem?_map, List.getElem?_take, List.getElem?_drop]
     rw [if_pos (by omega), ← Array.getElem?_toList]
     have := congrArg (·[o + i]?) e2
     simp only [List.getElem?_take, denL_eq, List.getElem?_map] at this
     rw [if_pos (by omega)] at this
     exact this
   · cases h
 · rename_i xs sz hb
   split at h
   · rename_i hle
     injection h with h
     obtain ⟨c, t, fz, e1, e2, e3, _⟩ := hr.blk b _ hb
     refine ⟨_, _, _, e1, fun i hi => ?_⟩
     subst h
     simp only [List.length_take, List.length_drop] at hi
     have hx := congrArg (·[i]?) (denL_af φ _ haf)
     simp only [denL_eq] at hx
     rw [← hx]
     simp only [List.getElem?_map, List.getElem?_take, List.getElem?_drop]
     rw [if_pos (by omega), ← Array.getElem?_toList]
     have := congrArg (·[o + i]?) e2
     simp only [List.getElem?_take, denL_eq, List.getElem?_map] at this
     rw [if_pos (by omega)] at this
     exact this
   · cases h
 · rename_i o' xs hb
   split at h
   · rename_i hle
     injection h with h
     obtain ⟨c, t, fz, e1, e2⟩ := hr.blk b _ hb
     refine ⟨_, _, _, e1, fun i hi => ?_⟩
     subst h
     simp only [List.length_take, List.length_drop] at hi
     have hx := congrArg (·[i]?) (denL_af φ _ haf)
     simp only [denL_eq] at hx
     rw [← hx]
     simp only [List.getElem?_map, List.getElem?_take, List.getElem?_drop]
     rw [if_pos (by omega)]
     have := e2 (o - o' + i) (by omega)
     rw [show o' + (o - o' + i) = o + i by omega] at this
     rw [this, denL_eq, List.getElem?_map]
   · cases h
 · cases h
structure View where
 blk : Nat
 off : Nat
 cs : List Value
def viewH (N : Nat) : List View → Heap → Heap
 | [], G => G
 | v :: vs, G => viewH (N + 1) vs ((N, .inp v.off v.cs) :: G)
def Seen (P : Program) (H : Heap) (G : Heap) : Prop := ∀ x ∈ G, x.1 < P.globals.size ∧ hget H x.1 = some x.2 ∧ x.2.own = false ∧ scB (fun _ => False) x.2
theorem hget_viewH {N : Nat} : ∀ (vs : List View) (G : Heap) (k : Nat) (b : Blk), (∀ x ∈ G, x.1 < N) → hget (viewH N vs G) k = some b → (k < N ∧ hget G k = some b) ∨ ∃ v, vs[k - N]? = some v ∧ N ≤ k ∧ b = .inp v.off v.cs
 | [], G, k, b, hG, h => .inl ⟨hG _ (hget_mem _ _ _ h), h⟩
 | v :: vs, G, k, b, hG, h => by
   have := hget_viewH (N := N + 1) vs ((N, .inp v.off v.cs) :: G) k b (fun x hx => by
     rcases List.mem_cons.1 hx with rfl | hx
     · exact Nat.lt_succ_self _
     · exact Nat.lt_succ_of_lt (hG x hx)) h
   rcases this with ⟨h1, h2⟩ | ⟨u, h1, h2, h3⟩
   · rw [hget_cons] at h2
     by_cases hk : N = k
     · rw [if_pos hk] at h2; injection h2 with h2; subst hk
       exact .inr ⟨v, by simp, Nat.le_refl _, h2.symm⟩
     · rw [if_neg hk] at h2
       exact .inl ⟨by omega, h2⟩
   · refine .inr ⟨u, ?_, by omega, h3⟩
     rw [show k - N = (k - (N + 1)) + 1 by omega]
     simpa using h1
theorem Part.views {P : Program} {args : List Value} {H : Heap} {n : Nat} {R : List Value → Heap → Nat → Prop} (vs : List View) (G : Heap) (hG : Seen P H G) {N : Nat} (hN : P.globals.size = N)
   (hv : ∀ v ∈ vs, (∃ m, cellsA H v.blk v.off m = some v.cs) ∧ afL v.cs = true)
   (h : ∀ φ : Vl, ∃ args0, (∀ φ0 : Vl, (∀ i v, vs[i]? = some v → φ0.loc (N + i) = φ.loc v.blk) → denL φ0 args0 = denL φ args) ∧ scL (· < N + vs.length) args0 ∧ R args0 (viewH N vs G) (N + vs.length)) : Part P args H n R := by
 intro p φ w hB hsc
 obtain ⟨args0, hden, hsc0, hR⟩ := h φ
 let φ0 : Vl := ⟨fun k => if k < N then φ.loc k else match vs[k - N]? with | some v => φ.loc v.blk | none => 0, fun k => if k < N then φ.cap k else 0⟩
 have hl : ∀ i v, vs[i]? = some v → φ0.loc (N + i) = φ.loc v.blk := fun i v hi => by
   simp only [φ0]; rw [if_neg (by omega), Nat.add_sub_cancel_left, hi]
 have hlow : ∀ k, k < N → φ0.loc k = φ.loc k := fun k hk => by simp only [φ0]; rw [if_pos hk]
 have hcap : ∀ k, k < N → φ0.cap k = φ.cap k := fun k hk => by simp only [φ0]; rw [if_pos hk]
 have hH0 : ∀ k b, hget (viewH N vs G) k = some b → (k < N ∧ (k, b) ∈ G) ∨ ∃ v, vs[k - N]? = some v ∧ N ≤ k ∧ b = .inp v.off v.cs := fun k b hk => by
   rcases hget_viewH vs G k b (fun x hx => hN ▸ (hG x hx).1) hk with ⟨h1, h2⟩ | h1
   · exact .inl ⟨h1, hget_mem _ _ _ h2⟩
   · exact .inr h1
 have hown : ∀ k b, hget (viewH N vs G) k = some b → b.own = false := fun k b hk => by
   rcases hH0 k b hk with ⟨_, h2⟩ | ⟨v, _, _, rfl⟩
   · exact (hG _ h2).2.2.1
   · rfl
 refine ⟨args0, viewH N vs G, N + vs.length, φ0, (· < N + vs.length), ⟨⟨fun k b hk => ?_, fun k b k' b' h1 _ _ ho => (by rw [hown k b h1] at ho; cases ho), fun g hg => ?_⟩, fun _ h => h, fun g hg => ?_, (by omega), fun k b hk => ?_, fun t v hv => by simp [lk] at hv, fun t v hv => by simp [lk] at hv⟩, hsc0, hden φ0 hl, hown, hR⟩
 · rcases hH0 k b hk with ⟨h1, h2⟩ | ⟨v, h1, h2, rfl⟩
   · rw [hlow k h1]
     have hg := hG _ h2
     exact (hB.rel.blk k b hg.2.1).congr (p := fun k => k < N) (k := k) (fun j hj => ⟨hlow j hj, hcap j hj⟩) h1 (scB_mono (fun _ h => h.elim) _ hg.2.2.2)
   · have hmem := List.mem_of_getElem? h1
     obtain ⟨⟨m, hc⟩, haf⟩ := hv v hmem
     have := hl _ _ h1
     rw [show N + (k - N) = k by omega] at this
     rw [this]
     exact cellsA_block hB.rel hc haf φ0 k
 · rw [hlow g (hN ▸ hg)]; exact hB.rel.glob g hg
 · rw [← hN]; omega
 · rcases hH0 k b hk with ⟨h1, h2⟩ | ⟨v, h1, h2, rfl⟩
   · exact ⟨by omega, scB_mono (fun _ h => h.elim) _ (hG _ h2).2.2.2⟩
   · have := (List.getElem?_eq_some_iff.1 h1).1
     exact ⟨by omega, scL_af _ _ (hv v (List.mem_of_getElem? h1)).2⟩
theorem Part.plain {P : Program} {args : List Value} {H : Heap} {n : Nat} {R : List Value → Heap → Nat → Prop} (haf : afL args = true) (G : Heap) (hG : Seen P H G) {N : Nat} (hN : P.globals.size = N) (h : R args G N) : Part P args H n R :=
 Part.views [] G hG hN (by simp) fun φ => ⟨args, fun φ0 _ => by rw [denL_af _ _ haf, denL_af _ _ haf], scL_af _ _ haf, h⟩
theorem Part.one {P : Program} {H : Heap} {n : Nat} {R : List Value → Heap → Nat → Prop} (mk : Value → List Value) (hmk : ∀ φ φ0 s s0, den φ0 s0 = den φ s → denL φ0 (mk s0) = denL φ (mk s)) (hms : ∀ (p : Nat → Prop) s, sc p s → scL p (mk s)) {a : Addr} {len cap m : Nat} {cs : List Value}
   (hf : flat a = true) (hc : cellsA H a.block a.off m = some cs) (haf : afL cs = true) (G : Heap) (hG : Seen P H G) {N : Nat} (hN : P.globals.size = N) (h : ∀ c, R (mk (.slice (some ⟨N, a.off, none⟩) len c)) ((N, .inp a.off cs) :: G) (N + 1)) : Part P (mk (.slice (some a) len cap)) H n R :=
 Part.views [⟨a.block, a.off, cs⟩] G hG hN (fun v hv => by rw [List.mem_singleton] at hv; subst hv; exact ⟨⟨m, hc⟩, haf⟩) fun φ => by
   obtain ⟨c', hd⟩ := den_flat φ (ad := a) (l := len) (c := cap) hf
   refine ⟨_, fun φ0 hl => hmk φ φ0 _ _ ?_, hms _ _ (Nat.lt_succ_self _), h c'⟩
   have := hl 0 _ rfl
   simp only [Nat.add_zero] at this
   rw [hd]; simp only [den, this]
theorem Part.two {P : Program} {H : Heap} {n : Nat} {R : List Value → Heap → Nat → Prop} (mk : Value → Value → List Value) (hmk : ∀ φ φ0 s s0 u u0, den φ0 s0 = den φ s → den φ0 u0 = den φ u → denL φ0 (mk s0 u0) = denL φ (mk s u)) (hms : ∀ (p : Nat → Prop) s u, sc p s → sc p u → scL p (mk s u)) {a a2 : Addr} {len cap m len2 cap2 m2 : Nat} {cs cs2 : List Value}
   (hf : flat a = true) (hc : cellsA H a.block a.off m = some cs) (haf : afL cs = true) (hf2 : flat a2 = true) (hc2 : cellsA H a2.block a2.off m2 = some cs2) (haf2 : afL cs2 = true) (G : Heap) (hG : Seen P H G) {N : Nat} (hN : P.globals.size = N)
   (h : ∀ c c2, R (mk (.slice (some ⟨N, a.off, none⟩) len c) (.slice (some ⟨N + 1, a2.off, none⟩) len2 c2)) ((N + 1, .inp a2.off cs2) :: (N, .inp a.off cs) :: G) (N + 2)) : Part P (mk (.slice (some a) len cap) (.slice (some a2) len2 cap2)) H n R :=
 Part.views [⟨a.block, a.off, cs⟩, ⟨a2.block, a2.off, cs2⟩] G hG hN (fun v hv => by rcases List.mem_cons.1 hv with rfl | hv; exact ⟨⟨m, hc⟩, haf⟩; rw [List.mem_singleton] at hv; subst hv; exact ⟨⟨m2, hc2⟩, haf2⟩) fun φ => by
   obtain ⟨c', hd⟩ := den_flat φ (ad := a) (l := len) (c := cap) hf
   obtain ⟨c2', hd2⟩ := den_flat φ (ad := a2) (l := len2) (c := cap2) hf2
   refine ⟨_, fun φ0 hl => hmk φ φ0 _ _ _ _ ?_ ?_, hms _ (.slice (some ⟨N, a.off, none⟩) len c') (.slice (some ⟨N + 1, a2.off, none⟩) len2 c2') (show N < N + 2 by omega) (show N + 1 < N + 2 by omega), h c' c2'⟩
   · have := hl 0 _ rfl
     simp only [Nat.add_zero] at this
     rw [hd]; simp only [den, this]
   · have := hl 1 _ rfl
     rw [hd2]; simp only [den, this]
theorem AC.body {P : Program} {f : FuncId} {fn : Func} {c : Code} {args : List Value} {H : Heap} {n : Nat} {v : Value} {H' : Heap} {n' : Nat} (hf : P.funcs[f]? = some fn) (hb : fn.body = some c) (he : enterable P f = true) (hlen : Nat.ble args.length fn.ntmps = true) (vs : List Nat)
   (h : E P n none c { fr := argsFr args 0, sz := fn.ntmps, H, n, marks := [], vs } fun e st => (e = .normal ∨ e = .ret) ∧ leaveF P fn args n st = some (v, H', n')) : AC P f args H n v H' n' := by
 obtain ⟨e, st, hA, hen, hl⟩ := h
 exact bodyAT_ok hf hb he (Nat.le_of_ble_eq_true hlen) hen (ATX.at hA) hl
end Go.Ab

/-
The evaluator's equations, as they are used for rewriting where values are not known.
-/
namespace Go.Ab
open Go

/-! ### regions -/
section
variable {P : Program} {n0 : Nat} {ro : Option Nat} {st st' : St} {K : Ex → St → Prop} {r : Rec} {m : Nat}
theorem E.reg (hr : RecOk P r m) {id : Nat} {ops : Array Oper} (h : opsF P r ops ops.toList st = some st') (k : K .normal st') : E P n0 ro (.region id ops false) st K :=
 .at (.ops hr h) k
theorem E.draw (hm : P.follows .mixedOrders = true) (hr : RecOk P r m) {id : Nat} {ops : Array Oper} (hd : drawOk ops (Region.before ops) = true) (h : opsD P r ops (Region.before ops) st.n ops.toList 0 [] st = some st') (k : K .normal st') : E P n0 ro (.region id ops true) st K :=
 .at (drawSound hm r m hr ops id ro st st' hd h) k
end

/-! ### regions whose order is open: operations that only look, and those that stand alone -/
def readS (P : Program) (n0 : Nat) (o : Oper) (fr : Fr) (st : St) (see : List Nat) : Option St :=
 match see.all (Nat.blt · n0) with
 | true => match opA P o fr (readA see st.H) st.n with
   | some (v, _, _) => some { st with fr := putA st.fr o.dst v }
   | none => none
 | false => none
def pureS (P : Program) (o : Oper) (fr : Fr) (st : St) : Option St :=
 match opA P o fr [] st.n with
 | some (v, _, k) => match Nat.beq k st.n with
   | true => some { st with fr := putA st.fr o.dst v }
   | false => none
 | none => none
def aloneS (P : Program) (r : Rec) (o : Oper) (fr : Fr) (st : St) : Option St :=
 match runOp P r o { st with fr := fr } with
 | some (v, H, k) => match Nat.ble st.n k && namesOk k H with
   | true => some { st with fr := putA st.fr o.dst v, H := H, n := k }
   | false => none
 | none => none
def doneS (P : Program) (r : Rec) (al : List Nat) (n0 i : Nat) (o : Oper) (fr : Fr) (st : St) : Option St :=
 match isPure o.op with
 | true => pureS P o fr st
 | false => match isRead o.op with
   | true => match footA P fr o.op with
     | some f => readS P n0 o fr st f.see
     | none => none
   | false => match memN al i with
     | true => aloneS P r o fr st
     | false => none
def oneS (P : Program) (r : Rec) (ops : Array Oper) (al : List Nat) (n0 i : Nat) (o : Oper) (st : St) : Option St :=
 match dstOk st.sz o.dst with
 | false => none
 | true => match wantedA ops (trim (lookTmps ops o) st.fr) o with
   | none => none
   | some false => some { st with fr := putA st.fr o.dst undefV }
   | some true => doneS P r al n0 i o (trim (lookTmps ops o) st.fr) st
def opsS (P : Program) (r : Rec) (ops : Array Oper) (al : List Nat) (n0 : Nat) : List Oper → Nat → St → Option St
 | [], _, st => some st
 | o :: os, i, st => match oneS P r ops al n0 i o st with
   | some st' => opsS P r ops al n0 os (i + 1) st'
   | none => none
def alOk (ops : Array Oper) (bef : Array Nat) (al : List Nat) : Bool := al.all fun i => aloneA bef i ops.toList 0
theorem readS_ok {P : Program} {bef : Array Nat} {n0 i : Nat} {ds : List Done} (hds : ∀ d ∈ ds, d.put = []) {o : Oper} {see : List Nat} {fr : Fr} {st st' : St} (h : readS P n0 o fr st see = some st') : ∃ ds', readOp P bef n0 i ds o see fr st = some (st', ds') ∧ ∀ d ∈ ds', d.put = [] := by
 unfold readS at h
 split at h
 · rename_i hs
   have hf : footOk bef n0 i ds see [] = true := by
     unfold footOk
     simp only [Bool.and_eq_true]
     refine ⟨⟨List.all_eq_true.2 fun d hd => ?_, List.all_eq_true.2 fun k hk => ?_⟩, rfl⟩
     · simp [disj, hds d hd]
     · have := List.all_eq_true.1 hs k hk
       simp [visA, this]
   unfold readOp
   rw [hf]
   simp only
   split at h
   · rename_i v a b hv
     injection h with h; subst h
     rw [hv]
     exact ⟨_, rfl, fun d hd => by
       rcases List.mem_cons.1 hd with rfl | hd
       · rfl
       · exact hds d hd⟩
   · cases h
 · cases h
theorem opsS_ok {P : Program} {r : Rec} {ops : Array Oper} {bef : Array Nat} {al : List Nat} (hal : alOk ops bef al = true) {n0 : Nat} : ∀ (os : List Oper) (i : Nat) (st st' : St) (ds : List Done), (∀ d ∈ ds, d.put = []) → opsS P r ops al n0 os i st = some st' → opsD P r ops bef n0 os i ds st = some st'
 | [], _, st, st', ds, _, h => h
 | o :: os, i, st, st', ds, hds, h => by
   simp only [opsS] at h
   split at h
   · rename_i st1 h1
     have key : ∃ ds', oneD P r ops bef n0 i ds o st = some (st1, ds') ∧ ∀ d ∈ ds', d.put = [] := by
       unfold oneS at h1
       unfold oneD
       split at h1
       · cases h1
       · rename_i hd
         rw [hd]
         simp only
         split at h1
         · cases h1
         · rename_i hw
           rw [hw]
           injection h1 with h1; subst h1
           exact ⟨ds, rfl, hds⟩
         · rename_i hw
           rw [hw]
           simp only
           unfold doneS at h1
           unfold doneD
           split at h1
           · rename_i hp
             rw [hp]
             simp only
             unfold pureS at h1
             unfold pureOp
             split at h1
             · rename_i v a k hv
               rw [hv]
               simp only
               split at h1
               · rename_i hk
                 rw [hk]
                 injection h1 with h1; subst h1
                 exact ⟨ds, rfl, hds⟩
               · cases h1
             · cases h1
           · rename_i hp
             rw [hp]
             simp only
             split at h1
             · rename_i hrd
               rw [hrd]
               simp only
               split at h1
               · rename_i f hf
                 rw [hf]
                 exact readS_ok hds h1
               · cases h1
             · rename_i hrd
               rw [hrd]
               simp only
               split at h1
               · rename_i hm
                 have ha : aloneA bef i ops.toList 0 = true := List.all_eq_true.1 hal i ((memN_iff _ _).1 hm)
                 rw [ha]
                 simp only
                 unfold aloneS at h1
                 unfold aloneOp
                 split at h1
                 · rename_i v H k hv
                   rw [hv]
                   simp only
                   split at h1
                   · rename_i hk
                     rw [hk]
                     injection h1 with h1; subst h1
                     exact ⟨_, rfl, fun d hd => by
                       rcases List.mem_cons.1 hd with rfl | hd
                       · rfl
                       · exact hds d hd⟩
                   · cases h1
                 · cases h1
               · cases h1
     obtain ⟨ds', h2, hds'⟩ := key
     simp only [opsD, h2]
     exact opsS_ok hal os (i + 1) st1 st' ds' hds' h
   · cases h
section
variable {P : Program} {n0 : Nat} {ro : Option Nat} {st st' : St} {K : Ex → St → Prop} {r : Rec} {m : Nat}
theorem E.drawS (hm : P.follows .mixedOrders = true) (hr : RecOk P r m) (al : List Nat) {id : Nat} {ops : Array Oper} (hd : (drawOk ops (Region.before ops) && alOk ops (Region.before ops) al) = true) (h : opsS P r ops al st.n ops.toList 0 st = some st') (k : K .normal st') : E P n0 ro (.region id ops true) st K := by
 rw [Bool.and_eq_true] at hd
 exact E.draw hm hr hd.1 (opsS_ok hd.2 _ _ _ _ [] (by simp) h) k
theorem E.drawK (hm : P.follows .mixedOrders = true) (hr : RecOk P r m) {id : Nat} {ops : Array Oper} (_h1 : opsF P r ops ops.toList st = some st') (hd : drawOk ops (Region.before ops) = true) (h : opsD P r ops (Region.before ops) st.n ops.toList 0 [] st = some st') (k : K .normal st') : E P n0 ro (.region id ops true) st K :=
 E.draw hm hr hd h k
end

/-! ### numbers -/
@[simp] theorem blt_dec (a b : Nat) : Nat.blt a b = decide (a < b) := by
 by_cases h : a < b
 · rw [(blt_iff _ _).2 h]; simp [h]
 · cases hb : Nat.blt a b with
   | true => exact absurd ((blt_iff _ _).1 hb) h
   | false => simp [h]
@[simp] theorem ble_dec (a b : Nat) : Nat.ble a b = decide (a ≤ b) := by
 rcases ble_cases a b with ⟨h, h'⟩ | ⟨h, h'⟩
 · rw [h]; simp [h']
 · rw [h]; exact (decide_eq_false (by omega)).symm
@[simp] theorem beq_dec (a b : Nat) : Nat.beq a b = decide (a = b) := by
 rcases beq_cases a b with ⟨h, h'⟩ | ⟨h, h'⟩
 · rw [h]; simp [h']
 · rw [h]; simp [h']
/-! ### slots -/
@[simp] theorem lk_nil (i : Nat) : lk [] i = none := rfl
@[simp] theorem hget_nil (i : Nat) : hget [] i = none := rfl
attribute [simp] lk_cons hget_cons
section
variable {P : Program} {fr : Fr} {H : Heap} {n : Nat}
@[simp] theorem evO_tmp (t : Nat) : evO P fr (.tmp t) = lk fr t := rfl
@[simp] theorem evO_func (f : FuncId) : evO P fr (.func f) = some (.func (.func f) #[] #[]) := rfl
@[simp] theorem evO_int (k : IntKind) (i : Int) : evO P fr (.const (.int k i)) = some (.int k i) := rfl
@[simp] theorem evO_bool (b : Bool) : evO P fr (.const (.bool b)) = some (.bool b) := rfl
@[simp] theorem evO_string (b : ByteArray) : evO P fr (.const (.string b)) = some (.string b) := rfl
@[simp] theorem evO_float (k : FloatKind) (b : Nat) : evO P fr (.const (.float k b)) = some (.float k b) := rfl
@[simp] theorem evO_nilSlice (l c : Nat) : evO P fr (.const (.slice none l c)) = some (.slice none l c) := rfl
@[simp] theorem evO_nilFunc : evO P fr (.const .nilFunc) = some .nilFunc := rfl
@[simp] theorem evO_nilIface : evO P fr (.const .nilIface) = some .nilIface := rfl
@[simp] theorem evO_agg (cs : Array Value) : evO P fr (.const (.agg cs)) = if afL cs.toList then some (.agg cs) else none := by
 simp only [evO, afq, af]
 cases afL cs.toList <;> rfl
theorem evO_global (g : Nat) : evO P fr (.global g) = if g < P.globals.size then some (.pointer (some ⟨g, 0, none⟩)) else none := by
 simp only [evO]
 by_cases h : g < P.globals.size
 · rw [(blt_iff _ _).2 h, if_pos h]
 · rw [if_neg h]
   cases hb : Nat.blt g P.globals.size with
   | true => exact absurd ((blt_iff _ _).1 hb) h
   | false => rfl
@[simp] theorem evOs_nil : evOs P fr [] = some [] := rfl
@[simp] theorem evOs_cons (x : Operand) (xs : List Operand) : evOs P fr (x :: xs) = match evO P fr x with
   | none => none
   | some v => match evOs P fr xs with
     | none => none
     | some vs => some (v :: vs) := rfl
@[simp] theorem evPs_nil : evPs P fr [] = some [] := rfl
@[simp] theorem evPs_cons (i : Nat) (x : Operand) (xs : List (Nat × Operand)) : evPs P fr ((i, x) :: xs) = match evO P fr x with
   | none => none
   | some v => match evPs P fr xs with
     | none => none
     | some vs => some ((i, v) :: vs) := rfl
@[simp] theorem af_int (k : IntKind) (i : Int) : af (.int k i) = true := rfl
@[simp] theorem af_bool (b : Bool) : af (.bool b) = true := rfl
@[simp] theorem af_string (s : ByteArray) : af (.string s) = true := rfl
@[simp] theorem af_float (k : FloatKind) (b : Nat) : af (.float k b) = true := rfl
@[simp] theorem af_nilSlice (l c : Nat) : af (.slice none l c) = true := rfl
@[simp] theorem af_slice (a : Addr) (l c : Nat) : af (.slice (some a) l c) = false := rfl
@[simp] theorem af_pointer (a : Addr) : af (.pointer (some a)) = false := rfl
@[simp] theorem af_agg (cs : Array Value) : af (.agg cs) = afL cs.toList := rfl
@[simp] theorem af_tuple (cs : Array Value) : af (.tuple cs) = afL cs.toList := rfl
@[simp] theorem af_nilFunc : af .nilFunc = true := rfl
@[simp] theorem af_nilIface : af .nilIface = true := rfl
@[simp] theorem af_func (f : FuncId) (a b : Array Value) : af (.func (.func f) a b) = (afL a.toList && afL b.toList) := rfl
@[simp] theorem afL_nil : afL [] = true := rfl
@[simp] theorem afL_cons (v : Value) (vs : List Value) : afL (v :: vs) = (af v && afL vs) := rfl
@[simp] theorem afq_af (v : Value) : afq v = af v := afq_eq v
theorem afL_ints (k : IntKind) : ∀ l : List Int, afL (l.map (Value.int k)) = true
 | [] => rfl
 | _ :: l => by simp [afL_ints k l]
/-! ### operations -/
@[simp] theorem dstOk_none (s : Nat) : dstOk s none = true := rfl
@[simp] theorem dstOk_some (s d : Nat) : dstOk s (some d) = decide (d < s) := by
 show Nat.blt d s = _
 by_cases h : d < s
 · rw [(blt_iff _ _).2 h]; simp [h]
 · cases hb : Nat.blt d s with
   | true => exact absurd ((blt_iff _ _).1 hb) h
   | false => exact (decide_eq_false h).symm
@[simp] theorem putA_some (d : Tmp) (v : Value) : putA fr (some d) v = (d, v) :: fr := rfl
@[simp] theorem putA_none (v : Value) : putA fr none v = fr := rfl
theorem opsF_nil (r : Rec) (ops : Array Oper) (st : St) : opsF P r ops [] st = some st := rfl
theorem opsF_cons (r : Rec) (ops : Array Oper) (o : Oper) (os : List Oper) (st : St) : opsF P r ops (o :: os) st = match oneF P r ops o st with
   | some st' => opsF P r ops os st'
   | none => none := rfl
theorem oneF_plain (r : Rec) (ops : Array Oper) (dst : Option Tmp) (op : Op) (t : TypeId) (ps : String) (af : Array Edge) (st : St) : oneF P r ops ⟨dst, op, t, ps, af, none⟩ st = match dstOk st.sz dst with
   | false => none
   | true => match runOp P r ⟨dst, op, t, ps, af, none⟩ st with
     | some (v, H, k) => some { fr := putA st.fr dst v, sz := st.sz, H := H, n := k, marks := st.marks, vs := st.vs }
     | none => none := rfl
theorem oneF_guard (r : Rec) (ops : Array Oper) (dst : Option Tmp) (op : Op) (t : TypeId) (ps : String) (af : Array Edge) (j : Nat) (want : Bool) (st : St) : oneF P r ops ⟨dst, op, t, ps, af, some (j, want)⟩ st = match dstOk st.sz dst with
   | false => none
   | true => match (yieldedA ops st.fr j).map fun y => y == some want with
     | none => none
     | some false => some { st with fr := putA st.fr dst undefV }
     | some true => match runOp P r ⟨dst, op, t, ps, af, some (j, want)⟩ st with
       | some (v, H, k) => some { fr := putA st.fr dst v, sz := st.sz, H := H, n := k, marks := st.marks, vs := st.vs }
       | none => none := rfl
def intBin (op : BinOp) (k : IntKind) (a b : Int) : Option Value := match op with
 | .add => some (.int k (k.wrap (a + b)))
 | .sub => some (.int k (k.wrap (a - b)))
 | .mul => some (.int k (k.wrap (a * b)))
 | .quo => if b = 0 then none else some (.int k (k.wrap (a.tdiv b)))
 | .rem => if b = 0 then none else some (.int k (a.tmod b))
 | .eql => some (.bool (decide (a = b)))
 | .neq => some (.bool (!decide (a = b)))
 | .lss => some (.bool (decide (a < b)))
 | .leq => some (.bool (decide (a ≤ b)))
 | .gtr => some (.bool (decide (b < a)))
 | .geq => some (.bool (decide (b ≤ a)))
 | .shl => some (.int k (k.wrap a))
 | .shr => none
 | .and | .or | .xor | .andNot => none
def binV (P : Program) (op : BinOp) (t : TypeId) (x y : Operand) (a b : Value) (H : Heap) (n : Nat) : R :=
 if afq a && afq b then (runP P (do eqGuard op t x y a b; binOp op t a b)).bind fun v => if afq v then some (v, H, n) else none
 else match op, nilTypeA P t a, nilEqA a b with
   | .eql, true, some r => some (.bool r, H, n)
   | .neq, true, some r => some (.bool (!r), H, n)
   | _, _, _ => none
variable {op : BinOp} {t : TypeId} {x y : Operand} {a b : Int}
@[simp] theorem opBinop_eq : opBinop P op t x y fr H n = match evO P fr x, evO P fr y with
 | some a, some b => binV P op t x y a b H n
 | _, _ => none := rfl
@[simp] theorem bin_add : binV P .add t x y (.int .i64 a) (.int .i64 b) H n = some (.int .i64 (IntKind.i64.wrap (a + b)), H, n) := rfl
@[simp] theorem bin_sub : binV P .sub t x y (.int .i64 a) (.int .i64 b) H n = some (.int .i64 (IntKind.i64.wrap (a - b)), H, n) := rfl
@[simp] theorem bin_mul : binV P .mul t x y (.int .i64 a) (.int .i64 b) H n = some (.int .i64 (IntKind.i64.wrap (a * b)), H, n) := rfl
@[simp] theorem bin_lss : binV P .lss t x y (.int .i64 a) (.int .i64 b) H n = some (.bool (decide (a < b)), H, n) := rfl
@[simp] theorem bin_leq : binV P .leq t x y (.int .i64 a) (.int .i64 b) H n = some (.bool (decide (a ≤ b)), H, n) := rfl
@[simp] theorem bin_gtr : binV P .gtr t x y (.int .i64 a) (.int .i64 b) H n = some (.bool (decide (b < a)), H, n) := rfl
@[simp] theorem bin_geq : binV P .geq t x y (.int .i64 a) (.int .i64 b) H n = some (.bool (decide (b ≤ a)), H, n) := rfl
@[simp] theorem bin_eql : binV P .eql t x y (.int .i64 a) (.int .i64 b) H n = some (.bool (decide (a = b)), H, n) := rfl
@[simp] theorem bin_neq : binV P .neq t x y (.int .i64 a) (.int .i64 b) H n = some (.bool (!decide (a = b)), H, n) := rfl
theorem bin_quo (hb : b ≠ 0) : binV P .quo t x y (.int .i64 a) (.int .i64 b) H n = some (.int .i64 (IntKind.i64.wrap (a.tdiv b)), H, n) := by
 have : runP P (do eqGuard .quo t x y (.int .i64 a) (.int .i64 b); binOp .quo t (.int .i64 a) (.int .i64 b)) = some (.int .i64 (IntKind.i64.wrap (a.tdiv b))) := by
   show runP P (if b = 0 then _ else _) = _
   rw [if_neg hb]; rfl
 simp [binV, this]
theorem bin_rem (hb : b ≠ 0) : binV P .rem t x y (.int .i64 a) (.int .i64 b) H n = some (.int .i64 (a.tmod b), H, n) := by
 have : runP P (do eqGuard .rem t x y (.int .i64 a) (.int .i64 b); binOp .rem t (.int .i64 a) (.int .i64 b)) = some (.int .i64 (a.tmod b)) := by
   show runP P (if b = 0 then _ else _) = _
   rw [if_neg hb]; rfl
 simp [binV, this]
@[simp] theorem un_not {_b : Bool} : opUnop P .not x fr H n = match evO P fr x with
   | some a => if afq a then (runP P (Op.unary .not a)).bind fun v => if afq v then some (v, H, n) else none else none
   | none => none := rfl
@[simp] theorem runP_not {b : Bool} : runP P (Op.unary .not (.bool b)) = some (.bool !b) := rfl
@[simp] theorem runP_neg : runP P (Op.unary .neg (.int .i64 a)) = some (.int .i64 (IntKind.i64.wrap (0 - a))) := rfl
end

/-! ### an operation by its kind -/
section
variable {P : Program} {r : Rec} {dst : Option Tmp} {ty : TypeId} {ps : String} {af : Array Edge} {g : Option (Nat × Bool)} {st : St} {x y z : Operand} {t : TypeId}
@[simp] theorem run_move : runOp P r ⟨dst, .move x, ty, ps, af, g⟩ st = match evO P st.fr x with | some v => some (v, st.H, st.n) | none => none := by
 show opMove P x st.fr st.H st.n = _; unfold opMove; cases evO P st.fr x <;> rfl
@[simp] theorem run_assign : runOp P r ⟨dst, .assign x, ty, ps, af, g⟩ st = match evO P st.fr x with | some v => some (v, st.H, st.n) | none => none := by
 show opMove P x st.fr st.H st.n = _; unfold opMove; cases evO P st.fr x <;> rfl
@[simp] theorem run_pick : runOp P r ⟨dst, .pick x y z, ty, ps, af, g⟩ st = match evO P st.fr x with
   | some (.bool true) => (evO P st.fr y).map fun v => (v, st.H, st.n)
   | some (.bool false) => (evO P st.fr z).map fun v => (v, st.H, st.n)
   | _ => none := rfl
@[simp] theorem run_box : runOp P r ⟨dst, .box t x, ty, ps, af, g⟩ st = match evO P st.fr x with
   | some v => some (.pointer (some ⟨st.n, 0, none⟩), (st.n, .cells v.cells.toList t) :: st.H, st.n + 1)
   | none => none := rfl
@[simp] theorem run_alloc : runOp P r ⟨dst, .alloc t, ty, ps, af, g⟩ st = match zeroA P t with
   | some z => if afL z.cells.toList then some (.pointer (some ⟨st.n, 0, none⟩), (st.n, .cells z.cells.toList t) :: st.H, st.n + 1) else none
   | none => none := rfl
@[simp] theorem run_load : runOp P r ⟨dst, .load t x, ty, ps, af, g⟩ st = match evO P st.fr x with
   | some v => (loadA P t st.H v).map fun r => (r, st.H, st.n)
   | none => none := rfl
@[simp] theorem run_store : runOp P r ⟨dst, .store t x y, ty, ps, af, g⟩ st = match evO P st.fr x, evO P st.fr y with
   | some (.pointer (some a)), some v => match szA P t with
     | some sz => if v.cells.size = sz && oneL v.cells.toList then (storeA st.H a.block a.off v.cells.toList).map fun H' => (undefV, H', st.n) else none
     | none => none
   | _, _ => none := rfl
@[simp] theorem run_binOp {op : BinOp} {yt : TypeId} : runOp P r ⟨dst, .binOp op t x y yt, ty, ps, af, g⟩ st = match evO P st.fr x, evO P st.fr y with
 | some a, some b => binV P op t x y a b st.H st.n
 | _, _ => none := rfl
@[simp] theorem run_unOp {op : UnOp} : runOp P r ⟨dst, .unOp op t x, ty, ps, af, g⟩ st = match evO P st.fr x with
   | some a => if Ab.af a then (runP P (Op.unary op a)).bind fun v => if Ab.af v then some (v, st.H, st.n) else none else none
   | none => none := by
 show opUnop P op x st.fr st.H st.n = _
 unfold opUnop; simp only [afq_af]; rfl
@[simp] theorem run_fieldAddr {f : Nat} : runOp P r ⟨dst, .fieldAddr t x f, ty, ps, af, g⟩ st = opFieldaddr P t x f st.fr st.H st.n := rfl
@[simp] theorem run_field {f : Nat} : runOp P r ⟨dst, .field t x f, ty, ps, af, g⟩ st = opField P t x f st.fr st.H st.n := rfl
@[simp] theorem run_indexAddr : runOp P r ⟨dst, .indexAddr t x y, ty, ps, af, g⟩ st = opIndexaddr P t x y st.fr st.H st.n := rfl
@[simp] theorem run_index : runOp P r ⟨dst, .index t x y, ty, ps, af, g⟩ st = opIndex P t x y st.fr st.H st.n := rfl
@[simp] theorem run_extract {ix : Nat} : runOp P r ⟨dst, .extract x ix, ty, ps, af, g⟩ st = match evO P st.fr x with
   | some (.tuple vs) => (vs.toList[ix]?).map fun v => (v, st.H, st.n)
   | _ => none := rfl
@[simp] theorem run_build {qs : Array (Nat × Operand)} : runOp P r ⟨dst, .build t qs, ty, ps, af, g⟩ st = opBuild P t qs st.fr st.H st.n := rfl
@[simp] theorem run_buildSlice {k : Nat} {qs : Array (Nat × Operand)} : runOp P r ⟨dst, .buildSlice t k qs, ty, ps, af, g⟩ st = opBuildslice P t k qs st.fr st.H st.n := rfl
@[simp] theorem run_makeSlice : runOp P r ⟨dst, .makeSlice t x y, ty, ps, af, g⟩ st = opMakeslice P t x y st.fr st.H st.n := rfl
@[simp] theorem run_slice {lo hi mx : Option Operand} : runOp P r ⟨dst, .slice t x lo hi mx, ty, ps, af, g⟩ st = opSlice P t x lo hi mx st.fr st.H st.n := rfl
@[simp] theorem run_convert {s d : TypeId} : runOp P r ⟨dst, .convert s d x, ty, ps, af, g⟩ st = opConvert P s d x st.fr st.H st.n := rfl
@[simp] theorem run_makeFunc {fn : Fn} {a b : Array Operand} : runOp P r ⟨dst, .makeFunc fn a b, ty, ps, af, g⟩ st = opMakefunc P fn a b st.fr st.H st.n := rfl
@[simp] theorem run_builtin {b : Builtin} {as : Array Operand} {ts : Array TypeId} : runOp P r ⟨dst, .call ⟨.builtin b, as, ts⟩, ty, ps, af, g⟩ st = opBuiltin P b as ts ty st.fr st.H st.n := rfl
@[simp] theorem run_call {f : FuncId} {as : Array Operand} {ts : Array TypeId} : runOp P r ⟨dst, .call ⟨.value (.func f), as, ts⟩, ty, ps, af, g⟩ st = match evOs P st.fr as.toList with
   | some vs => r.call f vs st.H st.n
   | none => none := by
 show vcallF P r (.func f) as st = _
 unfold vcallF target
 simp only [evO_func]
 cases evOs P st.fr as.toList <;> simp
theorem run_vcall_tmp {u : Tmp} {as : Array Operand} {ts : Array TypeId} : runOp P r ⟨dst, .call ⟨.value (.tmp u), as, ts⟩, ty, ps, af, g⟩ st = vcallF P r (.tmp u) as st := rfl
end

/-! ### slices that are written out -/
def partsOk (sz : Nat) : Nat → List (Nat × Value) → Bool
 | _, [] => true
 | i, (k, v) :: vs => decide (k = i) && decide (v.cells.size = sz) && partsOk sz (i + 1) vs
def bsRaw (P : Program) (elem : TypeId) (len : Nat) (vs : List (Nat × Value)) (H : Heap) (n : Nat) : R := match P.info? elem with
     | some i => match i.zero with
       | some z => if afL z.cells.toList && len * i.size ≤ 2 ^ 24 then
         match Instr.fill (fun k => some (k * i.size, i.size)) ((Array.range (len * i.size)).map ((if len * i.size = 0 then #[] else z.cells)[· % (if len * i.size = 0 then #[] else z.cells).size]!)) vs with
         | some cs => newA H n (.cells cs.toList elem) (.slice (some ⟨n, 0, none⟩) len len)
         | none => none
         else none
       | none => none
     | none => none
theorem foldl_set (v : List Value) : ∀ (k off : Nat) (cs : Array Value), off + k + v.length ≤ cs.size → ((v.zipIdx k).foldl (fun cs (c, j) => cs.setIfInBounds (off + j) c) cs).toList = cs.toList.take (off + k) ++ v ++ cs.toList.drop (off + k + v.length) := by
 induction v with
 | nil => intro k off cs h; simp
 | cons x v ih =>
   intro k off cs h
   simp only [List.length_cons] at h
   simp only [List.zipIdx_cons, List.foldl_cons]
   rw [ih (k + 1) off _ (by simp; omega)]
   simp only [Array.toList_setIfInBounds]
   rw [show off + (k + 1) = off + k + 1 by omega, List.take_set, List.drop_set]
   rw [if_pos (by omega)]
   have : off + k < cs.toList.length := by simp; omega
   rw [List.take_succ_eq_append_getElem this, List.set_append_right _ _ (by simp; omega)]
   simp only [List.length_take, Array.length_toList, List.length_cons]
   rw [show off + k - min (off + k) cs.size = 0 by omega]
   simp only [List.set_cons_zero, List.append_assoc, List.cons_append, List.nil_append]
   rw [show off + k + 1 + v.length = off + k + (v.length + 1) by omega]
theorem fill_parts (sz : Nat) : ∀ (vs : List (Nat × Value)) (i : Nat) (cells : Array Value), partsOk sz i vs = true → cells.size = (i + vs.length) * sz →
   Instr.fill (fun k => some (k * sz, sz)) cells vs = some (cells.toList.take (i * sz) ++ vs.flatMap (fun x => x.2.cells.toList)).toArray
 | [], i, cells, _, hs => by
   simp only [Instr.fill, List.flatMap_nil, List.append_nil]
   rw [List.take_of_length_le (by simp at hs ⊢; omega)]
 | (k, v) :: vs, i, cells, h, hs => by
   simp only [partsOk, Bool.and_eq_true, decide_eq_true_eq] at h
   obtain ⟨⟨rfl, hv⟩, h⟩ := h
   have hle : k * sz + v.cells.size ≤ cells.size := by
     rw [hv, hs, List.length_cons, show k + (vs.length + 1) = (k + 1) + vs.length by omega, Nat.add_mul, Nat.add_mul]; omega
   simp only [Instr.fill]
   rw [if_neg (by simp [hv]; rw [hv] at hle; omega)]
   have hf := foldl_set v.cells.toList 0 (k * sz) cells (by simp; omega)
   rw [show v.cells.zipIdx.foldl (fun cs (c, j) => cs.setIfInBounds (k * sz + j) c) cells = (v.cells.toList.zipIdx 0).foldl (fun cs (c, j) => cs.setIfInBounds (k * sz + j) c) cells by
     rw [← Array.foldl_toList, Array.toList_zipIdx]]
   generalize (v.cells.toList.zipIdx 0).foldl (fun cs (c, j) => cs.setIfInBounds (k * sz + j) c) cells = cs' at hf
   have hlen : cs'.size = cells.size := by
     rw [← Array.length_toList, hf]; simp; omega
   rw [fill_parts sz vs (k + 1) cs' h (by rw [hlen, hs, List.length_cons]; congr 1; omega), hf]
   have e1 : (k + 1) * sz = k * sz + v.cells.toList.length := by rw [Nat.add_mul, Array.length_toList, hv]; omega
   rw [e1]
   congr 2
   simp only [Nat.add_zero, List.flatMap_cons]
   rw [List.take_append_of_le_length (by simp; omega)]
   rw [List.take_of_length_le (by simp; omega), List.append_assoc]
theorem bsRaw_eq (P : Program) (elem : TypeId) (len : Nat) (vs : List (Nat × Value)) (H : Heap) (n : Nat) : bsRaw P elem len vs H n = match szA P elem, zeroA P elem with
   | some sz, some z => if (partsOk sz 0 vs && decide (vs.length = len) && afL z.cells.toList && decide (len * sz ≤ 16777216)) = true then some (.slice (some ⟨n, 0, none⟩) len len, (n, .cells (vs.flatMap fun x => x.2.cells.toList) elem) :: H, n + 1) else bsRaw P elem len vs H n
   | _, _ => bsRaw P elem len vs H n := by
 cases hs : szA P elem with
 | none => rfl
 | some sz => cases hz : zeroA P elem with
   | none => rfl
   | some z =>
     simp only
     split
     · rename_i hc
       simp only [Bool.and_eq_true, decide_eq_true_eq] at hc
       obtain ⟨⟨⟨h1, h2⟩, h3⟩, h4⟩ := hc
       cases hi : P.info? elem with
       | none => simp [szA, hi] at hs
       | some i =>
         simp only [szA, hi, Option.map_some, Option.some.injEq] at hs
         simp only [zeroA, hi, Option.bind_some] at hz
         subst hs
         unfold bsRaw
         rw [hi]
         simp only [hz, h3, Bool.true_and]
         rw [if_pos (by simpa using h4), fill_parts i.size vs 0 _ h1 (by simp [h2])]
         simp [newA]
     · rfl
@[simp] theorem opBuildslice_eq {P : Program} {t : TypeId} {len : Nat} {ps : Array (Nat × Operand)} {fr : Fr} {H : Heap} {n : Nat} : opBuildslice P t len ps fr H n = match evPs P fr ps.toList, P.underlying t with
   | some vs, some (.slice elem) => (match szA P elem, zeroA P elem with
     | some sz, some z => if (partsOk sz 0 vs && decide (vs.length = len) && afL z.cells.toList && decide (len * sz ≤ 16777216)) = true then some (.slice (some ⟨n, 0, none⟩) len len, (n, .cells (vs.flatMap fun x => x.2.cells.toList) elem) :: H, n + 1) else bsRaw P elem len vs H n
     | _, _ => bsRaw P elem len vs H n)
   | _, _ => none := by
 simp only [← bsRaw_eq]
 rfl

/-! ### tables of contracts -/
abbrev Ent := FuncId × (List Value → Heap → Nat → R)
def EntOk (P : Program) (e : Ent) : Prop := ∀ args H n v H' n', e.2 args H n = some (v, H', n') → AC P e.1 args H n v H' n'
def tab : List Ent → Oracle
 | [], _, _, _, _ => none
 | (k, g) :: l, f, args, H, n => if k = f then g args H n else tab l f args H n
theorem tab_ok {P : Program} : ∀ (l : List Ent), (∀ e ∈ l, EntOk P e) → OracleOk P (tab l)
 | [], _ => fun f args H n v H' n' h => by simp [tab] at h
 | (k, g) :: l, hl => fun f args H n v H' n' h => by
   simp only [tab] at h
   split at h
   · rename_i hk; subst hk; exact hl _ (List.mem_cons_self ..) _ _ _ _ _ _ h
   · exact tab_ok l (fun e he => hl e (List.mem_cons_of_mem _ he)) _ _ _ _ _ _ _ h
def recT (l : List Ent) : Rec := ⟨fun _ _ _ => none, fun f args H n => tab l f args H n⟩
theorem recT_ok {P : Program} {l : List Ent} (h : ∀ e ∈ l, EntOk P e) : RecOk P (recT l) 0 :=
 ⟨fun _ _ _ _ _ h => by simp [recT] at h, fun _ _ _ _ _ h => by simp [recT] at h, fun f args H n v H' n' hh => tab_ok l h _ _ _ _ _ _ _ hh⟩
@[simp] theorem recT_call (l : List Ent) (f : FuncId) (args : List Value) (H : Heap) (n : Nat) : (recT l).call f args H n = tab l f args H n := rfl
@[simp] theorem tab_nil (f : FuncId) (args : List Value) (H : Heap) (n : Nat) : tab [] f args H n = none := rfl
@[simp] theorem tab_cons (k : FuncId) (g : List Value → Heap → Nat → R) (l : List Ent) (f : FuncId) (args : List Value) (H : Heap) (n : Nat) : tab ((k, g) :: l) f args H n = if k = f then g args H n else tab l f args H n := rfl
attribute [simp] opsF_nil opsF_cons oneF_plain
@[simp] theorem trim_nil (fr : Fr) : trim [] fr = [] := rfl
@[simp] theorem trim_cons (t : Nat) (ts : List Nat) (fr : Fr) : trim (t :: ts) fr = match lk fr t with
   | some v => (t, v) :: trim ts fr
   | none => trim ts fr := by
 unfold trim
 rw [List.filterMap_cons]
 cases lk fr t <;> rfl
attribute [simp] opsS oneS doneS pureS readS aloneS isPure isRead footA blkOf readA memN lookTmps tmpsOf guardTmp Op.operands Call.operands wantedA namesOk opA opMove opPick opFieldaddr opLoad loadA cellA cellsA opField opIndexaddr opIndex opExtract flat opBuiltin builtinA appendA lenX lenV srcX srcA appendTo smallA zeroOk Value.cells newA oneL partsOk storeA putL yieldedA oneF_guard argsFr one
@[simp] theorem succ_le_self (i : Nat) : (i + 1 ≤ i) = False := eq_false (by omega)
attribute [simp] hdel hset
attribute [simp] ren renL renB sc scL scB carried Blk.own rnm
abbrev iv (n : Int) : Value := .int .i64 n
abbrev sv (s : ByteArray) : Value := .string s
abbrev fv (b : Nat) : Value := .float .f32 b
@[simp] theorem renL_iv (ρ : Nat → Nat) (l : List Int) : renL ρ (l.map iv) = l.map iv := by rw [renL_eq, List.map_map]; rfl
@[simp] theorem renL_sv (ρ : Nat → Nat) (l : List ByteArray) : renL ρ (l.map sv) = l.map sv := by rw [renL_eq, List.map_map]; rfl
@[simp] theorem renL_fv (ρ : Nat → Nat) (l : List Nat) : renL ρ (l.map fv) = l.map fv := by rw [renL_eq, List.map_map]; rfl
@[simp] theorem afL_iv : ∀ l : List Int, afL (l.map iv) = true
 | [] => rfl
 | _ :: l => by simp [afL_iv l]
@[simp] theorem afL_sv : ∀ l : List ByteArray, afL (l.map sv) = true
 | [] => rfl
 | _ :: l => by simp [afL_sv l]
@[simp] theorem afL_fv : ∀ l : List Nat, afL (l.map fv) = true
 | [] => rfl
 | _ :: l => by simp [afL_fv l]
@[simp] theorem scL_iv (p : Nat → Prop) (l : List Int) : scL p (l.map iv) := scL_af p _ (afL_iv l)
@[simp] theorem scL_sv (p : Nat → Prop) (l : List ByteArray) : scL p (l.map sv) := scL_af p _ (afL_sv l)
@[simp] theorem scL_fv (p : Nat → Prop) (l : List Nat) : scL p (l.map fv) := scL_af p _ (afL_fv l)
@[simp] theorem denL_iv (φ : Vl) (l : List Int) : denL φ (l.map iv) = l.map iv := denL_af φ _ (afL_iv l)
@[simp] theorem oneL_iv : ∀ l : List Int, oneL (l.map iv) = true
 | [] => rfl
 | _ :: l => by simp [oneL, oneL_iv l]
@[simp] theorem renL_append (ρ : Nat → Nat) (a b : List Value) : renL ρ (a ++ b) = renL ρ a ++ renL ρ b := by simp [renL_eq]
@[simp] theorem scL_append (p : Nat → Prop) (a b : List Value) : scL p (a ++ b) = (scL p a ∧ scL p b) := by
 apply propext
 simp only [scL_iff, List.mem_append]
 exact ⟨fun h => ⟨fun v hv => h v (.inl hv), fun v hv => h v (.inr hv)⟩, fun h v hv => hv.elim (h.1 v) (h.2 v)⟩
@[simp] theorem afL_append : ∀ a b : List Value, afL (a ++ b) = (afL a && afL b)
 | [], b => by simp
 | x :: a, b => by simp [afL_append a b, Bool.and_assoc]
@[simp] theorem int_lt_succ (i : Int) : (i < i + 1) = True := eq_true (by omega)
@[simp] theorem int_nonneg_succ (i : Nat) : ((0 : Int) ≤ (i : Int) + 1) = True := eq_true (by omega)
@[simp] theorem int_toNat_succ (i : Nat) : ((i : Int) + 1).toNat = i + 1 := by omega
theorem W_in {x : Int} (h1 : -9223372036854775808 ≤ x) (h2 : x ≤ 9223372036854775807) : IntKind.i64.wrap x = x := IntWalk.i64_in x (by omega)
end Go.Ab
