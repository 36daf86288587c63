/-
Contracts and plain reckonings behind the law CoverBins, part 1 of 3 (each under the conditions in its statement).
-/
import Derived.Test.YtdmepnhmcppkkaaGreatDoorAf
import Derived.Test.YtdmepnhmcppkkaaGreatDoorTa
/-
Regions whose order is open, with calls and with blocks made on the way.
-/
namespace Go.Ab
open Go
def dnames : Heap → List Nat
 | [] => []
 | (k, .cells _ _) :: H | (k, .ext _ _ _) :: H | (k, .inp _ _) :: H | (k, .row _ _) :: H | (k, .tab _) :: H => k :: dnames H
 | _ :: H => dnames H
def visT (late : List Nat) (n0 i n : Nat) (see : List Nat) : Bool := (memN late i && see.all (Nat.blt · n)) || see.all (Nat.blt · n0)
def readT (P : Program) (late : List Nat) (n0 i : Nat) (o : Oper) (fr : Fr) (st : St) (see : List Nat) : Option St :=
 match visT late n0 i st.n see with
 | true => match opA P o fr (readA see st.H) st.n with
   | some (v, _, _) => some { st with fr := putA st.fr o.dst v }
   | none => none
 | false => none
def aloneT (P : Program) (r : Rec) (mk : List Nat) (i : Nat) (o : Oper) (fr : Fr) (st : St) : Option St :=
 match runOp P r o { st with fr := fr } with
 | some (v, H, k) => match Nat.ble st.n k && namesOk k H && (Nat.beq k st.n || memN mk i) with
   | true => some { st with fr := putA st.fr o.dst v, H := H, n := k }
   | false => none
 | none => none
def handT (P : Program) (r : Rec) (mk : List Nat) (i : Nat) (o : Oper) (see : List Nat) (fr : Fr) (st : St) : Option St :=
 match runOp P r o { st with fr := fr, H := handA see [] st.H } with
 | some (v, H, k) => match Nat.ble st.n k && namesOk k (takeNew st.n H) && (Nat.beq k st.n || memN mk i) with
   | true => some { st with fr := putA st.fr o.dst v, H := takeNew st.n H ++ st.H, n := k }
   | false => none
 | none => none
def doneT (P : Program) (r : Rec) (al mk late : List Nat) (n0 i : Nat) (o : Oper) (fr : Fr) (st : St) : Option St :=
 match isPure o.op with
 | true => pureS P o fr st
 | false => match isRead o.op with
   | true => match footA P fr o.op with
     | some f => readT P late n0 i o fr st f.see
     | none => none
   | false => match memN al i with
     | true => aloneT P r mk i o fr st
     | false => match footA P fr o.op with
       | some f => match f.put.isEmpty && visT late n0 i st.n f.see with
         | true => handT P r mk i o f.see fr st
         | false => none
       | none => match memN late i with
         | true => handT P r mk i o (dnames st.H) fr st
         | false => none
def oneT (P : Program) (r : Rec) (ops : Array Oper) (al mk late : List Nat) (n0 i : Nat) (o : Oper) (st : St) : Option St :=
 match dstOk st.sz o.dst with
 | false => none
 | true => match wantedA ops (trim (lookTmps ops o) st.fr) o with
   | none => none
   | some false => some { st with fr := putA st.fr o.dst undefV }
   | some true => doneT P r al mk late n0 i o (trim (lookTmps ops o) st.fr) st
def opsT (P : Program) (r : Rec) (ops : Array Oper) (al mk late : List Nat) (n0 : Nat) : List Oper → Nat → St → Option St
 | [], _, st => some st
 | o :: os, i, st => match oneT P r ops al mk late n0 i o st with
   | some st' => opsT P r ops al mk late n0 os (i + 1) st'
   | none => none
def runT (P : Program) (r : Rec) (ops : Array Oper) (al mk late : List Nat) (st : St) : Option St :=
 match namesOk st.n st.H with
 | true => opsT P r ops al mk late st.n ops.toList 0 st
 | false => none
def alEq (ops : Array Oper) (bef : Array Nat) (al : List Nat) : List Oper → Nat → Bool
 | [], _ => true
 | o :: os, i => (isPure o.op || isRead o.op || memN al i == aloneA bef i ops.toList 0) && alEq ops bef al os (i + 1)
def lateOk (bef : Array Nat) (mk late : List Nat) : Bool := late.all fun i => mk.all fun d => Nat.ble i d || ahead bef d i
structure InvT (mk : List Nat) (n0 i : Nat) (ds : List Done) (st : St) : Prop where
 put : ∀ d ∈ ds, d.put = []
 cov : ∀ k, n0 ≤ k → k < st.n → ∃ d ∈ ds, d.lo ≤ k ∧ k < d.hi ∧ memN mk d.i = true ∧ d.i < i
 nam : ∀ x ∈ st.H, x.1 < st.n
theorem namesOk_mem : ∀ (H : Heap) (k : Nat), namesOk k H = true → ∀ x ∈ H, x.1 < k
 | [], _, _, x, hx => by cases hx
 | (j, b) :: H, k, h, x, hx => by
   simp only [namesOk] at h
   split at h
   · rename_i hj
     rcases List.mem_cons.1 hx with rfl | hx
     · exact (blt_iff _ _).1 hj
     · exact namesOk_mem H k h x hx
   · cases h
theorem lateOk_vis {bef : Array Nat} {mk late : List Nat} (hl : lateOk bef mk late = true) {n0 i : Nat} (hi : memN late i = true) {ds : List Done} {st : St} (hI : InvT mk n0 i ds st) {k : Nat} (hk : k < st.n) : visA bef n0 i ds k = true := by
 unfold visA
 rw [Bool.or_eq_true]
 rcases Nat.lt_or_ge k n0 with h | h
 · exact .inl ((blt_iff _ _).2 h)
 · obtain ⟨d, hd, h1, h2, h3, h4⟩ := hI.cov k h hk
   refine .inr (List.any_eq_true.2 ⟨d, hd, ?_⟩)
   have := List.all_eq_true.1 (List.all_eq_true.1 hl i ((memN_iff _ _).1 hi)) d.i ((memN_iff _ _).1 h3)
   rw [Bool.or_eq_true] at this
   rcases this with h | h
   · have := Nat.le_of_ble_eq_true h
     omega
   · simp only [Bool.and_eq_true]
     exact ⟨⟨Nat.ble_eq_true_of_le h1, (blt_iff _ _).2 h2⟩, h⟩
theorem footT {bef : Array Nat} {mk late : List Nat} (hl : lateOk bef mk late = true) {n0 i : Nat} {ds : List Done} {st : St} (hI : InvT mk n0 i ds st) {see : List Nat} (h : visT late n0 i st.n see = true) : footOk bef n0 i ds see [] = true := by
 unfold footOk
 simp only [Bool.and_eq_true]
 refine ⟨⟨List.all_eq_true.2 fun d hd => ?_, List.all_eq_true.2 fun k hk => ?_⟩, rfl⟩
 · simp [disj, hI.put d hd]
 · unfold visT at h
   rw [Bool.or_eq_true] at h
   rcases h with h | h
   · rw [Bool.and_eq_true] at h
     exact lateOk_vis hl h.1 hI ((blt_iff _ _).1 (List.all_eq_true.1 h.2 k hk))
   · have := List.all_eq_true.1 h k hk
     unfold visA
     rw [this, Bool.true_or]
theorem seeCall_dnames {bef : Array Nat} {n0 i : Nat} {ds : List Done} (hp : ∀ d ∈ ds, d.put = []) : ∀ H : Heap, (∀ x ∈ H, visA bef n0 i ds x.1 = true) → seeCall bef n0 i ds H = dnames H
 | [], _ => rfl
 | (k, b) :: H, hv => by
   have ih := seeCall_dnames hp H fun x hx => hv x (List.mem_cons_of_mem _ hx)
   have h1 := hv _ (List.mem_cons_self ..)
   have h2 : (ds.all fun d => ahead bef d.i i || !memN d.put k) = true := List.all_eq_true.2 fun d hd => by rw [hp d hd]; simp [memN]
   cases b <;> simp only [seeCall, dnames, h1, h2, ih, Bool.and_self, if_true]
theorem dnames_mem : ∀ (H : Heap) (k : Nat), k ∈ dnames H → ∃ b, (k, b) ∈ H
 | [], k, h => by cases h
 | (j, b) :: H, k, h => by
   have go : k ∈ dnames H → ∃ b', (k, b') ∈ (j, b) :: H := fun h => by
     obtain ⟨b', h'⟩ := dnames_mem H k h
     exact ⟨b', List.mem_cons_of_mem _ h'⟩
   cases b <;> simp only [dnames] at h
   all_goals first
     | exact go h
     | rcases List.mem_cons.1 h with rfl | h
       · exact ⟨_, List.mem_cons_self ..⟩
       · exact go h
theorem InvT.same {mk : List Nat} {n0 i : Nat} {ds : List Done} {st : St} (hI : InvT mk n0 i ds st) {fr : Fr} : InvT mk n0 (i + 1) ds { st with fr := fr } :=
 ⟨hI.put, fun k h1 h2 => by obtain ⟨d, a, b, c, e, f⟩ := hI.cov k h1 h2; exact ⟨d, a, b, c, e, by omega⟩, hI.nam⟩
theorem InvT.next {mk : List Nat} {n0 i : Nat} {ds : List Done} {st : St} (hI : InvT mk n0 i ds st) {fr : Fr} {see : List Nat} {H : Heap} {k : Nat} (hn : ∀ x ∈ H, x.1 < k) (hm : (Nat.beq k st.n || memN mk i) = true) : InvT mk n0 (i + 1) (⟨i, see, [], st.n, k⟩ :: ds) { st with fr := fr, H := H, n := k } := by
 refine ⟨fun d hd => ?_, fun j h1 h2 => ?_, hn⟩
 · rcases List.mem_cons.1 hd with rfl | hd
   · rfl
   · exact hI.put d hd
 · rcases Nat.lt_or_ge j st.n with h | h
   · obtain ⟨d, a, b, c, e, f⟩ := hI.cov j h1 h
     exact ⟨d, List.mem_cons_of_mem _ a, b, c, e, by omega⟩
   · rw [Bool.or_eq_true] at hm
     have h2 : j < k := h2
     rcases hm with hm | hm
     · have := Nat.eq_of_beq_eq_true hm
       omega
     · exact ⟨_, List.mem_cons_self .., h, h2, hm, Nat.lt_succ_self _⟩
theorem handT_ok {P : Program} {r : Rec} {bef : Array Nat} {mk : List Nat} {n0 i : Nat} {ds : List Done} {o : Oper} {fr : Fr} {st st' : St} (hI : InvT mk n0 i ds st) {see : List Nat} (hf : footOk bef n0 i ds see [] = true) (h : handT P r mk i o see fr st = some st') : ∃ ds', handOp P r bef n0 i ds o see [] fr st = some (st', ds') ∧ InvT mk n0 (i + 1) ds' st' := by
 have hb : ∀ (H' H : Heap), backA [] H' H = H := fun H' H => by
   induction H with
   | nil => rfl
   | cons x H ih => obtain ⟨k, b⟩ := x; simp only [backA, memN, ih]
 unfold handT at h
 unfold handOp
 rw [hf]
 simp only
 split at h
 · rename_i v H k hv
   rw [hv]
   simp only
   split at h
   · rename_i hc
     simp only [Bool.and_eq_true] at hc
     injection h with h; subst h
     rw [hc.1.1, hc.1.2]
     simp only [hb, Bool.and_self]
     have hle := Nat.le_of_ble_eq_true hc.1.1
     refine ⟨_, rfl, hI.next (fun x hx => ?_) hc.2⟩
     rcases List.mem_append.1 hx with hx | hx
     · exact namesOk_mem _ _ hc.1.2 x hx
     · exact Nat.lt_of_lt_of_le (hI.nam x hx) hle
   · cases h
 · cases h
theorem opsT_ok {P : Program} {r : Rec} {ops : Array Oper} {bef : Array Nat} {al mk late : List Nat} (hl : lateOk bef mk late = true) {n0 : Nat} : ∀ (os : List Oper) (i : Nat) (st st' : St) (ds : List Done), alEq ops bef al os i = true → InvT mk n0 i ds st → opsT P r ops al mk late n0 os i st = some st' → opsD P r ops bef n0 os i ds st = some st'
 | [], _, st, st', ds, _, _, h => h
 | o :: os, i, st, st', ds, hal, hI, h => by
   simp only [alEq, Bool.and_eq_true, Bool.or_eq_true, beq_iff_eq] at hal
   have halo : isPure o.op = false → isRead o.op = false → memN al i = aloneA bef i ops.toList 0 := fun h1 h2 => by
     rcases hal.1 with (h | h) | h
     · rw [h1] at h; cases h
     · rw [h2] at h; cases h
     · exact h
   simp only [opsT] at h
   split at h
   · rename_i st1 h1
     have key : ∃ ds', oneD P r ops bef n0 i ds o st = some (st1, ds') ∧ InvT mk n0 (i + 1) ds' st1 := by
       unfold oneT at h1
       unfold oneD
       split at h1
       · cases h1
       · rename_i hd
         rw [hd]
         simp only
         split at h1
         · cases h1
         · rename_i hw
           rw [hw]
           injection h1 with h1; subst h1
           exact ⟨ds, rfl, hI.same⟩
         · rename_i hw
           rw [hw]
           simp only
           unfold doneT at h1
           unfold doneD
           split at h1
           · rename_i hp
             rw [hp]
             simp only
             unfold pureS at h1
             unfold pureOp
             split at h1
             · rename_i v a k hv
               rw [hv]
               simp only
               split at h1
               · rename_i hk
                 rw [hk]
                 injection h1 with h1; subst h1
                 exact ⟨ds, rfl, hI.same⟩
               · cases h1
             · cases h1
           · rename_i hp
             rw [hp]
             simp only
             split at h1
             · rename_i hrd
               rw [hrd]
               simp only
               split at h1
               · rename_i f hf
                 rw [hf]
                 simp only
                 unfold readT at h1
                 split at h1
                 · rename_i hv
                   unfold readOp
                   rw [footT hl hI hv]
                   simp only
                   split at h1
                   · rename_i v a b hv
                     rw [hv]
                     injection h1 with h1; subst h1
                     exact ⟨_, rfl, hI.next hI.nam (by simp)⟩
                   · cases h1
                 · cases h1
               · cases h1
             · rename_i hrd
               rw [hrd]
               simp only
               split at h1
               · rename_i hm
                 have ha : aloneA bef i ops.toList 0 = true := by rw [← halo hp hrd, hm]
                 rw [ha]
                 simp only
                 unfold aloneT at h1
                 unfold aloneOp
                 split at h1
                 · rename_i v H k hv
                   rw [hv]
                   simp only
                   split at h1
                   · rename_i hk
                     simp only [Bool.and_eq_true] at hk
                     rw [hk.1.1, hk.1.2]
                     injection h1 with h1; subst h1
                     exact ⟨_, rfl, hI.next (namesOk_mem _ _ hk.1.2) hk.2⟩
                   · cases h1
                 · cases h1
               · rename_i hm
                 have ha : aloneA bef i ops.toList 0 = false := by rw [← halo hp hrd, hm]
                 rw [ha]
                 simp only
                 split at h1
                 · rename_i f hf
                   rw [hf]
                   simp only
                   split at h1
                   · rename_i hv
                     rw [Bool.and_eq_true] at hv
                     rw [List.isEmpty_iff.1 hv.1]
                     exact handT_ok hI (footT hl hI hv.2) h1
                   · cases h1
                 · rename_i hf
                   rw [hf]
                   simp only
                   split at h1
                   · rename_i hv
                     have hvis : ∀ k, k < st.n → visA bef n0 i ds k = true := fun k hk => lateOk_vis hl hv hI hk
                     rw [seeCall_dnames hI.put st.H fun x hx => hvis _ (hI.nam x hx)]
                     refine handT_ok hI (footT hl hI ?_) h1
                     unfold visT
                     rw [hv]
                     simp only [Bool.true_and, Bool.or_eq_true]
                     refine .inl (List.all_eq_true.2 fun k hk => ?_)
                     obtain ⟨b, hb⟩ := dnames_mem _ _ hk
                     exact (blt_iff _ _).2 (hI.nam _ hb)
                   · cases h1
     obtain ⟨ds', h2, hI'⟩ := key
     simp only [opsD, h2]
     exact opsT_ok hl os (i + 1) st1 st' ds' hal.2 hI' h
   · cases h
def drawT (ops : Array Oper) (bef : Array Nat) (al mk late : List Nat) : Bool := drawOk ops bef && alEq ops bef al ops.toList 0 && lateOk bef mk late
section
variable {P : Program} {n0 : Nat} {ro : Option Nat} {st st' : St} {K : Ex → St → Prop} {r : Rec} {m : Nat}
theorem E.drawC (hm : P.follows .mixedOrders = true) (hr : RecOk P r m) (al mk late : List Nat) {id : Nat} {ops : Array Oper} (hd : drawT ops (Region.before ops) al mk late = true) (h : runT P r ops al mk late st = some st') (k : K .normal st') : E P n0 ro (.region id ops true) st K := by
 unfold drawT at hd
 simp only [Bool.and_eq_true] at hd
 unfold runT at h
 split at h
 · rename_i hn
   exact E.draw hm hr hd.1.1 (opsT_ok hd.2 _ _ _ _ [] hd.1.2 ⟨by simp, fun k h1 h2 => by omega, namesOk_mem _ _ hn⟩ h) k
 · cases h
end
attribute [simp] runT opsT oneT doneT handT aloneT readT visT dnames handA takeNew
end Go.Ab

/-
Lists that are built element by element (no condition).
-/
namespace Go.Ab
open Go
def rl {α : Type} (f : Nat → α) (n : Nat) : List α := (List.range n).map f
@[simp] theorem rl_length {α : Type} (f : Nat → α) (n : Nat) : (rl f n).length = n := by simp [rl]
theorem rl_succ {α : Type} (f : Nat → α) (n : Nat) : rl f (n + 1) = rl f n ++ [f n] := by simp [rl, List.range_succ]
@[simp] theorem rl_zero {α : Type} (f : Nat → α) : rl f 0 = [] := rfl
@[simp] theorem rl_getElem {α : Type} {f : Nat → α} {n i : Nat} (h : i < (rl f n).length) : (rl f n)[i] = f i := by simp [rl]
def tk {α β : Type} (f : α → β) (l : List α) (i : Nat) : List β := (l.take i).map f
@[simp] theorem tk_zero {α β : Type} (f : α → β) (l : List α) : tk f l 0 = [] := rfl
theorem tk_succ {α β : Type} (f : α → β) {l : List α} {i : Nat} (h : i < l.length) : tk f l (i + 1) = tk f l i ++ [f l[i]] := by unfold tk; rw [List.take_succ_eq_append_getElem h, List.map_append]; rfl
theorem tk_length {α β : Type} (f : α → β) {l : List α} {i : Nat} (h : i ≤ l.length) : (tk f l i).length = i := by simp [tk]; omega
theorem tk_all {α β : Type} (f : α → β) {l : List α} {i : Nat} (h : l.length ≤ i) : tk f l i = l.map f := by simp [tk, List.take_of_length_le h]
end Go.Ab

namespace Go.Proofs.YtdmepnhmcppkkaaGreatDoor
open Go Go.Ab Go.Proofs
def whenV (b : Bool) (e : Int) : Int := if b then e else 0
theorem w103 (b : Bool) (e : Int) : AC Tryz.prog 103 [.bool b, .int .i64 e] [] 9 (.int .i64 (whenV b e)) [] 9 := by
 have hr := recT_ok (P := Tryz.prog) (l := []) (by simp)
 refine AC.pure Tryz.func103 rfl (by kernel_rfl) rfl [] rfl ?_
 refine E.seq (E.reg hr (by simp [argsFr, Tryz.f103]; rfl) ?_)
 refine E.seq (E.seq (E.reg hr (by simp; rfl) ?_))
 refine E.cond (by rfl) (fun h => ?_) (fun h => ?_)
 · try simp at h
   refine E.seq (E.reg hr (by simp; rfl) ?_)
   refine E.ret ?_
   exact pureK.ret rfl rfl (by simp [one, whenV, h]) (sub_refl _)
 · try simp at h
   refine E.skip (E.seq (E.reg hr (by simp; rfl) ?_))
   refine E.ret ?_
   exact pureK.ret rfl rfl (by simp [one, whenV, h]) (sub_refl _)
def g103 (args : List Value) (H : Heap) (n : Nat) : R := match args with
 | [.bool b, .int .i64 e] => some (.int .i64 (whenV b e), H, n)
 | _ => none
theorem ok103 : EntOk Tryz.prog (103, g103) := by
 intro args H n v H' n' h
 simp only [g103] at h
 split at h
 · rename_i b e
   injection h with h; injection h with e1 e2; injection e2 with e2 e3; subst e1 e2 e3
   exact AC.liftP rfl (Part.plain (by simp) [] (by simp [Seen]) gsz ⟨_, _, w103 b e⟩)
 · cases h
def withinV (a lo hi : Int) : Int := if a < lo ∨ hi < a then 3 else 0
theorem w100 (a lo hi : Int) : AC Tryz.prog 100 [.int .i64 a, .int .i64 lo, .int .i64 hi] [] 9 (.int .i64 (withinV a lo hi)) [] 9 := by
 have hr := recT_ok (P := Tryz.prog) (l := [(103, g103)]) (by simp [ok103])
 refine AC.pure Tryz.func100 rfl (by kernel_rfl) rfl [] rfl ?_
 refine E.seq (E.reg hr (by simp [argsFr, Tryz.f100]; rfl) ?_)
 refine E.seq ?_
 by_cases h1 : a < lo
 · refine E.reg hr (by simp [h1, oneF_guard, yieldedA, g103]; rfl) ?_
   refine E.ret ?_
   exact pureK.ret rfl rfl (by simp [one, withinV, whenV, h1]) (sub_refl _)
 · refine E.reg hr (by simp [h1, oneF_guard, yieldedA, g103]; rfl) ?_
   refine E.ret ?_
   exact pureK.ret rfl rfl (by simp [one, withinV, whenV, h1]) (sub_refl _)
end Go.Proofs.YtdmepnhmcppkkaaGreatDoor
namespace Go.Proofs.YtdmepnhmcppkkaaGreatDoor
open Go Go.Ab Go.Proofs
def firstV : List Int → Int
 | [] => 0
 | e :: l => if e = 0 then firstV l else e
theorem w98 (l : List Int) (o c : Nat) (hl : l.length < 2 ^ 31) : AC Tryz.prog 98 [.slice (some ⟨9, o, none⟩) l.length c] [(9, .inp o (l.map iv))] 10 (iv (firstV l)) [(9, .inp o (l.map iv))] 10 := by
 have hr := recT_ok (P := Tryz.prog) (l := []) (by simp)
 refine AC.pure Tryz.func98 rfl (by kernel_rfl) rfl [5, 6, 7] rfl ?_
 refine E.seq (E.reg hr (by simp [argsFr, Tryz.f98]; rfl) ?_)
 refine E.seq (E.seq (E.reg hr (by simp [opBuiltin, builtinA]; rfl) ?_))
 refine E.block (E.loop ?_)
 refine EL.ind (fun i : Nat => { fr := [(5, .slice (some ⟨9, o, none⟩) l.length c), (6, iv l.length), (7, iv i)], sz := 15, H := [(9, .inp o (l.map iv))], n := 10, marks := [], vs := [5, 6, 7] }) (fun i => l.length - i) (fun i => i ≤ l.length ∧ firstV (l.drop i) = firstV l) 0 (.less rfl rfl rfl (by simp) (by simp)) ⟨Nat.zero_le _, rfl⟩ (fun _ => rfl) ?_
 intro i ⟨hi, hg⟩
 refine E.seq (E.reg hr (by simp; rfl) ?_)
 refine E.seq ?_
 refine E.cond (by rfl) (fun h => ?_) (fun h => ?_)
 · simp at h
   refine E.skip (E.seq ?_)
   refine E.block (E.seq (E.reg hr (by simp [opIndexaddr, Tryz.underlying190, flat, h, loadA, cellA]; rfl) ?_))
   refine E.seq (E.reg hr (by simp; rfl) ?_)
   refine E.cond (by rfl) (fun h2 => ?_) (fun h2 => ?_)
   · simp at h2
     refine E.seq (E.reg hr (by simp; rfl) ?_)
     refine E.ret ?_
     refine pureK.ret rfl rfl ?_ (sub_refl _)
     rw [List.drop_eq_getElem_cons h] at hg
     simp [one, ← hg, firstV, h2]
   · simp at h2
     refine E.skip ?_
     have hw : IntKind.i64.wrap ((i : Int) + 1) = (i : Int) + 1 := W_in (by omega) (by omega)
     refine E.reg hr (by simp [hw]; rfl) ?_
     rw [List.drop_eq_getElem_cons h] at hg
     exact ⟨i + 1, .less rfl rfl rfl (by simp) (by simp), ⟨h, by rw [← hg]; simp [firstV, h2]⟩, by dsimp only; omega⟩
 · simp at h
   refine E.exit ?_
   refine E.seq (E.reg hr (by simp; rfl) ?_)
   refine E.ret ?_
   have : l.drop i = [] := by simp; omega
   refine pureK.ret rfl rfl ?_ (sub_refl _)
   simp [one, ← hg, this, firstV]
end Go.Proofs.YtdmepnhmcppkkaaGreatDoor
namespace Go.Proofs.YtdmepnhmcppkkaaGreatDoor
open Go Go.Ab Go.Proofs
def g100 (args : List Value) (H : Heap) (n : Nat) : R := match args with
 | [.int .i64 a, .int .i64 b, .int .i64 c] => some (.int .i64 (withinV a b c), H, n)
 | _ => none
theorem ok100 : EntOk Tryz.prog (100, g100) := by
 intro args H n v H' n' h
 simp only [g100] at h
 split at h
 · injection h with h; injection h with e1 e2; injection e2 with e2 e3; subst e1 e2 e3
   exact AC.liftP rfl (Part.plain (by simp) [] (by simp [Seen]) gsz ⟨_, _, w100 _ _ _⟩)
 · cases h
def intsOf : List Value → Option (List Int)
 | [] => some []
 | .int .i64 n :: vs => (intsOf vs).map (n :: ·)
 | _ => none
theorem intsOf_ok : ∀ (cs : List Value) (l : List Int), intsOf cs = some l → cs = l.map iv
 | [], l, h => by simp [intsOf] at h; subst h; rfl
 | c :: cs, l, h => by
   unfold intsOf at h
   split at h
   · rename_i h1; cases h1
   · rename_i n vs h1
     injection h1 with h1 h2; subst h1 h2
     rw [Option.map_eq_some_iff] at h
     obtain ⟨l', h2, h3⟩ := h
     subst h3
     rw [intsOf_ok _ _ h2]; rfl
   · cases h
def intsAt (H : Heap) (a : Addr) (len : Nat) : Option (List Int) := if flat a && Nat.blt len 2147483648 then (cellsA H a.block a.off len).bind intsOf else none
theorem intsAt_ok {H : Heap} {a : Addr} {len : Nat} {l : List Int} (h : intsAt H a len = some l) : flat a = true ∧ cellsA H a.block a.off len = some (l.map iv) ∧ l.length = len ∧ l.length < 2 ^ 31 := by
 unfold intsAt at h
 split at h
 · rename_i hf
   rw [Bool.and_eq_true] at hf
   rw [Option.bind_eq_some_iff] at h
   obtain ⟨cs, h1, h2⟩ := h
   have h3 := intsOf_ok _ _ h2
   subst h3
   have h4 := (cellsA_at h1).1
   rw [List.length_map] at h4
   exact ⟨hf.1, h1, h4, by have := (blt_iff _ _).1 hf.2; omega⟩
 · cases h
def g98 (args : List Value) (H : Heap) (n : Nat) : R := match args with
 | [.slice (some a) len _] => (intsAt H a len).map fun l => (iv (firstV l), H, n)
 | _ => none
theorem ok98 : EntOk Tryz.prog (98, g98) := by
 intro args H n v H' n' h
 simp only [g98] at h
 split at h
 · rename_i a len c
   rw [Option.map_eq_some_iff] at h
   obtain ⟨l, h1, h⟩ := h
   injection h with e1 e2; injection e2 with e2 e3; subst e1 e2 e3
   obtain ⟨hf, hc, hlen, hlt⟩ := intsAt_ok h1
   subst hlen
   exact AC.liftP rfl (Part.one (fun s => [s]) (by intro φ φ0 s s0 h; simp [denL, h]) (by intro p s h; exact ⟨h, trivial⟩) hf hc (afL_iv l) [] (by simp [Seen]) gsz fun c => ⟨_, _, w98 l _ c hlt⟩)
 · cases h
end Go.Proofs.YtdmepnhmcppkkaaGreatDoor
namespace Go.Proofs.YtdmepnhmcppkkaaGreatDoor
open Go Go.Ab Go.Proofs
theorem w174 (b : Bool) (e : Int) : AC Tryz.prog 174 [.bool b, .int .i64 e] [] 9 (.int .i64 (whenV b e)) [] 9 := by
 have hr := recT_ok (P := Tryz.prog) (l := []) (by simp)
 refine AC.pure Tryz.func174 rfl (by kernel_rfl) rfl [] rfl ?_
 refine E.seq (E.reg hr (by simp [argsFr, Tryz.f174]; rfl) ?_)
 refine E.seq (E.seq (E.reg hr (by simp; rfl) ?_))
 refine E.cond (by rfl) (fun h => ?_) (fun h => ?_)
 · try simp at h
   refine E.seq (E.reg hr (by simp; rfl) ?_)
   refine E.ret ?_
   exact pureK.ret rfl rfl (by simp [one, whenV, h]) (sub_refl _)
 · try simp at h
   refine E.skip (E.seq (E.reg hr (by simp; rfl) ?_))
   refine E.ret ?_
   exact pureK.ret rfl rfl (by simp [one, whenV, h]) (sub_refl _)
def g174 (args : List Value) (H : Heap) (n : Nat) : R := match args with
 | [.bool b, .int .i64 e] => some (.int .i64 (whenV b e), H, n)
 | _ => none
theorem ok174 : EntOk Tryz.prog (174, g174) := by
 intro args H n v H' n' h
 simp only [g174] at h
 split at h
 · rename_i b e
   injection h with h; injection h with e1 e2; injection e2 with e2 e3; subst e1 e2 e3
   exact AC.liftP rfl (Part.plain (by simp) [] (by simp [Seen]) gsz ⟨_, _, w174 b e⟩)
 · cases h
theorem w102 (a lo hi : Int) : AC Tryz.prog 102 [.int .i64 a, .int .i64 lo, .int .i64 hi] [] 9 (.int .i64 (withinV a lo hi)) [] 9 := by
 have hr := recT_ok (P := Tryz.prog) (l := [(174, g174)]) (by simp [ok174])
 refine AC.pure Tryz.func102 rfl (by kernel_rfl) rfl [] rfl ?_
 refine E.seq (E.reg hr (by simp [argsFr, Tryz.f102]; rfl) ?_)
 refine E.seq ?_
 by_cases h1 : a < lo
 · refine E.reg hr (by simp [h1, oneF_guard, yieldedA, g174]; rfl) ?_
   refine E.ret ?_
   exact pureK.ret rfl rfl (by simp [one, withinV, whenV, h1]) (sub_refl _)
 · refine E.reg hr (by simp [h1, oneF_guard, yieldedA, g174]; rfl) ?_
   refine E.ret ?_
   exact pureK.ret rfl rfl (by simp [one, withinV, whenV, h1]) (sub_refl _)
def g102 (args : List Value) (H : Heap) (n : Nat) : R := match args with
 | [.int .i64 a, .int .i64 b, .int .i64 c] => some (.int .i64 (withinV a b c), H, n)
 | _ => none
theorem ok102 : EntOk Tryz.prog (102, g102) := by
 intro args H n v H' n' h
 simp only [g102] at h
 split at h
 · injection h with h; injection h with e1 e2; injection e2 with e2 e3; subst e1 e2 e3
   exact AC.liftP rfl (Part.plain (by simp) [] (by simp [Seen]) gsz ⟨_, _, w102 _ _ _⟩)
 · cases h
theorem w50 (l : List Int) (o c : Nat) (hl : l.length < 2 ^ 31) : AC Tryz.prog 50 [.slice (some ⟨9, o, none⟩) l.length c] [(9, .inp o (l.map iv))] 10 (iv (firstV l)) [(9, .inp o (l.map iv))] 10 := by
 have hr := recT_ok (P := Tryz.prog) (l := []) (by simp)
 refine AC.pure Tryz.func50 rfl (by kernel_rfl) rfl [0, 3] rfl ?_
 refine E.seq (E.reg hr (by simp; rfl) ?_)
 refine E.seq (E.seq (E.reg hr (by simp; rfl) ?_))
 refine E.block (E.loop ?_)
 refine EL.ind (fun i : Nat => { fr := [(0, .slice (some ⟨9, o, none⟩) l.length c), (3, iv i)], sz := 19, H := [(9, .inp o (l.map iv))], n := 10, marks := [], vs := [0, 3] }) (fun i => l.length - i) (fun i => i ≤ l.length ∧ firstV (l.drop i) = firstV l) 0 (.less rfl rfl rfl (by simp) (by simp)) ⟨Nat.zero_le _, rfl⟩ (fun _ => rfl) ?_
 intro i ⟨hi, hg⟩
 have hw : IntKind.i64.wrap ((i : Int) + 1) = (i : Int) + 1 := W_in (by omega) (by omega)
 refine E.seq (E.seq (E.reg hr (by simp [opBuiltin, builtinA]; rfl) ?_))
 refine E.cond (by rfl) (fun h => ?_) (fun h => ?_)
 · simp at h
   refine E.skip (E.seq ?_)
   refine E.block (E.seq (E.reg hr (by simp [opIndexaddr, Tryz.underlying41, flat, h, loadA, cellA]; rfl) ?_))
   refine E.cond (by rfl) (fun h2 => ?_) (fun h2 => ?_)
   · simp at h2
     refine E.seq (E.reg hr (by simp [opIndexaddr, Tryz.underlying41, flat, h, loadA, cellA]; rfl) ?_)
     refine E.ret ?_
     refine pureK.ret rfl rfl ?_ (sub_refl _)
     rw [List.drop_eq_getElem_cons h] at hg
     simp [one, ← hg, firstV, h2]
   · simp at h2
     refine E.skip (E.reg hr (by simp [hw]; rfl) ?_)
     rw [List.drop_eq_getElem_cons h] at hg
     exact ⟨i + 1, .less rfl rfl rfl (by simp) (by simp), ⟨h, by rw [← hg]; simp [firstV, h2]⟩, by dsimp only; omega⟩
 · simp at h
   refine E.exit ?_
   refine E.seq (E.reg hr (by simp; rfl) ?_)
   refine E.ret ?_
   have : l.drop i = [] := by simp; omega
   refine pureK.ret rfl rfl ?_ (sub_refl _)
   simp [one, ← hg, this, firstV]
def g50 (args : List Value) (H : Heap) (n : Nat) : R := match args with
 | [.slice (some a) len _] => (intsAt H a len).map fun l => (iv (firstV l), H, n)
 | _ => none
theorem ok50 : EntOk Tryz.prog (50, g50) := by
 intro args H n v H' n' h
 simp only [g50] at h
 split at h
 · rename_i a len c
   rw [Option.map_eq_some_iff] at h
   obtain ⟨l, h1, h⟩ := h
   injection h with e1 e2; injection e2 with e2 e3; subst e1 e2 e3
   obtain ⟨hf, hc, hlen, hlt⟩ := intsAt_ok h1
   subst hlen
   exact AC.liftP rfl (Part.one (fun s => [s]) (by intro φ φ0 s s0 h; simp [denL, h]) (by intro p s h; exact ⟨h, trivial⟩) hf hc (afL_iv l) [] (by simp [Seen]) gsz fun c => ⟨_, _, w50 l _ c hlt⟩)
 · cases h
def intsW (H : Heap) : Value → Option (List Int)
 | .slice none 0 0 => some []
 | .slice (some a) len _ => intsAt H a len
 | _ => none
end Go.Proofs.YtdmepnhmcppkkaaGreatDoor
namespace Go.Proofs.YtdmepnhmcppkkaaGreatDoor
open Go Go.Ab Go.Proofs
theorem names_sx (l c : Nat) : Names1 fun m => .slice (some ⟨m, 0, some 0⟩) l c := ⟨fun φ ψ m n h1 h2 => by simp [den, h1, h2], fun p n h => by simp [sc, h]⟩
theorem names_fl (l c : Nat) : Names1 fun m => .slice (some ⟨m, 0, none⟩) l c := ⟨fun φ ψ m n h1 h2 => by simp [den, h1], fun p n h => by simp [sc, h]⟩
def intQ (k : Nat) (l : List Int) (u : Value) (H : Heap) : Prop := ∃ m, u = .slice (some ⟨m, 0, some 0⟩) l.length 0 ∧ hget H m = some (.ext (l.map iv) 3 1) ∧ k ≤ m
@[simp] theorem oneL_iv (l : List Int) : oneL (l.map iv) = true := by
 induction l with
 | nil => rfl
 | cons a l ih => simp [oneL, ih]
theorem w33 (sh : List Int) (o c : Nat) (hne : sh ≠ []) (hl : sh.length ≤ 4096) : ∃ u H1 n1 H2, AC Tryz.prog 33 [.slice (some ⟨9, o, none⟩) sh.length c] [(9, .inp o (sh.map iv))] 10 u H1 n1 ∧ intQ 10 sh u H2 ∧ (af u = false → H1 = H2) := by
 have hr := recT_ok (P := Tryz.prog) (l := []) (by simp)
 have hpos : 0 < sh.length := List.length_pos_iff.2 hne
 have ht : List.take sh.length (sh.map iv) = sh.map iv := List.take_of_length_le (by simp)
 have hsm : sh.length * 8 ≤ 1099511627776 ∧ sh.length ≤ 1099511627776 := by omega
 have hn0 : ¬ sh.length = 0 := by omega
 refine AC.out Tryz.func33 rfl (by kernel_rfl) rfl [] ?_
 refine E.seq (E.reg hr (by simp; rfl) ?_)
 refine E.seq (E.reg hr (by simp [ht, hsm, hne]; rfl) ?_)
 refine E.ret ?_
 refine outK.ret rfl rfl ?_
 exact ⟨11, by simp, by simp, by omega⟩
def emQ (k : Nat) (u : Value) (H : Heap) : Prop := ∃ m, u = .slice (some ⟨m, 0, none⟩) 0 0 ∧ hget H m = some (.cells [] 3) ∧ k ≤ m
theorem w33e (o c : Nat) : ∃ u H1 n1 H2, AC Tryz.prog 33 [.slice (some ⟨9, o, none⟩) 0 c] [(9, .inp o [])] 10 u H1 n1 ∧ emQ 10 u H2 ∧ (af u = false → H1 = H2) := by
 have hr := recT_ok (P := Tryz.prog) (l := []) (by simp)
 refine AC.out Tryz.func33 rfl (by kernel_rfl) rfl [] ?_
 refine E.seq (E.reg hr (by simp; rfl) ?_)
 refine E.seq (E.reg hr (by simp; rfl) ?_)
 refine E.ret ?_
 refine outK.ret rfl rfl ?_
 exact ⟨10, by simp, by simp, by omega⟩
theorem w33n : ∃ u H1 n1 H2, AC Tryz.prog 33 [.slice none 0 0] [] 9 u H1 n1 ∧ emQ 9 u H2 ∧ (af u = false → H1 = H2) := by
 have hr := recT_ok (P := Tryz.prog) (l := []) (by simp)
 refine AC.out Tryz.func33 rfl (by kernel_rfl) rfl [] ?_
 refine E.seq (E.reg hr (by simp; rfl) ?_)
 refine E.seq (E.reg hr (by simp; rfl) ?_)
 refine E.ret ?_
 refine outK.ret rfl rfl ?_
 exact ⟨9, by simp, by simp, by omega⟩
def g33 (args : List Value) (H : Heap) (n : Nat) : R := match args with
 | [t] => match intsW H t with
   | some sh => if sh = [] then some (.slice (some ⟨n, 0, none⟩) 0 0, (n, .cells [] 3) :: H, n + 1) else if sh.length ≤ 4096 then some (.slice (some ⟨n, 0, some 0⟩) sh.length 0, (n, .ext (sh.map iv) 3 1) :: H, n + 1) else none
   | none => none
 | _ => none
theorem ok33 : EntOk Tryz.prog (33, g33) := by
 intro args H n v H' n' h'
 simp only [g33] at h'
 split at h'
 · split at h'
   · rename_i sh ht
     split at h'
     · rename_i he
       subst he
       injection h' with h'; injection h' with e1 e2; injection e2 with e2 e3; subst e1 e2 e3
       unfold intsW at ht
       split at ht
       · refine AC.liftF (names_fl 0 0) (.inl ⟨_, _, rfl, rfl⟩) (Part.plain (by simp) [] (by simp [Seen]) gsz ?_)
         obtain ⟨u, H1, n1, H2, hAC, ⟨m, hu, hm, hle⟩, hh⟩ := w33n
         subst hu
         have := hh (by simp)
         subst this
         exact ⟨m, _, _, hle, hm, hAC⟩
       · obtain ⟨hf, hc, hlen, _⟩ := intsAt_ok ht
         subst hlen
         refine AC.liftF (names_fl 0 0) (.inl ⟨_, _, rfl, rfl⟩) (Part.one (fun x => [x]) (by intro φ φ0 s s0 h; simp [denL, h]) (by intro p s h; exact ⟨h, trivial⟩) hf hc (afL_iv []) [] (by simp [Seen]) gsz fun c => ?_)
         obtain ⟨u, H1, n1, H2, hAC, ⟨m, hu, hm, hle⟩, hh⟩ := w33e _ c
         subst hu
         have := hh (by simp)
         subst this
         exact ⟨m, _, _, hle, hm, hAC⟩
       · cases ht
     · rename_i hne
       split at h'
       · rename_i hl
         injection h' with h'; injection h' with e1 e2; injection e2 with e2 e3; subst e1 e2 e3
         unfold intsW at ht
         split at ht
         · injection ht with ht; exact absurd ht.symm hne
         · obtain ⟨hf, hc, hlen, _⟩ := intsAt_ok ht
           subst hlen
           refine AC.liftF (names_sx _ _) (.inr ⟨_, _, _, rfl, afL_iv _⟩) (Part.one (fun x => [x]) (by intro φ φ0 s s0 h; simp [denL, h]) (by intro p s h; exact ⟨h, trivial⟩) hf hc (afL_iv sh) [] (by simp [Seen]) gsz fun c => ?_)
           obtain ⟨u, H1, n1, H2, hAC, ⟨m, hu, hm, hle⟩, hh⟩ := w33 sh _ c hne hl
           subst hu
           have := hh (by simp)
           subst this
           exact ⟨m, _, _, hle, hm, hAC⟩
         · cases ht
       · cases h'
   · cases h'
 · cases h'
end Go.Proofs.YtdmepnhmcppkkaaGreatDoor

namespace Go.Proofs.YtdmepnhmcppkkaaGreatDoor
open Go Go.Ab Go.Proofs
structure Gr where
 ox : Int
 oy : Int
 w : Int
 h : Int
 c : Int
 r : Int
def Gr.cs (g : Gr) : List Value := [iv g.ox, iv g.oy, iv g.w, iv g.h, iv g.c, iv g.r]
structure Pc where
 sx : Int
 sy : Int
 rx : Int
 ry : Int
def Pc.cs (p : Pc) : List Value := [iv p.sx, iv p.sy, iv p.rx, iv p.ry]
def shGrid (g : Gr) : Bool := (decide (g.c ≤ 6) || decide (16 < g.c)) && (decide (g.r ≤ 6) || decide (16 < g.r))
theorem w16 (g : Gr) : AC Tryz.prog 16 [.agg #[iv g.ox, iv g.oy, iv g.w, iv g.h, iv g.c, iv g.r]] [] 9 (.bool (shGrid g)) [] 9 := by
 have hr := recT_ok (P := Tryz.prog) (l := []) (by simp)
 refine AC.pure Tryz.func16 rfl (by kernel_rfl) rfl [] rfl ?_
 refine E.seq (E.reg hr (by simp [argsFr, Tryz.f16]; rfl) ?_)
 refine E.seq ?_
 obtain ⟨b1, h1⟩ : ∃ b, decide (g.c ≤ 6) = b := ⟨_, rfl⟩
 obtain ⟨b2, h2⟩ : ∃ b, decide (16 < g.c) = b := ⟨_, rfl⟩
 obtain ⟨b3, h3⟩ : ∃ b, decide (g.r ≤ 6) = b := ⟨_, rfl⟩
 obtain ⟨b4, h4⟩ : ∃ b, decide (16 < g.r) = b := ⟨_, rfl⟩
 cases b1 <;> cases b2 <;> cases b3 <;> cases b4 <;>
   (refine E.reg hr (by simp [oneF_guard, yieldedA, h1, h2, h3, h4, -decide_eq_true_eq, -decide_eq_false_iff_not]; rfl) ?_
    refine E.ret ?_
    exact pureK.ret rfl rfl (by simp [one, shGrid, h1, h2, h3, h4]) (by repeat first | exact sub_refl _ | refine sub_cons rfl ?_))
def g16 (args : List Value) (H : Heap) (n : Nat) : R := match args with
 | [.agg ⟨[.int .i64 a, .int .i64 b, .int .i64 c, .int .i64 d, .int .i64 e, .int .i64 f]⟩] => some (.bool (shGrid ⟨a, b, c, d, e, f⟩), H, n)
 | _ => none
theorem ok16 : EntOk Tryz.prog (16, g16) := by
 intro args H n v H' n' h
 simp only [g16] at h
 split at h
 · rename_i a b c d e f
   injection h with h; injection h with e1 e2; injection e2 with e2 e3; subst e1 e2 e3
   exact AC.liftP rfl (Part.plain (by simp) [] (by simp [Seen]) gsz ⟨_, _, w16 ⟨a, b, c, d, e, f⟩⟩)
 · cases h
def ptE (x y m : Int) : Int := firstV [withinV x (-m) m, withinV y (-m) m]
set_option maxRecDepth 30000 in
theorem w99 (x y m : Int) (h0 : 0 ≤ m) (h1 : m ≤ 100000) : AC Tryz.prog 99 [.agg #[iv x, iv y], iv m] [] 9 (iv (ptE x y m)) [] 9 := by
 have hr := recT_ok (P := Tryz.prog) (l := [(100, g100), (98, g98)]) (by simp [ok100, ok98])
 refine AC.pure Tryz.func99 rfl (by kernel_rfl) rfl [] rfl ?_
 refine E.seq (E.reg hr (by simp [argsFr, Tryz.f99]; rfl) ?_)
 refine E.seq ?_
 have hw : IntKind.i64.wrap (-m) = -m := W_in (by omega) (by omega)
 have he : firstV [withinV x (-m) m, withinV y (-m) m] = ptE x y m := rfl
 refine E.drawC mixed hr [11, 12, 13] [5, 11, 12, 13] [1, 5, 11, 12, 13] (by kernel_rfl) (by simp [g100, g98, intsAt, flat, cellsA, Nat.blt]; rfl) ?_
 refine E.ret ?_
 exact pureK.ret rfl rfl (by simp [one, hw, he]) (by repeat first | exact sub_refl _ | refine sub_cons rfl ?_)
def g99 (args : List Value) (H : Heap) (n : Nat) : R := match args with
 | [.agg ⟨[.int .i64 a, .int .i64 b]⟩, .int .i64 m] => if 0 ≤ m ∧ m ≤ 100000 then some (.int .i64 (ptE a b m), H, n) else none
 | _ => none
theorem ok99 : EntOk Tryz.prog (99, g99) := by
 intro args H n v H' n' h
 simp only [g99] at h
 split at h
 · split at h
   · rename_i hc
     injection h with h; injection h with e1 e2; injection e2 with e2 e3; subst e1 e2 e3
     exact AC.liftP rfl (Part.plain (by simp) [] (by simp [Seen]) gsz ⟨_, _, w99 _ _ _ hc.1 hc.2⟩)
   · cases h
 · cases h
theorem w101 (x y m : Int) (h0 : 0 ≤ m) (h1 : m ≤ 100000) : AC Tryz.prog 101 [.agg #[iv x, iv y], iv m] [] 9 (iv (ptE x y m)) [] 9 := by
 have hr := recT_ok (P := Tryz.prog) (l := [(102, g102), (50, g50)]) (by simp [ok102, ok50])
 refine AC.pure Tryz.func101 rfl (by kernel_rfl) rfl [] rfl ?_
 refine E.seq (E.reg hr (by simp [argsFr, Tryz.f101]; rfl) ?_)
 refine E.seq ?_
 have hw : IntKind.i64.wrap (0 - m) = -m := by rw [Int.zero_sub]; exact W_in (by omega) (by omega)
 have hw' : IntKind.i64.wrap (-m) = -m := W_in (by omega) (by omega)
 have he : firstV [withinV x (-m) m, withinV y (-m) m] = ptE x y m := rfl
 refine E.drawC mixed hr [11, 12, 13] [5, 11, 12, 13] [1, 5, 11, 12, 13] (by kernel_rfl) (by simp [g102, g50, intsAt, flat, cellsA, intsOf, Nat.blt, hw', he]; rfl) ?_
 refine E.ret ?_
 exact pureK.ret rfl rfl (by simp [one]) (by repeat first | exact sub_refl _ | refine sub_cons rfl ?_)
def g101 (args : List Value) (H : Heap) (n : Nat) : R := match args with
 | [.agg ⟨[.int .i64 a, .int .i64 b]⟩, .int .i64 m] => if 0 ≤ m ∧ m ≤ 100000 then some (.int .i64 (ptE a b m), H, n) else none
 | _ => none
theorem ok101 : EntOk Tryz.prog (101, g101) := by
 intro args H n v H' n' h
 simp only [g101] at h
 split at h
 · split at h
   · rename_i hc
     injection h with h; injection h with e1 e2; injection e2 with e2 e3; subst e1 e2 e3
     exact AC.liftP rfl (Part.plain (by simp) [] (by simp [Seen]) gsz ⟨_, _, w101 _ _ _ hc.1 hc.2⟩)
   · cases h
 · cases h
def griE (g : Gr) : Int := firstV [ptE g.ox g.oy 100000, withinV g.w 1 10000, withinV g.h 1 10000, withinV g.c 1 16, withinV g.r 1 16]
theorem w19 (g : Gr) : AC Tryz.prog 19 [.agg #[iv g.ox, iv g.oy, iv g.w, iv g.h, iv g.c, iv g.r]] [] 9 (iv (griE g)) [] 9 := by
 have hr := recT_ok (P := Tryz.prog) (l := [(99, g99), (100, g100), (98, g98)]) (by simp [ok99, ok100, ok98])
 refine AC.pure Tryz.func19 rfl (by kernel_rfl) rfl [] rfl ?_
 refine E.seq (E.reg hr (by simp [argsFr, Tryz.f19]; rfl) ?_)
 refine E.seq ?_
 have he : firstV [ptE g.ox g.oy 100000, withinV g.w 1 10000, withinV g.h 1 10000, withinV g.c 1 16, withinV g.r 1 16] = griE g := rfl
 refine E.drawC mixed hr [14, 15, 16] [2, 5, 8, 11, 14, 15, 16] [1, 2, 5, 8, 11, 14, 15, 16] (by kernel_rfl) (by simp [g99, g100, g98, intsAt, flat, cellsA, intsOf, Nat.blt, he]; rfl) ?_
 refine E.ret ?_
 exact pureK.ret rfl rfl (by simp [one]) (by repeat first | exact sub_refl _ | refine sub_cons rfl ?_)
def g19 (args : List Value) (H : Heap) (n : Nat) : R := match args with
 | [.agg ⟨[.int .i64 a, .int .i64 b, .int .i64 c, .int .i64 d, .int .i64 e, .int .i64 f]⟩] => some (.int .i64 (griE ⟨a, b, c, d, e, f⟩), H, n)
 | _ => none
theorem ok19 : EntOk Tryz.prog (19, g19) := by
 intro args H n v H' n' h
 simp only [g19] at h
 split at h
 · rename_i a b c d e f
   injection h with h; injection h with e1 e2; injection e2 with e2 e3; subst e1 e2 e3
   exact AC.liftP rfl (Part.plain (by simp) [] (by simp [Seen]) gsz ⟨_, _, w19 ⟨a, b, c, d, e, f⟩⟩)
 · cases h
theorem w20 (g : Gr) : AC Tryz.prog 20 [.agg #[iv g.ox, iv g.oy, iv g.w, iv g.h, iv g.c, iv g.r]] [] 9 (iv (griE g)) [] 9 := by
 have hr := recT_ok (P := Tryz.prog) (l := [(101, g101), (102, g102), (50, g50)]) (by simp [ok101, ok102, ok50])
 refine AC.pure Tryz.func20 rfl (by kernel_rfl) rfl [] rfl ?_
 refine E.seq (E.reg hr (by simp [argsFr, Tryz.f20]; rfl) ?_)
 refine E.seq ?_
 have he : firstV [ptE g.ox g.oy 100000, withinV g.w 1 10000, withinV g.h 1 10000, withinV g.c 1 16, withinV g.r 1 16] = griE g := rfl
 refine E.drawC mixed hr [14, 15, 16] [2, 5, 8, 11, 14, 15, 16] [1, 2, 5, 8, 11, 14, 15, 16] (by kernel_rfl) (by simp [g101, g102, g50, intsAt, flat, cellsA, intsOf, Nat.blt, he]; rfl) ?_
 refine E.ret ?_
 exact pureK.ret rfl rfl (by simp [one]) (by repeat first | exact sub_refl _ | refine sub_cons rfl ?_)
def g20 (args : List Value) (H : Heap) (n : Nat) : R := match args with
 | [.agg ⟨[.int .i64 a, .int .i64 b, .int .i64 c, .int .i64 d, .int .i64 e, .int .i64 f]⟩] => some (.int .i64 (griE ⟨a, b, c, d, e, f⟩), H, n)
 | _ => none
theorem ok20 : EntOk Tryz.prog (20, g20) := by
 intro args H n v H' n' h
 simp only [g20] at h
 split at h
 · rename_i a b c d e f
   injection h with h; injection h with e1 e2; injection e2 with e2 e3; subst e1 e2 e3
   exact AC.liftP rfl (Part.plain (by simp) [] (by simp [Seen]) gsz ⟨_, _, w20 ⟨a, b, c, d, e, f⟩⟩)
 · cases h
def plcE (p : Pc) : Int := firstV [ptE p.sx p.sy 100000, ptE p.rx p.ry 100000]
theorem w113 (p : Pc) : AC Tryz.prog 113 [.agg #[iv p.sx, iv p.sy, iv p.rx, iv p.ry]] [] 9 (iv (plcE p)) [] 9 := by
 have hr := recT_ok (P := Tryz.prog) (l := [(99, g99), (98, g98)]) (by simp [ok99, ok98])
 refine AC.pure Tryz.func113 rfl (by kernel_rfl) rfl [] rfl ?_
 refine E.seq (E.reg hr (by simp [argsFr, Tryz.f113]; rfl) ?_)
 refine E.seq ?_
 have he : firstV [ptE p.sx p.sy 100000, ptE p.rx p.ry 100000] = plcE p := rfl
 refine E.drawC mixed hr [5, 6, 7] [2, 5, 6, 7] [1, 2, 5, 6, 7] (by kernel_rfl) (by simp [g99, g98, intsAt, flat, cellsA, intsOf, Nat.blt, he]; rfl) ?_
 refine E.ret ?_
 exact pureK.ret rfl rfl (by simp [one]) (by repeat first | exact sub_refl _ | refine sub_cons rfl ?_)
def g113 (args : List Value) (H : Heap) (n : Nat) : R := match args with
 | [.agg ⟨[.int .i64 a, .int .i64 b, .int .i64 c, .int .i64 d]⟩] => some (.int .i64 (plcE ⟨a, b, c, d⟩), H, n)
 | _ => none
theorem ok113 : EntOk Tryz.prog (113, g113) := by
 intro args H n v H' n' h
 simp only [g113] at h
 split at h
 · rename_i a b c d
   injection h with h; injection h with e1 e2; injection e2 with e2 e3; subst e1 e2 e3
   exact AC.liftP rfl (Part.plain (by simp) [] (by simp [Seen]) gsz ⟨_, _, w113 ⟨a, b, c, d⟩⟩)
 · cases h
theorem w51 (p : Pc) : AC Tryz.prog 51 [.agg #[iv p.sx, iv p.sy, iv p.rx, iv p.ry]] [] 9 (iv (plcE p)) [] 9 := by
 have hr := recT_ok (P := Tryz.prog) (l := [(101, g101), (50, g50)]) (by simp [ok101, ok50])
 refine AC.pure Tryz.func51 rfl (by kernel_rfl) rfl [] rfl ?_
 refine E.seq (E.reg hr (by simp [argsFr, Tryz.f51]; rfl) ?_)
 refine E.seq ?_
 have he : firstV [ptE p.sx p.sy 100000, ptE p.rx p.ry 100000] = plcE p := rfl
 refine E.drawC mixed hr [5, 6, 7] [2, 5, 6, 7] [1, 2, 5, 6, 7] (by kernel_rfl) (by simp [g101, g50, intsAt, flat, cellsA, intsOf, Nat.blt, he]; rfl) ?_
 refine E.ret ?_
 exact pureK.ret rfl rfl (by simp [one]) (by repeat first | exact sub_refl _ | refine sub_cons rfl ?_)
def g51 (args : List Value) (H : Heap) (n : Nat) : R := match args with
 | [.agg ⟨[.int .i64 a, .int .i64 b, .int .i64 c, .int .i64 d]⟩] => some (.int .i64 (plcE ⟨a, b, c, d⟩), H, n)
 | _ => none
theorem ok51 : EntOk Tryz.prog (51, g51) := by
 intro args H n v H' n' h
 simp only [g51] at h
 split at h
 · rename_i a b c d
   injection h with h; injection h with e1 e2; injection e2 with e2 e3; subst e1 e2 e3
   exact AC.liftP rfl (Part.plain (by simp) [] (by simp [Seen]) gsz ⟨_, _, w51 ⟨a, b, c, d⟩⟩)
 · cases h
end Go.Proofs.YtdmepnhmcppkkaaGreatDoor

namespace Go.Proofs.YtdmepnhmcppkkaaGreatDoor
open Go Go.Ab Go.Proofs
def partV (t o s k : Int) : Int := if t - 2 * o < 0 ∨ 2 * s * k ≤ t - 2 * o then -1 else (t - 2 * o) / (2 * s)
theorem part_iff {t o s k c : Int} (hs : 1 ≤ s) (h0 : 0 ≤ c) (h1 : c < k) : (2 * (o + c * s) ≤ t ∧ t < 2 * (o + c * s) + 2 * s) ↔ partV t o s k = c := by
 obtain ⟨a, ha⟩ : ∃ a, 2 * s = a := ⟨_, rfl⟩
 obtain ⟨n, hn⟩ : ∃ n, t - 2 * o = n := ⟨_, rfl⟩
 have hca : 2 * (c * s) = c * a := by rw [← ha, ← Int.mul_assoc, Int.mul_comm 2 c, Int.mul_assoc]
 have hck : (c + 1) * a ≤ a * k := by rw [Int.mul_comm a k]; exact Int.mul_le_mul_of_nonneg_right (by omega) (by omega)
 rw [Int.add_mul, Int.one_mul] at hck
 have hc0 : 0 ≤ c * a := Int.mul_nonneg h0 (by omega)
 unfold partV
 rw [ha, hn]
 constructor
 · rintro ⟨h2, h3⟩
   rw [if_neg (by omega)]
   apply Int.le_antisymm
   · have : n / a < c + 1 := Int.ediv_lt_of_lt_mul (by omega) (by rw [Int.add_mul, Int.one_mul]; omega)
     omega
   · exact Int.le_ediv_of_mul_le (by omega) (by omega)
 · intro h
   by_cases hc : n < 0 ∨ a * k ≤ n
   · rw [if_pos hc] at h; omega
   · rw [if_neg hc] at h
     have e := Int.mul_ediv_add_emod n a
     have l1 := Int.emod_nonneg n (show a ≠ 0 by omega)
     have l2 := Int.emod_lt_of_pos n (show 0 < a by omega)
     rw [h, Int.mul_comm a c] at e
     constructor <;> omega
theorem partV_range {t o s k : Int} (hs : 1 ≤ s) : partV t o s k = -1 ∨ (0 ≤ partV t o s k ∧ partV t o s k < k) := by
 unfold partV
 by_cases hc : t - 2 * o < 0 ∨ 2 * s * k ≤ t - 2 * o
 · exact .inl (if_pos hc)
 · rw [if_neg hc]
   refine .inr ⟨Int.ediv_nonneg (by omega) (by omega), Int.ediv_lt_of_lt_mul (by omega) ?_⟩
   rw [Int.mul_comm k]
   omega
def PartIn (t o s k : Int) : Prop := -200000 ≤ t ∧ t ≤ 200000 ∧ -100000 ≤ o ∧ o ≤ 100000 ∧ 1 ≤ s ∧ s ≤ 10000 ∧ 1 ≤ k ∧ k ≤ 16
instance (t o s k : Int) : Decidable (PartIn t o s k) := by unfold PartIn; infer_instance
theorem w187 (t o s k : Int) (h : PartIn t o s k) : AC Tryz.prog 187 [iv t, iv o, iv s, iv k] [] 9 (iv (partV t o s k)) [] 9 := by
 have hr := recT_ok (P := Tryz.prog) (l := []) (by simp)
 obtain ⟨h1, h2, h3, h4, h5, h6, h7, h8⟩ := h
 refine AC.pure Tryz.func187 rfl (by kernel_rfl) rfl [] rfl ?_
 refine E.seq ?_
 refine E.reg hr (by simp [argsFr, Tryz.f187]; rfl) ?_ -- region 0
 refine E.seq ?_
 have hw1 : IntKind.i64.wrap (2 * o) = 2 * o := W_in (by omega) (by omega)
 have hw2 : IntKind.i64.wrap (t - 2 * o) = t - 2 * o := W_in (by omega) (by omega)
 have hw3 : IntKind.i64.wrap (2 * s) = 2 * s := W_in (by omega) (by omega)
 have hsk0 : 0 ≤ 2 * s * k := Int.mul_nonneg (by omega) (by omega)
 have hsk1 : 2 * s * k ≤ 20000 * 16 := Int.mul_le_mul (by omega) (by omega) (by omega) (by omega)
 have hw4 : IntKind.i64.wrap (2 * s * k) = 2 * s * k := W_in (by omega) (by omega)
 refine E.reg hr (by simp [hw1, hw2]; rfl) ?_ -- region 1
 refine E.seq (E.seq ?_)
 obtain ⟨b1, c1⟩ : ∃ b, decide (t - 2 * o < 0) = b := ⟨_, rfl⟩
 obtain ⟨b2, c2⟩ : ∃ b, decide (2 * s * k ≤ t - 2 * o) = b := ⟨_, rfl⟩
 cases b1
 · cases b2
   · refine E.reg hr (by simp [oneF_guard, yieldedA, hw3, hw4, c1, c2, -decide_eq_true_eq, -decide_eq_false_iff_not]; rfl) ?_ -- region 2
     refine E.cond (t := false) (by rfl) (fun h => by cases h) (fun _ => ?_)
     simp only [decide_eq_false_iff_not] at c1 c2
     refine E.skip (E.seq ?_)
     have hq : (t - 2 * o).tdiv (2 * s) = (t - 2 * o) / (2 * s) := Int.tdiv_eq_ediv_of_nonneg (by omega)
     have hne : 2 * s ≠ 0 := by omega
     have hs0 : s ≠ 0 := by omega
     have hq0 : 0 ≤ (t - 2 * o) / (2 * s) := Int.ediv_nonneg (by omega) (by omega)
     have hq1 : (t - 2 * o) / (2 * s) ≤ t - 2 * o := Int.ediv_le_self _ (by omega)
     have hw5 : IntKind.i64.wrap ((t - 2 * o) / (2 * s)) = (t - 2 * o) / (2 * s) := W_in (by omega) (by omega)
     refine E.reg hr (by simp [bin_quo, hw3, hne, hq, hw5]; rfl) ?_ -- region 4
     refine E.ret ?_
     exact pureK.ret rfl rfl (by simp [one, partV, c1, c2]) (sub_refl _)
   · refine E.reg hr (by simp [oneF_guard, yieldedA, hw3, hw4, c1, c2, -decide_eq_true_eq, -decide_eq_false_iff_not]; rfl) ?_ -- region 2
     refine E.cond (t := true) (by rfl) (fun _ => ?_) (fun h => by cases h)
     simp only [decide_eq_true_eq] at c2
     refine E.seq ?_
     refine E.reg hr (by simp; rfl) ?_ -- region 3
     refine E.ret ?_
     exact pureK.ret rfl rfl (by simp [one, partV, c2]) (sub_refl _)
 · refine E.reg hr (by simp [oneF_guard, yieldedA, c1, -decide_eq_true_eq, -decide_eq_false_iff_not]; rfl) ?_ -- region 2
   refine E.cond (t := true) (by rfl) (fun _ => ?_) (fun h => by cases h)
   simp only [decide_eq_true_eq] at c1
   refine E.seq ?_
   refine E.reg hr (by simp; rfl) ?_ -- region 3
   refine E.ret ?_
   exact pureK.ret rfl rfl (by simp [one, partV, c1]) (sub_refl _)
def g187 (args : List Value) (H : Heap) (n : Nat) : R := match args with
 | [.int .i64 a, .int .i64 b, .int .i64 c, .int .i64 d] => if PartIn a b c d then some (.int .i64 (partV a b c d), H, n) else none
 | _ => none
theorem ok187 : EntOk Tryz.prog (187, g187) := by
 intro args H n v H' n' h
 simp only [g187] at h
 split at h
 · split at h
   · rename_i hc
     injection h with h; injection h with e1 e2; injection e2 with e2 e3; subst e1 e2 e3
     exact AC.liftP rfl (Part.plain (by simp) [] (by simp [Seen]) gsz ⟨_, _, w187 _ _ _ _ hc⟩)
   · cases h
 · cases h
def GrIn (g : Gr) : Prop := -100000 ≤ g.ox ∧ g.ox ≤ 100000 ∧ -100000 ≤ g.oy ∧ g.oy ≤ 100000 ∧ 1 ≤ g.w ∧ g.w ≤ 10000 ∧ 1 ≤ g.h ∧ g.h ≤ 10000 ∧ 1 ≤ g.c ∧ g.c ≤ 16 ∧ 1 ≤ g.r ∧ g.r ≤ 16
instance (g : Gr) : Decidable (GrIn g) := by unfold GrIn; infer_instance
def PcIn (p : Pc) : Prop := -100000 ≤ p.sx ∧ p.sx ≤ 100000 ∧ -100000 ≤ p.sy ∧ p.sy ≤ 100000 ∧ -100000 ≤ p.rx ∧ p.rx ≤ 100000 ∧ -100000 ≤ p.ry ∧ p.ry ≤ 100000
instance (p : Pc) : Decidable (PcIn p) := by unfold PcIn; infer_instance
theorem withinV_zero {a lo hi : Int} : withinV a lo hi = 0 ↔ lo ≤ a ∧ a ≤ hi := by
 unfold withinV
 constructor
 · intro h
   by_cases hc : a < lo ∨ hi < a
   · rw [if_pos hc] at h; cases h
   · omega
 · intro h
   rw [if_neg (by omega)]
theorem firstV_cons_zero {e : Int} {l : List Int} : firstV (e :: l) = 0 ↔ e = 0 ∧ firstV l = 0 := by
 by_cases h : e = 0
 · simp [firstV, h]
 · simp [firstV, h]
theorem ptE_zero {x y m : Int} : ptE x y m = 0 ↔ (-m ≤ x ∧ x ≤ m) ∧ -m ≤ y ∧ y ≤ m := by
 unfold ptE
 rw [firstV_cons_zero, firstV_cons_zero, withinV_zero, withinV_zero]
 simp [firstV]
theorem griE_zero {g : Gr} : griE g = 0 ↔ GrIn g := by
 unfold griE GrIn
 simp only [firstV_cons_zero, withinV_zero, ptE_zero]
 simp only [firstV]
 constructor
 · rintro ⟨⟨⟨h1, h2⟩, h3, h4⟩, ⟨h5, h6⟩, ⟨h7, h8⟩, ⟨h9, h10⟩, ⟨h11, h12⟩, _⟩
   exact ⟨h1, h2, h3, h4, h5, h6, h7, h8, h9, h10, h11, h12⟩
 · rintro ⟨h1, h2, h3, h4, h5, h6, h7, h8, h9, h10, h11, h12⟩
   exact ⟨⟨⟨h1, h2⟩, h3, h4⟩, ⟨h5, h6⟩, ⟨h7, h8⟩, ⟨h9, h10⟩, ⟨h11, h12⟩, trivial⟩
theorem plcE_zero {p : Pc} : plcE p = 0 ↔ PcIn p := by
 unfold plcE PcIn
 simp only [firstV_cons_zero, ptE_zero]
 simp only [firstV]
 constructor
 · rintro ⟨⟨⟨h1, h2⟩, h3, h4⟩, ⟨⟨h5, h6⟩, h7, h8⟩, _⟩
   exact ⟨h1, h2, h3, h4, h5, h6, h7, h8⟩
 · rintro ⟨h1, h2, h3, h4, h5, h6, h7, h8⟩
   exact ⟨⟨⟨h1, h2⟩, h3, h4⟩, ⟨⟨h5, h6⟩, h7, h8⟩, trivial⟩
def colV (g : Gr) (p : Pc) : Int := partV (p.sx + p.rx) g.ox g.w g.c
def rowV (g : Gr) (p : Pc) : Int := partV (p.sy + p.ry) g.oy g.h g.r
def binV (g : Gr) (p : Pc) : Int := if colV g p = -1 ∨ rowV g p = -1 then -1 else rowV g p * g.c + colV g p
theorem col_range {g : Gr} (h : GrIn g) (p : Pc) : colV g p = -1 ∨ (0 ≤ colV g p ∧ colV g p < g.c) := partV_range h.2.2.2.2.1
theorem row_range {g : Gr} (h : GrIn g) (p : Pc) : rowV g p = -1 ∨ (0 ≤ rowV g p ∧ rowV g p < g.r) := partV_range h.2.2.2.2.2.2.1
theorem bin_range {g : Gr} (h : GrIn g) (p : Pc) : binV g p = -1 ∨ (0 ≤ binV g p ∧ binV g p < g.c * g.r) := by
 unfold binV
 by_cases hc : colV g p = -1 ∨ rowV g p = -1
 · exact .inl (if_pos hc)
 · rw [if_neg hc]
   rcases col_range h p with h1 | ⟨h1, h2⟩
   · exact absurd (.inl h1) hc
   · rcases row_range h p with h3 | ⟨h3, h4⟩
     · exact absurd (.inr h3) hc
     · refine .inr ⟨Int.add_nonneg (Int.mul_nonneg h3 (by omega)) h1, ?_⟩
       have : (rowV g p + 1) * g.c ≤ g.r * g.c := Int.mul_le_mul_of_nonneg_right (by omega) (by omega)
       rw [Int.add_mul, Int.one_mul] at this
       rw [Int.mul_comm g.c]
       omega
theorem w136 (g : Gr) (p : Pc) (hg : GrIn g) (hp : PcIn p) : AC Tryz.prog 136 [.agg #[iv g.ox, iv g.oy, iv g.w, iv g.h, iv g.c, iv g.r], .agg #[iv p.sx, iv p.sy, iv p.rx, iv p.ry]] [] 9 (iv (binV g p)) [] 9 := by
 have hr := recT_ok (P := Tryz.prog) (l := [(187, g187)]) (by simp [ok187])
 have hcr := col_range hg p
 have hrr := row_range hg p
 obtain ⟨a1, a2, a3, a4, a5, a6, a7, a8, a9, a10, a11, a12⟩ := hg
 obtain ⟨q1, q2, q3, q4, q5, q6, q7, q8⟩ := hp
 refine AC.pure Tryz.func136 rfl (by kernel_rfl) rfl [] rfl ?_
 refine E.seq ?_
 refine E.reg hr (by simp [argsFr, Tryz.f136]; rfl) ?_ -- region 0
 refine E.seq ?_
 have hw1 : IntKind.i64.wrap (p.sx + p.rx) = p.sx + p.rx := W_in (by omega) (by omega)
 have hw2 : IntKind.i64.wrap (p.sy + p.ry) = p.sy + p.ry := W_in (by omega) (by omega)
 have c1 : PartIn (p.sx + p.rx) g.ox g.w g.c := ⟨by omega, by omega, a1, a2, a5, a6, a9, a10⟩
 have c2 : PartIn (p.sy + p.ry) g.oy g.h g.r := ⟨by omega, by omega, a3, a4, a7, a8, a11, a12⟩
 have e1 : partV (p.sx + p.rx) g.ox g.w g.c = colV g p := rfl
 have e2 : partV (p.sy + p.ry) g.oy g.h g.r = rowV g p := rfl
 refine E.reg hr (by simp [hw1, g187, c1, e1]; rfl) ?_ -- region 1
 refine E.seq ?_
 refine E.reg hr (by simp [hw2, g187, c2, e2]; rfl) ?_ -- region 2
 refine E.seq (E.seq ?_)
 by_cases h1 : colV g p = -1
 · refine E.reg hr (by simp [oneF_guard, yieldedA, h1]; rfl) ?_ -- region 3
   refine E.cond (t := true) (by rfl) (fun _ => ?_) (fun h => by cases h)
   refine E.seq ?_
   refine E.reg hr (by simp; rfl) ?_ -- region 4
   refine E.ret ?_
   exact pureK.ret rfl rfl (by simp [one, binV, h1]) (by repeat first | exact sub_refl _ | refine sub_cons rfl ?_)
 by_cases h2 : rowV g p = -1
 · refine E.reg hr (by simp [oneF_guard, yieldedA, h1, h2]; rfl) ?_ -- region 3
   refine E.cond (t := true) (by rfl) (fun _ => ?_) (fun h => by cases h)
   refine E.seq ?_
   refine E.reg hr (by simp; rfl) ?_ -- region 4
   refine E.ret ?_
   exact pureK.ret rfl rfl (by simp [one, binV, h2]) (by repeat first | exact sub_refl _ | refine sub_cons rfl ?_)
 · refine E.reg hr (by simp [oneF_guard, yieldedA, h1, h2]; rfl) ?_ -- region 3
   refine E.cond (t := false) (by rfl) (fun h => by cases h) (fun _ => ?_)
   refine E.skip (E.seq ?_)
   have hm0 : 0 ≤ rowV g p * g.c := Int.mul_nonneg (by omega) (by omega)
   have hm1 : rowV g p * g.c ≤ 16 * 16 := Int.mul_le_mul (by omega) (by omega) (by omega) (by omega)
   have hw3 : IntKind.i64.wrap (rowV g p * g.c) = rowV g p * g.c := W_in (by omega) (by omega)
   have hw4 : IntKind.i64.wrap (rowV g p * g.c + colV g p) = rowV g p * g.c + colV g p := W_in (by omega) (by omega)
   refine E.reg hr (by simp [hw3, hw4]; rfl) ?_ -- region 5
   refine E.ret ?_
   exact pureK.ret rfl rfl (by simp [one, binV, h1, h2]) (by repeat first | exact sub_refl _ | refine sub_cons rfl ?_)
def g136 (args : List Value) (H : Heap) (n : Nat) : R := match args with
 | [.agg ⟨[.int .i64 a, .int .i64 b, .int .i64 c, .int .i64 d, .int .i64 e, .int .i64 f]⟩, .agg ⟨[.int .i64 p, .int .i64 q, .int .i64 r, .int .i64 s]⟩] => if GrIn ⟨a, b, c, d, e, f⟩ ∧ PcIn ⟨p, q, r, s⟩ then some (.int .i64 (binV ⟨a, b, c, d, e, f⟩ ⟨p, q, r, s⟩), H, n) else none
 | _ => none
theorem ok136 : EntOk Tryz.prog (136, g136) := by
 intro args H n v H' n' h
 simp only [g136] at h
 split at h
 · split at h
   · rename_i a b c d e f p q r s hc
     injection h with h; injection h with e1 e2; injection e2 with e2 e3; subst e1 e2 e3
     exact AC.liftP rfl (Part.plain (by simp) [] (by simp [Seen]) gsz ⟨_, _, w136 ⟨a, b, c, d, e, f⟩ ⟨p, q, r, s⟩ hc.1 hc.2⟩)
   · cases h
 · cases h
def bnE (g : Gr) (p : Pc) : Int := firstV [griE g, plcE p]
def bnR (g : Gr) (p : Pc) : Int := if bnE g p = 0 then binV g p else 0
theorem bnE_zero {g : Gr} {p : Pc} : bnE g p = 0 ↔ GrIn g ∧ PcIn p := by
 unfold bnE
 rw [firstV_cons_zero, firstV_cons_zero, griE_zero, plcE_zero]
 simp [firstV]
theorem w48 (g : Gr) (p : Pc) : AC Tryz.prog 48 [.agg #[iv g.ox, iv g.oy, iv g.w, iv g.h, iv g.c, iv g.r], .agg #[iv p.sx, iv p.sy, iv p.rx, iv p.ry]] [] 9 (.tuple #[iv (bnR g p), iv (bnE g p)]) [] 9 := by
 have hr := recT_ok (P := Tryz.prog) (l := [(19, g19), (113, g113), (98, g98), (136, g136)]) (by simp [ok19, ok113, ok98, ok136])
 refine AC.pure Tryz.func48 rfl (by kernel_rfl) rfl [] rfl ?_
 refine E.seq ?_
 refine E.reg hr (by simp [argsFr, Tryz.f48]; rfl) ?_ -- region 0
 refine E.seq (E.seq ?_)
 have he : firstV [griE g, plcE p] = bnE g p := rfl
 refine E.drawC mixed hr [3, 4, 5] [1, 3, 4, 5] [0, 1, 3, 4, 5] (by kernel_rfl) (by simp [g19, g113, g98, intsAt, flat, cellsA, intsOf, Nat.blt, he]; rfl) ?_ -- region 1
 refine E.seq ?_
 refine E.reg hr (by simp; rfl) ?_ -- region 2
 refine E.cond (by rfl) (fun h => ?_) (fun h => ?_)
 · simp at h
   refine E.seq ?_
   refine E.reg hr (by simp; rfl) ?_ -- region 3
   refine E.ret ?_
   exact pureK.ret rfl rfl (by simp [one, bnR, h]) (by repeat first | exact sub_refl _ | refine sub_cons rfl ?_)
 · simp at h
   refine E.skip (E.seq ?_)
   obtain ⟨hg, hp⟩ := bnE_zero.1 h
   refine E.reg hr (by simp [g136, hg, hp]; rfl) ?_ -- region 4
   refine E.ret ?_
   exact pureK.ret rfl rfl (by simp [one, bnR, h]) (by repeat first | exact sub_refl _ | refine sub_cons rfl ?_)
def g48 (args : List Value) (H : Heap) (n : Nat) : R := match args with
 | [.agg ⟨[.int .i64 a, .int .i64 b, .int .i64 c, .int .i64 d, .int .i64 e, .int .i64 f]⟩, .agg ⟨[.int .i64 p, .int .i64 q, .int .i64 r, .int .i64 s]⟩] => some (.tuple #[.int .i64 (bnR ⟨a, b, c, d, e, f⟩ ⟨p, q, r, s⟩), .int .i64 (bnE ⟨a, b, c, d, e, f⟩ ⟨p, q, r, s⟩)], H, n)
 | _ => none
theorem ok48 : EntOk Tryz.prog (48, g48) := by
 intro args H n v H' n' h
 simp only [g48] at h
 split at h
 · rename_i a b c d e f p q r s
   injection h with h; injection h with e1 e2; injection e2 with e2 e3; subst e1 e2 e3
   exact AC.liftP rfl (Part.plain (by simp) [] (by simp [Seen]) gsz ⟨_, _, w48 ⟨a, b, c, d, e, f⟩ ⟨p, q, r, s⟩⟩)
 · cases h
end Go.Proofs.YtdmepnhmcppkkaaGreatDoor

namespace Go.Proofs.YtdmepnhmcppkkaaGreatDoor
open Go Go.Ab Go.Proofs
theorem w53 (g : Gr) (p : Pc) (hg : GrIn g) (hp : PcIn p) : AC Tryz.prog 53 [.agg #[iv g.ox, iv g.oy, iv g.w, iv g.h, iv g.c, iv g.r], .agg #[iv p.sx, iv p.sy, iv p.rx, iv p.ry]] [] 9 (iv (binV g p)) [] 9 := by
 have hr := recT_ok (P := Tryz.prog) (l := []) (by simp)
 have hcr := col_range hg p
 have hrr := row_range hg p
 obtain ⟨a1, a2, a3, a4, a5, a6, a7, a8, a9, a10, a11, a12⟩ := hg
 obtain ⟨q1, q2, q3, q4, q5, q6, q7, q8⟩ := hp
 obtain ⟨R, hR⟩ : ∃ R : Nat, g.r = R := ⟨g.r.toNat, by omega⟩
 obtain ⟨C, hC⟩ : ∃ C : Nat, g.c = C := ⟨g.c.toNat, by omega⟩
 obtain ⟨X, hX⟩ : ∃ X, p.sx + p.rx = X := ⟨_, rfl⟩
 obtain ⟨Y, hY⟩ : ∃ Y, p.sy + p.ry = Y := ⟨_, rfl⟩
 have hw1 : IntKind.i64.wrap X = X := W_in (by omega) (by omega)
 have hw2 : IntKind.i64.wrap Y = Y := W_in (by omega) (by omega)
 have hCl : ∀ c : Nat, c < C → ((2 * (g.ox + c * g.w) ≤ X ∧ X < 2 * (g.ox + c * g.w) + 2 * g.w) ↔ colV g p = c) := fun c hc => by
   unfold colV; rw [hX]; exact part_iff a5 (by omega) (by omega)
 have hRl : ∀ r : Nat, r < R → ((2 * (g.oy + r * g.h) ≤ Y ∧ Y < 2 * (g.oy + r * g.h) + 2 * g.h) ↔ rowV g p = r) := fun r hr => by
   unfold rowV; rw [hY]; exact part_iff a7 (by omega) (by omega)
 refine AC.pure Tryz.func53 rfl (by kernel_rfl) rfl [6, 5, 8, 2, 7, 3] rfl ?_
 refine E.seq ?_
 refine E.reg hr (by simp [argsFr, Tryz.f53]; rfl) ?_ -- region 0
 refine E.seq ?_
 refine E.drawC mixed hr [] [] [2, 5, 9, 12] (by kernel_rfl) (by simp [hX, hY, hw1, hw2]; rfl) ?_ -- region 1
 refine E.seq (E.seq ?_)
 refine E.reg hr (by simp; rfl) ?_ -- region 2
 refine E.block ?_ -- 0
 refine E.loop ?_
 refine EL.ind (fun r : Nat => { fr := [(6, iv Y), (5, iv X), (2, .pointer (some ⟨9, 0, none⟩)), (7, iv r), (3, .pointer (some ⟨10, 0, none⟩))], sz := 87, H := [(10, .cells [iv p.sx, iv p.sy, iv p.rx, iv p.ry] 79), (9, .cells [iv g.ox, iv g.oy, iv g.w, iv g.h, iv g.c, iv g.r] 25)], n := 11, marks := [], vs := [6, 5, 8, 2, 7, 3] })
   (fun r => R - r) (fun r => r ≤ R ∧ (colV g p ≠ -1 → rowV g p ≠ -1 → (r : Int) ≤ rowV g p)) 0 (.less rfl rfl rfl (by simp) (by simp)) ⟨Nat.zero_le _, fun _ _ => by omega⟩ (fun _ => rfl) ?_
 rintro r ⟨hrR, hrI⟩
 have hwr : IntKind.i64.wrap ((r : Int) + 1) = (r : Int) + 1 := W_in (by omega) (by omega)
 refine E.seq (E.seq ?_)
 refine E.reg hr (by simp; rfl) ?_ -- region 3
 refine E.cond (by rfl) (fun h => ?_) (fun h => ?_)
 · simp at h
   refine E.skip (E.seq ?_)
   refine E.block ?_ -- 1
   refine E.seq ?_
   refine E.reg hr (by simp; rfl) ?_ -- region 5
   refine E.block ?_ -- 2
   refine E.loop ?_
   have hr0 : 0 ≤ (r : Int) * g.h := Int.mul_nonneg (by omega) (by omega)
   have hr1 : (r : Int) * g.h ≤ 16 * 10000 := Int.mul_le_mul (by omega) (by omega) (by omega) (by omega)
   have hrl := hRl r (by omega)
   obtain ⟨B, hB⟩ : ∃ B, (r : Int) * g.h = B := ⟨_, rfl⟩
   rw [hB] at hr0 hr1 hrl
   have hwB : IntKind.i64.wrap B = B := W_in (by omega) (by omega)
   have hwB2 : IntKind.i64.wrap (g.oy + B) = g.oy + B := W_in (by omega) (by omega)
   have hwB3 : IntKind.i64.wrap (2 * (g.oy + B)) = 2 * (g.oy + B) := W_in (by omega) (by omega)
   have hwh : IntKind.i64.wrap (2 * g.h) = 2 * g.h := W_in (by omega) (by omega)
   have hwB4 : IntKind.i64.wrap (2 * (g.oy + B) + 2 * g.h) = 2 * (g.oy + B) + 2 * g.h := W_in (by omega) (by omega)
   refine EL.ind (fun c : Nat => { fr := [(6, iv Y), (5, iv X), (8, iv c), (2, .pointer (some ⟨9, 0, none⟩)), (7, iv r), (3, .pointer (some ⟨10, 0, none⟩))], sz := 87, H := [(10, .cells [iv p.sx, iv p.sy, iv p.rx, iv p.ry] 79), (9, .cells [iv g.ox, iv g.oy, iv g.w, iv g.h, iv g.c, iv g.r] 25)], n := 11, marks := [], vs := [6, 5, 8, 2, 7, 3] })
     (fun c => C - c) (fun c => c ≤ C ∧ (colV g p ≠ -1 → rowV g p = r → (c : Int) ≤ colV g p)) 0 (.less rfl rfl rfl (by simp) (by simp)) ⟨Nat.zero_le _, fun _ _ => by omega⟩ (fun _ => rfl) ?_
   rintro c ⟨hcC, hcI⟩
   have hwc : IntKind.i64.wrap ((c : Int) + 1) = (c : Int) + 1 := W_in (by omega) (by omega)
   refine E.seq (E.seq ?_)
   refine E.reg hr (by simp; rfl) ?_ -- region 6
   refine E.cond (by rfl) (fun h2 => ?_) (fun h2 => ?_)
   · simp at h2
     refine E.skip (E.seq ?_)
     refine E.block ?_ -- 3
     refine E.seq ?_
     have hc0 : 0 ≤ (c : Int) * g.w := Int.mul_nonneg (by omega) (by omega)
     have hc1 : (c : Int) * g.w ≤ 16 * 10000 := Int.mul_le_mul (by omega) (by omega) (by omega) (by omega)
     have hcl := hCl c (by omega)
     obtain ⟨A, hA⟩ : ∃ A, (c : Int) * g.w = A := ⟨_, rfl⟩
     rw [hA] at hc0 hc1 hcl
     have hwA : IntKind.i64.wrap A = A := W_in (by omega) (by omega)
     have hwA2 : IntKind.i64.wrap (g.ox + A) = g.ox + A := W_in (by omega) (by omega)
     have hwA3 : IntKind.i64.wrap (2 * (g.ox + A)) = 2 * (g.ox + A) := W_in (by omega) (by omega)
     have hww : IntKind.i64.wrap (2 * g.w) = 2 * g.w := W_in (by omega) (by omega)
     have hwA4 : IntKind.i64.wrap (2 * (g.ox + A) + 2 * g.w) = 2 * (g.ox + A) + 2 * g.w := W_in (by omega) (by omega)
     refine E.drawC mixed hr [] [] [2, 5, 11, 14] (by kernel_rfl) (by simp [hA, hB, hwA, hwA2, hwA3, hwB, hwB2, hwB3]; rfl) ?_ -- region 8
     refine E.seq ?_
     obtain ⟨b1, d1⟩ : ∃ b, decide (2 * (g.ox + A) ≤ X) = b := ⟨_, rfl⟩
     obtain ⟨b2, d2⟩ : ∃ b, decide (X < 2 * (g.ox + A) + 2 * g.w) = b := ⟨_, rfl⟩
     obtain ⟨b3, d3⟩ : ∃ b, decide (2 * (g.oy + B) ≤ Y) = b := ⟨_, rfl⟩
     obtain ⟨b4, d4⟩ : ∃ b, decide (Y < 2 * (g.oy + B) + 2 * g.h) = b := ⟨_, rfl⟩
     by_cases hall : b1 = true ∧ b2 = true ∧ b3 = true ∧ b4 = true
     · obtain ⟨rfl, rfl, rfl, rfl⟩ := hall
       refine E.reg hr (by simp [oneF_guard, yieldedA, hww, hwA4, hwh, hwB4, d1, d2, d3, d4, -decide_eq_true_eq, -decide_eq_false_iff_not]; rfl) ?_ -- region 9
       refine E.cond (t := true) (by rfl) (fun _ => ?_) (fun h => by cases h)
       simp only [decide_eq_true_eq] at d1 d2 d3 d4
       have e1 := hcl.1 ⟨d1, d2⟩
       have e2 := hrl.1 ⟨d3, d4⟩
       refine E.seq ?_
       have hm0 : 0 ≤ (r : Int) * g.c := Int.mul_nonneg (by omega) (by omega)
       have hm1 : (r : Int) * g.c ≤ 16 * 16 := Int.mul_le_mul (by omega) (by omega) (by omega) (by omega)
       have hw3 : IntKind.i64.wrap ((r : Int) * g.c) = (r : Int) * g.c := W_in (by omega) (by omega)
       have hw4 : IntKind.i64.wrap ((r : Int) * g.c + c) = (r : Int) * g.c + c := W_in (by omega) (by omega)
       refine E.reg hr (by simp [hw3, hw4]; rfl) ?_ -- region 10
       refine E.ret ?_
       refine pureK.ret rfl rfl ?_ (by repeat first | exact sub_refl _ | refine sub_cons rfl ?_)
       have : binV g p = (r : Int) * g.c + c := by
         unfold binV
         rw [if_neg (by omega), e1, e2]
       simp [one, this]
     · have hno : ¬ (colV g p = c ∧ rowV g p = r) := fun ⟨e1, e2⟩ => hall (by
         obtain ⟨f1, f2⟩ := hcl.2 e1
         obtain ⟨f3, f4⟩ := hrl.2 e2
         rw [← d1, ← d2, ← d3, ← d4]
         simp only [decide_eq_true_eq]
         exact ⟨f1, f2, f3, f4⟩)
       cases b1 <;> cases b2 <;> cases b3 <;> cases b4 <;> first
         | exact absurd ⟨rfl, rfl, rfl, rfl⟩ hall
         | (refine E.reg hr (by simp [oneF_guard, yieldedA, hww, hwA4, hwh, hwB4, d1, d2, d3, d4, -decide_eq_true_eq, -decide_eq_false_iff_not]; rfl) ?_ -- region 9
            refine E.cond (t := false) (by rfl) (fun h => by cases h) (fun _ => ?_)
            refine E.skip ?_
            refine E.reg hr (by simp [hwc]; rfl) ?_ -- region 7
            refine ⟨c + 1, .less rfl rfl rfl (by simp) (by simp), ⟨by omega, fun n1 n2 => ?_⟩, (by show C - (c + 1) < C - c; omega)⟩
            have h5 := hcI n1 n2
            have h6 : colV g p ≠ c := fun hh => hno ⟨hh, n2⟩
            omega)
   · simp at h2
     refine E.exit ?_ -- 2
     refine E.reg hr (by simp [hwr]; rfl) ?_ -- region 4
     refine ⟨r + 1, .less rfl rfl rfl (by simp) (by simp), ⟨by omega, fun n1 n2 => ?_⟩, (by show R - (r + 1) < R - r; omega)⟩
     have h5 := hrI n1 n2
     have h6 : rowV g p ≠ r := fun hh => by have := hcI n1 hh; omega
     omega
 · simp at h
   refine E.exit ?_ -- 0
   refine E.seq ?_
   refine E.reg hr (by simp; rfl) ?_ -- region 11
   refine E.ret ?_
   have : binV g p = -1 := by
     unfold binV
     by_cases n1 : colV g p = -1
     · rw [if_pos (.inl n1)]
     by_cases n2 : rowV g p = -1
     · rw [if_pos (.inr n2)]
     · have := hrI n1 n2; omega
   exact pureK.ret rfl rfl (by simp [one, this]) (by repeat first | exact sub_refl _ | refine sub_cons rfl ?_)
def g53 (args : List Value) (H : Heap) (n : Nat) : R := match args with
 | [.agg ⟨[.int .i64 a, .int .i64 b, .int .i64 c, .int .i64 d, .int .i64 e, .int .i64 f]⟩, .agg ⟨[.int .i64 p, .int .i64 q, .int .i64 r, .int .i64 s]⟩] => if GrIn ⟨a, b, c, d, e, f⟩ ∧ PcIn ⟨p, q, r, s⟩ then some (.int .i64 (binV ⟨a, b, c, d, e, f⟩ ⟨p, q, r, s⟩), H, n) else none
 | _ => none
theorem ok53 : EntOk Tryz.prog (53, g53) := by
 intro args H n v H' n' h
 simp only [g53] at h
 split at h
 · split at h
   · rename_i a b c d e f p q r s hc
     injection h with h; injection h with e1 e2; injection e2 with e2 e3; subst e1 e2 e3
     exact AC.liftP rfl (Part.plain (by simp) [] (by simp [Seen]) gsz ⟨_, _, w53 ⟨a, b, c, d, e, f⟩ ⟨p, q, r, s⟩ hc.1 hc.2⟩)
   · cases h
 · cases h
end Go.Proofs.YtdmepnhmcppkkaaGreatDoor

/-
The evaluator's own recursion, as equations for rewriting.
-/
namespace Go.Ab
open Go
section
variable {P : Program} {O : Oracle} {m : Nat} {ro : Option Nat} {st : St}
theorem evc_skip : (ev P O (m + 1)).code ro .skip st = some (.normal, st) := rfl
theorem evc_ret : (ev P O (m + 1)).code ro .ret st = some (.ret, st) := rfl
theorem evc_exit {id : Nat} : (ev P O (m + 1)).code ro (.exit id) st = some (.exit id, st) := rfl
theorem evc_seq {a b : Code} : (ev P O (m + 1)).code ro (.seq a b) st = match (ev P O m).code ro a st with
 | some (.normal, st') => (ev P O m).code ro b st'
 | x => x := rfl
theorem evc_cond {c : Operand} {a b : Code} : (ev P O (m + 1)).code ro (.cond c a b) st = match evO P st.fr c with
 | some (.bool true) => (ev P O m).code ro a st
 | some (.bool false) => (ev P O m).code ro b st
 | _ => none := rfl
theorem evc_block {id : Nat} {b : Code} : (ev P O (m + 1)).code ro (.block id b) st = match (ev P O m).code ro b st with
 | some (.exit id', st') => (match Nat.beq id' id with
   | true => some (.normal, st')
   | false => some (.exit id', st'))
 | x => x := rfl
theorem evc_loop {b : Code} : (ev P O (m + 1)).code ro (.loop b) st = match (ev P O m).code ro b { st with fr := trim st.vs st.fr } with
 | some (.normal, st') => (ev P O m).code ro (.loop b) st'
 | x => x := rfl
theorem evc_reg {id : Nat} {ops : Array Oper} : (ev P O (m + 1)).code ro (.region id ops false) st = match opsF P (ev P O m) ops ops.toList st with
 | some st' => some (.normal, st')
 | none => none := rfl
theorem evc_range {f : Operand} {ps : Array Tmp} {a b : Code} : (ev P O (m + 1)).code ro (.rangeFunc f ps a b) st = rangeF P (ev P O m) ro f ps a b st := rfl
theorem ev_call {f : FuncId} {args : List Value} {H : Heap} {n : Nat} : (ev P O (m + 1)).call f args H n = match O f args H n with
 | some x => some x
 | none => match P.funcs[f]? with
   | none => none
   | some fn => match fn.body with
     | none => externF P f args H n
     | some c => match enterable P f && decide (args.length ≤ fn.ntmps) with
       | true => bodyF P (ev P O m) fn c args H n
       | false => none := rfl
end
end Go.Ab

/-
A record of answers that are given only where they are true: for functions that are ranged over.
-/
namespace Go.Ab
open Go
abbrev CodeSpec := Option Nat → Code → St → Option (Ex × St)
open Classical in
noncomputable def recV (P : Program) (C : CodeSpec) (F : Oracle) : Rec :=
 ⟨fun ro c s => match c with
   | .loop _ => none
   | c => match C ro c s with
     | some (e, s') => if AT P ro c s e s' then some (e, s') else none
     | none => none,
  fun f args H n => match F f args H n with
   | some (v, H', n') => if AC P f args H n v H' n' then some (v, H', n') else none
   | none => none⟩
theorem recV_ok {P : Program} {C : CodeSpec} {F : Oracle} : RecOk P (recV P C F) 0 where
 code := fun ro c st e st' h => by
   simp only [recV] at h
   split at h
   · cases h
   · split at h
     · split at h
       · rename_i ha
         injection h with h; injection h with h1 h2; subst h1 h2; exact ha
       · cases h
     · cases h
 loop := fun ro b st e st' h p φ a w hS hl Q hQ => by
   simp only [recV] at h
   cases h
 call := fun f args H n v H' n' h => by
   simp only [recV] at h
   split at h
   · split at h
     · rename_i ha
       injection h with h; injection h with h1 h2; injection h2 with h2 h3; subst h1 h2 h3; exact ha
     · cases h
   · cases h
theorem recV_code {P : Program} {C : CodeSpec} {F : Oracle} {ro : Option Nat} {c : Code} {s s' : St} {e : Ex} (hc : ∀ b, c ≠ .loop b) (h : C ro c s = some (e, s')) (ha : AT P ro c s e s') : (recV P C F).code ro c s = some (e, s') := by
 cases c with
 | loop b => exact absurd rfl (hc b)
 | _ => simp only [recV, h, if_pos ha]
theorem recV_call {P : Program} {C : CodeSpec} {F : Oracle} {f : FuncId} {args : List Value} {H H' : Heap} {n n' : Nat} {v : Value} (h : F f args H n = some (v, H', n')) (ha : AC P f args H n v H' n') : (recV P C F).call f args H n = some (v, H', n') := by
 simp only [recV]
 rw [h]; simp only; rw [if_pos ha]
theorem E.toAT {P : Program} {ro : Option Nat} {c : Code} {s s' : St} {e : Ex} (h : E P s.n ro c s fun e2 s2 => e2 = e ∧ s2 = s') : AT P ro c s e s' := by
 obtain ⟨e2, s2, hx, rfl, rfl⟩ := h
 exact ATX.at hx
end Go.Ab

/-
Other views of a state: names put anew beside a loop that is held, rows of which less is known, a row whose room is left open.
-/
namespace Go.Ab
open Go
/-! ### a held loop is carried over, its names are the caller's -/
mutual
theorem sc_and {p q : Nat → Prop} : ∀ v, sc p v → sc q v → sc (fun k => p k ∧ q k) v
 | .bool _, _, _ | .int _ _, _, _ | .float _ _, _, _ | .complex _ _ _, _, _ | .string _, _, _ | .nilFunc, _, _ | .nilIface, _, _ | .chan _, _, _ => by simp [sc]
 | .pointer none, _, _ | .slice none _ _, _, _ | .map none, _, _ => by simp [sc]
 | .pointer (some _), h1, h2 => ⟨h1, h2⟩
 | .slice (some _) _ _, h1, h2 => ⟨h1, h2⟩
 | .map (some _), h1, h2 => ⟨h1, h2⟩
 | .func (.yield l) a b, h1, h2 => by
   simp only [sc] at h1 h2 ⊢
   exact ⟨⟨h1.1, h2.1⟩, scL_and _ h1.2.1 h2.2.1, scL_and _ h1.2.2 h2.2.2⟩
 | .func (.func f) a b, h1, h2 | .func (.method f) a b, h1, h2 | .func (.methodOf _ f) a b, h1, h2 | .func (.via _ _ f _) a b, h1, h2 => by
   simp only [sc] at h1 h2 ⊢
   exact ⟨scL_and _ h1.1 h2.1, scL_and _ h1.2 h2.2⟩
 | .iface t v, h1, h2 => by simp only [sc] at h1 h2 ⊢; exact sc_and v h1 h2
 | .agg cs, h1, h2 => by simp only [sc] at h1 h2 ⊢; exact scL_and _ h1 h2
 | .tuple cs, h1, h2 => by simp only [sc] at h1 h2 ⊢; exact scL_and _ h1 h2
theorem scL_and {p q : Nat → Prop} : ∀ vs, scL p vs → scL q vs → scL (fun k => p k ∧ q k) vs
 | [], _, _ => trivial
 | v :: vs, h1, h2 => by simp only [scL] at h1 h2 ⊢; exact ⟨sc_and v h1.1 h2.1, scL_and vs h1.2 h2.2⟩
end
def heldB (n0 : Nat) : Blk → Prop
 | .loop _ _ fr _ _ _ _ _ d => d < n0 ∧ ∀ x ∈ fr, sc (· < n0) x.2
 | _ => True
theorem heldB_cases {n0 : Nat} {b : Blk} (h : heldB n0 b) : carried b ∨ (scB (· < n0) b ∧ (∀ ρ, renB ρ b = b) ∧ ∀ (P : Program) (p : Nat → Prop) (φ ψ : Vl) (j k : Nat) (o : Option Obj), Agr p φ ψ → scB p b → BRel P φ j b o → BRel P ψ k b o) := by
 cases b with
 | loop st pe fr sz vs ps a c d =>
   refine .inr ⟨⟨h.1, fun t v hv => h.2 (t, v) (lk_mem _ _ _ hv)⟩, fun _ => rfl, fun P p φ ψ j k o ha hs hb => ?_⟩
   obtain ⟨fn, tmps, ho, hf⟩ := hb
   exact ⟨fn, tmps, by rw [(ha d hs.1).1]; exact ho, hf.congr ha hs.2⟩
 | _ => exact .inl trivial
theorem scB_and {p q : Nat → Prop} : ∀ b, scB p b → scB q b → scB (fun k => p k ∧ q k) b
 | .cells cs _, h1, h2 | .ext cs _ _, h1, h2 | .inp _ cs, h1, h2 | .row cs _, h1, h2 | .tab cs, h1, h2 => scL_and cs h1 h2
 | .map _ _, h1, h2 => fun e he => ⟨sc_and _ (h1 e he).1 (h2 e he).1, sc_and _ (h1 e he).2 (h2 e he).2⟩
 | .iter _ _, _, _ | .defd, _, _ => trivial
 | .miter _ _ _ _, h1, h2 => fun r hr => ⟨h1 r hr, h2 r hr⟩
 | .loop .., h1, h2 => ⟨⟨h1.1, h2.1⟩, fun t v hv => sc_and v (h1.2 t v hv) (h2.2 t v hv)⟩
structure Renamed2 (n0 : Nat) (ρ : Nat → Nat) (s s2 : St) : Prop where
 le : n0 ≤ s2.n
 sz : s2.sz = s.sz
 marks : s.marks = [] ∧ s2.marks = []
 low : ∀ k, k < n0 → ρ k = k
 high : ∀ k, n0 ≤ k → k < s2.n → n0 ≤ ρ k ∧ ρ k < s.n
 inj : ∀ j k, j < s2.n → k < s2.n → ρ j = ρ k → j = k
 fr : ∀ x ∈ s2.fr, lk s.fr x.1 = some (ren ρ x.2) ∧ sc (· < s2.n) x.2
 heap : ∀ x ∈ s2.H, x.1 < s2.n ∧ hget s.H (ρ x.1) = some (renB ρ x.2) ∧ scB (· < s2.n) x.2 ∧ heldB n0 x.2 ∧ (x.2.own = false → ρ x.1 = x.1 ∧ renB ρ x.2 = x.2)
theorem Renamed2.step {P : Program} {n0 : Nat} {ρ : Nat → Nat} {s s2 : St} (h : Renamed2 n0 ρ s s2) {p : Nat → Prop} {φ φ1 : Vl} {M : Mp} {w0 w : World} {a : Act} (hg : ∀ g, g < P.globals.size → p g) (hp : ∀ k, p k → k < n0)
   (hS : SRel P (Nx p n0 s.n) φ1 s a w) (hs : Step P φ n0 M w0 φ1 s.n (hget s.H) w) : ∃ φ2, SRel P (Nx p n0 s2.n) φ2 s2 a w ∧ Step P φ n0 M w0 φ2 s2.n (hget s2.H) w := by
 let φ2 : Vl := ⟨fun k => if n0 ≤ k ∧ k < s2.n then φ1.loc (ρ k) else φ.loc k, fun k => if n0 ≤ k ∧ k < s2.n then φ1.cap (ρ k) else φ.cap k⟩
 have hlow : ∀ k, k < n0 → φ2.loc k = φ.loc k ∧ φ2.cap k = φ.cap k := fun k hk => by simp only [φ2]; rw [if_neg (by omega), if_neg (by omega)]; exact ⟨rfl, rfl⟩
 have hmid : ∀ k, n0 ≤ k → k < s2.n → φ2.loc k = φ1.loc (ρ k) ∧ φ2.cap k = φ1.cap (ρ k) := fun k h1 h2 => by simp only [φ2]; rw [if_pos ⟨h1, h2⟩, if_pos ⟨h1, h2⟩]; exact ⟨rfl, rfl⟩
 have hrn : Rn (Nx p n0 s2.n) ρ φ1 φ2 := fun k hk => by
   rcases hk with hk | hk
   · have hk0 := hp k hk
     rw [(hlow k hk0).1, (hlow k hk0).2, h.low k hk0, (hs.only k (.inl hk0)).1, (hs.only k (.inl hk0)).2]
     exact ⟨rfl, rfl⟩
   · exact hmid k hk.1 hk.2
 have hnx : ∀ k, Nx p n0 s.n (ρ k) ∧ k < s2.n → Nx p n0 s2.n k := fun k hk => by
   by_cases h0 : k < n0
   · have := hk.1
     rw [h.low k h0] at this
     rcases this with h1 | h1
     · exact .inl h1
     · omega
   · exact .inr ⟨by omega, hk.2⟩
 have hscv : ∀ v, sc (Nx p n0 s.n) (ren ρ v) → sc (· < s2.n) v → sc (Nx p n0 s2.n) v := fun v h1 h2 => sc_mono hnx v (sc_ren v h1 h2)
 have hpl : ∀ k, Nx p n0 s.n k ∧ k < n0 → p k := fun k hk => by
   rcases hk.1 with h1 | h1
   · exact h1
   · omega
 have hH : ∀ k b, hget s2.H k = some b → Nx p n0 s2.n k ∧ hget s.H (ρ k) = some (renB ρ b) ∧ scB (Nx p n0 s2.n) b ∧ (BRel P φ1 (ρ k) (renB ρ b) w.heap[φ1.loc (ρ k)]? → BRel P φ2 k b w.heap[φ1.loc (ρ k)]?) ∧ (b.own = false → ρ k = k ∧ renB ρ b = b) := fun k b hk => by
   obtain ⟨h1, h2, h3, h4, h5⟩ := h.heap (k, b) (hget_mem _ _ _ hk)
   have hsm := hS.base.sm _ _ h2
   have hn := hnx k ⟨hsm.1, h1⟩
   rcases heldB_cases h4 with h4 | ⟨g1, g2, g3⟩
   · have := scB_mono hnx _ (scB_ren b h4 hsm.2 h3)
     exact ⟨hn, h2, this, BRel.ren hrn hn h4 this, h5⟩
   · have h6 := hsm.2
     simp only [g2] at h6
     have h7 : scB p b := scB_mono hpl _ (scB_and b h6 g1)
     refine ⟨hn, h2, scB_mono (fun _ h => .inl h) _ h7, fun hb => ?_, h5⟩
     rw [g2] at hb
     refine g3 P p φ1 φ2 _ k _ (fun j hj => ?_) h7 hb
     have hj0 := hp j hj
     rw [(hlow j hj0).1, (hlow j hj0).2, (hs.only j (.inl hj0)).1, (hs.only j (.inl hj0)).2]
     exact ⟨rfl, rfl⟩
 have hlt : ∀ k, Nx p n0 s2.n k → k < s2.n := fun k hk => Nx.lt hp h.le hk
 have hrel : HRel P φ2 (hget s2.H) w := by
   refine ⟨fun k b hk => ?_, fun k b k' b' h1 h2 hne ho => ?_, fun g hg' => ?_⟩
   · obtain ⟨hn, h2, h3, h4, _⟩ := hH k b hk
     rw [(hrn k hn).1]
     exact h4 (hS.base.rel.blk _ _ h2)
   · obtain ⟨n1, e1, _, _, _⟩ := hH k b h1
     obtain ⟨n2, e2, _, _, _⟩ := hH k' b' h2
     rw [(hrn k n1).1, (hrn k' n2).1]
     exact hS.base.rel.apart _ _ _ _ e1 e2 (fun e => hne (h.inj k k' (hlt k n1) (hlt k' n2) e)) (by rw [renB_own]; exact ho)
   · have := hp g (hg g hg')
     rw [(hlow g this).1, ← (hs.only g (.inl this)).1]
     exact hS.base.rel.glob g hg'
 refine ⟨φ2, ⟨⟨hrel, hlt, fun g hg' => .inl (hg g hg'), ?_, fun k b hk => ⟨(hH k b hk).1, (hH k b hk).2.2.1⟩, fun t v hv => ?_, fun t v hv => ?_⟩, ?_, ?_, ?_⟩, h.le, fun k hk => ?_, hrel, fun k b hk ho => ?_, fun k b hk ho => ?_, hs.frm⟩
 · refine Nat.le_of_not_lt fun hc => ?_
   have := hp _ (hg _ hc)
   have := h.le
   omega
 · obtain ⟨h1, h2⟩ := h.fr (t, v) (lk_mem _ _ _ hv)
   have hsf := hS.base.sf t _ h1
   rw [hS.base.ar t _ h1, den_ren hrn v (hscv v hsf h2)]
 · obtain ⟨h1, h2⟩ := h.fr (t, v) (lk_mem _ _ _ hv)
   exact hscv v (hS.base.sf t _ h1) h2
 · rw [h.sz]; exact hS.size
 · rw [h.marks.2, hS.defs, h.marks.1]; rfl
 · rw [h.marks.2]; simp
 · rcases hk with hk | hk
   · exact hlow k hk
   · simp only [φ2]; rw [if_neg (by omega), if_neg (by omega)]; exact ⟨rfl, rfl⟩
 · obtain ⟨hn, h2, _, _, _⟩ := hH k b hk
   rw [(hrn k hn).1]
   exact hs.new _ _ h2 (by rw [renB_own]; exact ho)
 · obtain ⟨hn, h2, _, _, h5⟩ := hH k b hk
   have := hs.inp _ _ h2 (by rw [renB_own]; exact ho)
   rw [(h5 ho).1, (h5 ho).2] at this
   exact this
theorem Leads.ren2 {P : Program} {n0 : Nat} {s s2 : St} (olds : List Nat) (ho : oldsOk n0 s.n olds = true) (hn : s2.n = n0 + olds.length) (hz : s2.sz = s.sz) (hm : s.marks = [] ∧ s2.marks = [])
   (hf : ∀ x ∈ s2.fr, lk s.fr x.1 = some (Ab.ren (rnm n0 olds) x.2) ∧ sc (· < s2.n) x.2)
   (hh : ∀ x ∈ s2.H, x.1 < s2.n ∧ hget s.H (rnm n0 olds x.1) = some (renB (rnm n0 olds) x.2) ∧ scB (· < s2.n) x.2 ∧ heldB n0 x.2 ∧ (x.2.own = false → rnm n0 olds x.1 = x.1 ∧ renB (rnm n0 olds) x.2 = x.2)) : Leads P n0 s s2 := by
 have hr := Leads.ren (P := P) (s := s) (s2 := { s2 with fr := [], H := [] }) olds ho hn hz hm (by simp) (by simp)
 obtain ⟨hk, hd⟩ := oldsOk_spec olds ho
 have hget : ∀ k, n0 ≤ k → k < s2.n → ∃ h : k - n0 < olds.length, rnm n0 olds k = olds[k - n0] := fun k h1 h2 => by
   refine ⟨by omega, ?_⟩
   unfold rnm
   rw [if_neg (by omega), List.getD_eq_getElem?_getD, List.getElem?_eq_getElem (by omega)]
   rfl
 have h2 : Renamed2 n0 (rnm n0 olds) s s2 := ⟨by omega, hz, hm, fun k h => by unfold rnm; rw [if_pos h], fun k h1 h2 => by
     obtain ⟨h, e⟩ := hget k h1 h2
     rw [e]; exact hk _ (List.getElem_mem h), fun j k h1 h2 he => by
   by_cases hj : j < n0
   · by_cases hk' : k < n0
     · unfold rnm at he; rw [if_pos hj, if_pos hk'] at he; exact he
     · obtain ⟨h, e⟩ := hget k (by omega) h2
       have := hk _ (List.getElem_mem h)
       rw [← e, ← he] at this
       unfold rnm at this; rw [if_pos hj] at this; omega
   · obtain ⟨h, e⟩ := hget j (by omega) h1
     by_cases hk' : k < n0
     · have := hk _ (List.getElem_mem h)
       rw [← e, he] at this
       unfold rnm at this; rw [if_pos hk'] at this; omega
     · obtain ⟨h', e'⟩ := hget k (by omega) h2
       rw [e, e'] at he
       have hne : ∀ (x y : Nat) (hx : x < olds.length) (hy : y < olds.length), x < y → olds[x] ≠ olds[y] := fun x y hx hy hlt => List.pairwise_iff_getElem.1 hd x y hx hy hlt
       rcases Nat.lt_trichotomy (j - n0) (k - n0) with hlt | heq | hlt
       · exact absurd he (hne _ _ _ _ hlt)
       · omega
       · exact absurd he.symm (hne _ _ _ _ hlt), hf, hh⟩
 exact fun p φ M w0 hg hp a w φ1 hS hs => h2.step hg hp hS hs
/-! ### less is known of a row of open room -/
theorem Leads.short {P : Program} {n0 : Nat} {s s2 : St} (b : Nat) (cs rest : List Value) (t : TypeId) (sz : Nat) (hb : hget s.H b = some (.ext (cs ++ rest) t sz)) (hn : s2.n = s.n) (hz : s2.sz = s.sz) (hm : s2.marks = s.marks) (hf : ∀ x ∈ s2.fr, lk s.fr x.1 = some x.2)
   (hh : ∀ x ∈ s2.H, (x.1 = b ∧ x.2 = .ext cs t sz) ∨ hget s.H x.1 = some x.2) : Leads P n0 s s2 := by
 intro p φ M w0 hg hp a w φ1 hS hs
 have hf' : ∀ t v, lk s2.fr t = some v → lk s.fr t = some v := fun t v h => hf (t, v) (lk_mem _ _ _ h)
 have hh' : ∀ k x, hget s2.H k = some x → (k = b ∧ x = .ext cs t sz) ∨ hget s.H k = some x := fun k x h => hh (k, x) (hget_mem _ _ _ h)
 have hold : ∀ k x, hget s2.H k = some x → ∃ y, hget s.H k = some y ∧ y.own = x.own := fun k x h => by
   rcases hh' k x h with ⟨rfl, rfl⟩ | h
   · exact ⟨_, hb, rfl⟩
   · exact ⟨x, h, rfl⟩
 have hrel : HRel P φ1 (hget s2.H) w := by
   refine ⟨fun k x h => ?_, fun k x k' x' h1 h2 hne ho => ?_, hS.base.rel.glob⟩
   · rcases hh' k x h with ⟨rfl, rfl⟩ | h
     · obtain ⟨c, e1, e2, e3⟩ := hS.base.rel.blk _ _ hb
       refine ⟨c, e1, ?_, e3⟩
       have := congrArg (List.take cs.length) e2
       rw [denL_append, List.take_append_of_le_length (l₁ := denL φ1 cs) (by simp), List.take_of_length_le (l := denL φ1 cs) (by simp), List.take_take, List.length_append, Nat.min_eq_left (by omega)] at this
       exact this
     · exact hS.base.rel.blk _ _ h
   · obtain ⟨y, g1, g2⟩ := hold k x h1
     obtain ⟨y', g3, _⟩ := hold k' x' h2
     exact hS.base.rel.apart _ _ _ _ g1 g3 hne (g2.trans ho)
 have hsm : SM (Nx p n0 s.n) (hget s2.H) := fun k x h => by
   rcases hh' k x h with ⟨rfl, rfl⟩ | h
   · obtain ⟨h1, h2⟩ := hS.base.sm _ _ hb
     refine ⟨h1, ?_⟩
     simp only [scB, scL_iff] at h2 ⊢
     exact fun v hv => h2 v (List.mem_append_left _ hv)
   · exact hS.base.sm _ _ h
 rw [hn]
 refine ⟨φ1, ⟨⟨hrel, hn ▸ hS.base.lt, hS.base.gl, hn ▸ hS.base.gn, hsm, fun t v hv => hS.base.ar t v (hf' t v hv), fun t v hv => hS.base.sf t v (hf' t v hv)⟩, hz ▸ hS.size, hm ▸ hS.defs, hm ▸ hS.marks⟩, hs.le, hs.only, hrel, fun k x hk ho => ?_, fun k x hk ho => ?_, hs.frm⟩
 · obtain ⟨y, g1, g2⟩ := hold k x hk
   exact hs.new _ _ g1 (g2.trans ho)
 · rcases hh' k x hk with ⟨rfl, rfl⟩ | h
   · cases ho
   · exact hs.inp _ _ h ho
/-! ### a row of a known room is looked at as one of open room -/
/- no slice of open room lies in block b -/
mutual
def nsp (b : Nat) : Value → Prop
 | .slice (some a) _ _ => a.block = b → a.spot = none
 | .func _ x y => nspL b x.toList ∧ nspL b y.toList
 | .iface _ v => nsp b v
 | .agg cs => nspL b cs.toList
 | .tuple vs => nspL b vs.toList
 | _ => True
def nspL (b : Nat) : List Value → Prop
 | [] => True
 | v :: vs => nsp b v ∧ nspL b vs
end
def agrL (φ ψ : Vl) (b : Nat) : Prop := (∀ k, ψ.loc k = φ.loc k) ∧ ∀ k, k ≠ b → ψ.cap k = φ.cap k
mutual
theorem den_nsp {φ ψ : Vl} {b : Nat} (h : agrL φ ψ b) : ∀ v, nsp b v → den ψ v = den φ v
 | .bool _, _ | .int _ _, _ | .float _ _, _ | .complex _ _ _, _ | .string _, _ | .nilFunc, _ | .nilIface, _ | .chan _, _ => by simp [den]
 | .pointer none, _ | .slice none _ _, _ | .map none, _ => by simp [den]
 | .pointer (some a), _ => by simp [den, h.1]
 | .slice (some ⟨k, o, none⟩) l c, _ => by simp [den, h.1]
 | .slice (some ⟨k, o, some j⟩) l c, hs => by
   have : k ≠ b := fun e => by
     have := hs e
     cases this
   simp [den, h.1, h.2 k this]
 | .map (some r), _ => by simp [den, h.1]
 | .func (.yield l) a c, hs => by
   simp only [nsp] at hs
   simp only [den]
   rw [denL_nsp h _ hs.1, denL_nsp h _ hs.2, h.1]
 | .func (.func f) a c, hs | .func (.method f) a c, hs | .func (.methodOf _ f) a c, hs | .func (.via _ _ f _) a c, hs => by
   simp only [nsp] at hs
   simp only [den]
   rw [denL_nsp h _ hs.1, denL_nsp h _ hs.2]
 | .iface t v, hs => by simp only [den]; rw [den_nsp h v hs]
 | .agg cs, hs => by simp only [den]; rw [denL_nsp h _ hs]
 | .tuple cs, hs => by simp only [den]; rw [denL_nsp h _ hs]
theorem denL_nsp {φ ψ : Vl} {b : Nat} (h : agrL φ ψ b) : ∀ vs, nspL b vs → denL ψ vs = denL φ vs
 | [], _ => rfl
 | v :: vs, hs => by simp only [denL]; rw [den_nsp h v hs.1, denL_nsp h vs hs.2]
end
mutual
theorem nsp_af (b : Nat) : ∀ v, af v = true → nsp b v
 | .bool _, _ | .int _ _, _ | .float _ _, _ | .complex _ _ _, _ | .string _, _ | .nilFunc, _ | .nilIface, _ | .chan _, _ | .pointer _, _ | .map _, _ => by simp [nsp]
 | .slice none _ _, _ => by simp [nsp]
 | .slice (some _) _ _, hs => by simp [af] at hs
 | .func (.yield l) _ _, hs => by simp [af] at hs
 | .func (.func f) x y, hs | .func (.method f) x y, hs | .func (.methodOf _ f) x y, hs | .func (.via _ _ f _) x y, hs => by
   simp only [af, Bool.and_eq_true] at hs
   simp only [nsp]
   exact ⟨nspL_af b _ hs.1, nspL_af b _ hs.2⟩
 | .iface t v, hs => nsp_af b v (by simpa [af] using hs)
 | .agg cs, hs => nspL_af b _ (by simpa [af] using hs)
 | .tuple cs, hs => nspL_af b _ (by simpa [af] using hs)
theorem nspL_af (b : Nat) : ∀ vs, afL vs = true → nspL b vs
 | [], _ => trivial
 | v :: vs, hs => by
   simp only [afL, Bool.and_eq_true] at hs
   exact ⟨nsp_af b v hs.1, nspL_af b vs hs.2⟩
end
theorem nspL_iff (b : Nat) : ∀ vs, nspL b vs ↔ ∀ v ∈ vs, nsp b v
 | [] => by simp [nspL]
 | v :: vs => by simp [nspL, nspL_iff b vs]
def nspB (b : Nat) : Blk → Prop
 | .cells cs _ | .ext cs _ _ | .inp _ cs | .row cs _ | .tab cs => nspL b cs
 | .iter _ _ | .defd => True
 | _ => False
theorem BRel.nsp {P : Program} {φ ψ : Vl} {b k : Nat} (h : agrL φ ψ b) (hk : k ≠ b) : ∀ {x : Blk} {o : Option Obj}, nspB b x → BRel P φ k x o → BRel P ψ k x o
 | .cells cs t, o, hs, hb => by simp only [BRel] at *; rw [denL_nsp h _ hs]; exact hb
 | .ext cs t sz, o, hs, hb => by simp only [BRel] at *; rw [denL_nsp h _ hs, h.2 k hk]; exact hb
 | .inp o0 cs, o, hs, hb => by simp only [BRel] at *; rw [denL_nsp h _ hs]; exact hb
 | .row cs sz, o, hs, hb => by simp only [BRel] at *; rw [denL_nsp h _ hs, h.2 k hk]; exact hb
 | .tab cs, o, hs, hb => by simp only [BRel] at *; rw [denL_nsp h _ hs]; exact hb
 | .iter _ _, o, _, hb => hb
 | .defd, o, _, hb => hb
theorem Leads.ext {P : Program} {n0 : Nat} {s s2 : St} (b : Nat) (cs : List Value) (t : TypeId) (sz m : Nat) (hb0 : n0 ≤ b ∧ b < s.n) (hb : hget s.H b = some (.cells cs t)) (hl : cs.length = m * sz) (hsz : 0 < sz) (hn : s2.n = s.n) (hz : s2.sz = s.sz) (hm : s2.marks = s.marks)
   (hf : ∀ x ∈ s2.fr, lk s.fr x.1 = some x.2 ∧ nsp b x.2)
   (hh : ∀ x ∈ s2.H, (x.1 = b ∧ x.2 = .ext cs t sz ∧ nspL b cs) ∨ (x.1 ≠ b ∧ hget s.H x.1 = some x.2 ∧ nspB b x.2)) : Leads P n0 s s2 := by
 intro p φ M w0 hg hp a w φ1 hS hs
 let φ2 : Vl := ⟨φ1.loc, fun k => if k = b then m else φ1.cap k⟩
 have ha : agrL φ1 φ2 b := ⟨fun _ => rfl, fun k hk => by simp only [φ2]; rw [if_neg hk]⟩
 have hf' : ∀ t v, lk s2.fr t = some v → lk s.fr t = some v ∧ nsp b v := fun t v h => hf (t, v) (lk_mem _ _ _ h)
 have hh' : ∀ k x, hget s2.H k = some x → (k = b ∧ x = .ext cs t sz ∧ nspL b cs) ∨ (k ≠ b ∧ hget s.H k = some x ∧ nspB b x) := fun k x h => hh (k, x) (hget_mem _ _ _ h)
 have hold : ∀ k x, hget s2.H k = some x → ∃ y, hget s.H k = some y ∧ y.own = x.own := fun k x h => by
   rcases hh' k x h with ⟨rfl, rfl, _⟩ | ⟨_, h, _⟩
   · exact ⟨_, hb, rfl⟩
   · exact ⟨x, h, rfl⟩
 have hrel : HRel P φ2 (hget s2.H) w := by
   refine ⟨fun k x h => ?_, fun k x k' x' h1 h2 hne ho => ?_, hS.base.rel.glob⟩
   · rcases hh' k x h with ⟨rfl, rfl, h3⟩ | ⟨hk, h, h3⟩
     · have := hS.base.rel.blk _ _ hb
       simp only [BRel] at this
       refine ⟨_, this, ?_, ?_, hsz⟩
       · rw [denL_nsp ha _ h3, List.take_of_length_le (by simp)]
       · simp [φ2, hl]
     · exact (hS.base.rel.blk _ _ h).nsp ha hk h3
   · obtain ⟨y, g1, g2⟩ := hold k x h1
     obtain ⟨y', g3, _⟩ := hold k' x' h2
     exact hS.base.rel.apart _ _ _ _ g1 g3 hne (g2.trans ho)
 have hsm : SM (Nx p n0 s.n) (hget s2.H) := fun k x h => by
   rcases hh' k x h with ⟨rfl, rfl, _⟩ | ⟨_, h, _⟩
   · have := hS.base.sm _ _ hb
     exact this
   · exact hS.base.sm _ _ h
 rw [hn]
 refine ⟨φ2, ⟨⟨hrel, hn ▸ hS.base.lt, hS.base.gl, hn ▸ hS.base.gn, hsm, fun t v hv => ?_, fun t v hv => hS.base.sf t v (hf' t v hv).1⟩, hz ▸ hS.size, hm ▸ hS.defs, hm ▸ hS.marks⟩, hs.le, fun k hk => ?_, hrel, fun k x hk ho => ?_, fun k x hk ho => ?_, hs.frm⟩
 · obtain ⟨h1, h2⟩ := hf' t v hv
   rw [hS.base.ar t _ h1, den_nsp ha v h2]
 · have := hs.only k hk
   have hkb : k ≠ b := by omega
   exact ⟨this.1, by rw [ha.2 k hkb]; exact this.2⟩
 · obtain ⟨y, g1, g2⟩ := hold k x hk
   exact hs.new _ _ g1 (g2.trans ho)
 · rcases hh' k x hk with ⟨rfl, rfl, _⟩ | ⟨_, h, _⟩
   · cases ho
   · exact hs.inp _ _ h ho
end Go.Ab

namespace Go.Ab
open Go
def rowOf (H : Heap) (b : Nat) : Option (List Value × Nat) := match hget H b with
 | some (.ext cs _ sz) => some (cs, sz)
 | some (.row cs sz) => some (cs, sz)
 | _ => none
theorem rowOf_rel {P : Program} {p : Nat → Prop} {φ : Vl} {n : Nat} {H : Heap} {w : World} {fr : Fr} {a : Act} {b : Nat} {cs : List Value} {sz : Nat} (hB : Base P p φ n (hget H) w fr a) (h : rowOf H b = some (cs, sz)) :
   ∃ c t fz, w.heap[φ.loc b]? = some (.cells c t fz) ∧ c.toList.take cs.length = denL φ cs ∧ c.size = φ.cap b * sz ∧ 0 < sz := by
 unfold rowOf at h
 split at h
 · rename_i cs' t sz' hb
   injection h with h; injection h with h1 h2; subst h1 h2
   obtain ⟨c, h1, h2, h3, h4⟩ := hB.rel.blk b _ hb
   exact ⟨c, _, _, h1, h2, h3, h4⟩
 · rename_i cs' sz' hb
   injection h with h; injection h with h1 h2; subst h1 h2
   exact hB.rel.blk b _ hb
 · cases h
theorem Part.row {P : Program} {H : Heap} {n : Nat} {R : List Value → Heap → Nat → Prop} (mk : Value → List Value) (hmk : ∀ φ φ0 s s0, den φ0 s0 = den φ s → denL φ0 (mk s0) = denL φ (mk s)) (hms : ∀ (p : Nat → Prop) s, sc p s → scL p (mk s))
   {b len skip sz : Nat} {cs : List Value} (hb : rowOf H b = some (cs, sz)) (haf : afL cs = true) {N : Nat} (hN : P.globals.size = N) (h : R (mk (.slice (some ⟨N, 0, some 0⟩) len skip)) [(N, .row cs sz)] (N + 1)) : Part P (mk (.slice (some ⟨b, 0, some 0⟩) len skip)) H n R := by
 intro p φ w hB hsc
 let φ0 : Vl := ⟨fun k => if k < N then φ.loc k else φ.loc b, fun k => if k < N then φ.cap k else φ.cap b⟩
 have hN' : ∀ k, hget [(N, Blk.row cs sz)] k = some (.row cs sz) → k = N := fun k hk => by
   rw [hget_cons] at hk
   by_cases e : N = k
   · exact e.symm
   · rw [if_neg e] at hk; cases hk
 have hone : ∀ k x, hget [(N, Blk.row cs sz)] k = some x → k = N ∧ x = .row cs sz := fun k x hk => by
   rw [hget_cons] at hk
   by_cases e : N = k
   · rw [if_pos e] at hk; injection hk with hk; exact ⟨e.symm, hk.symm⟩
   · rw [if_neg e] at hk; cases hk
 have hlow : ∀ k, k < N → φ0.loc k = φ.loc k := fun k hk => by simp only [φ0]; rw [if_pos hk]
 have hden : den φ0 (.slice (some ⟨N, 0, some 0⟩) len skip) = den φ (.slice (some ⟨b, 0, some 0⟩) len skip) := by
   simp [den, φ0]
 refine ⟨mk (.slice (some ⟨N, 0, some 0⟩) len skip), [(N, .row cs sz)], N + 1, φ0, (· < N + 1), ⟨⟨fun k x hk => ?_, fun k x k' x' h1 _ _ ho => (by obtain ⟨_, rfl⟩ := hone k x h1; cases ho), fun g hg => ?_⟩, fun _ h => h, fun g hg => ?_, (by omega), fun k x hk => ?_, fun t v hv => by simp [lk] at hv, fun t v hv => by simp [lk] at hv⟩, hms _ _ (Nat.lt_succ_self _), hmk _ _ _ _ hden, fun k x hk => by obtain ⟨_, rfl⟩ := hone k x hk; rfl, h⟩
 · obtain ⟨rfl, rfl⟩ := hone k x hk
   obtain ⟨c, t, fz, h1, h2, h3, h4⟩ := rowOf_rel hB hb
   have hl : φ0.loc k = φ.loc b := by simp [φ0]
   have hc : φ0.cap k = φ.cap b := by simp [φ0]
   rw [hl]
   refine ⟨c, t, fz, h1, ?_, ?_, h4⟩
   · rw [h2, denL_af _ _ haf, denL_af _ _ haf]
   · rw [h3, hc]
 · rw [hlow g (hN ▸ hg)]; exact hB.rel.glob g hg
 · rw [← hN]; omega
 · obtain ⟨rfl, rfl⟩ := hone k x hk
   exact ⟨by omega, scL_af _ _ haf⟩
end Go.Ab

/-
Walks at any heap: what is known of an unnamed heap, names put anew above it, a contract told of a part of memory, and regions of open order over it.
-/
namespace Go.Ab
open Go
/-! ### contracts at any heap -/
theorem AC.given {P : Program} {f : FuncId} {args : List Value} {H : Heap} {n : Nat} {v : Value} {H' : Heap} {n' : Nat} (h : (∀ k b, hget H k = some b → k < n ∧ scB (· < n) b) → scL (· < n) args → P.globals.size ≤ n → AC P f args H n v H' n') : AC P f args H n v H' n' :=
 fun p φ w hB hsc => h (fun k b hk => ⟨hB.lt k (hB.sm k b hk).1, scB_mono hB.lt _ (hB.sm k b hk).2⟩) (scL_mono hB.lt _ hsc) hB.gn p φ w hB hsc
theorem AC.frame {P : Program} {f : FuncId} {args : List Value} {H H0 H1 H2 : Heap} {n n' : Nat} {v : Value} (h : AC P f args H0 n v H1 n') (hsub : ∀ k b, hget H0 k = some b → hget H k = some b)
   (h2 : ∀ k b, hget H2 k = some b → hget H1 k = some b ∨ (hget H k = some b ∧ hget H0 k = none)) : AC P f args H n v H2 n' := by
 intro p φ w hB hsc
 have hB0 : Base P p φ n (hget H0) w [] act0 := ⟨hB.rel.sub hsub, hB.lt, hB.gl, hB.gn, fun k b hk => hB.sm k b (hsub k b hk), fun t v hv => by simp [lk] at hv, fun t v hv => by simp [lk] at hv⟩
 have key : ∀ φ' w', Dn P p φ n (hget H0) w v n' (hget H1) φ' w' → Dn P p φ n (hget H) w v n' (hget H2) φ' w' := by
   intro φ' w' hd
   obtain ⟨hsm, hscv, hst⟩ := hd
   have hagr : Agr p φ φ' := fun k hk => hst.only k (.inl (hB.lt k hk))
   have hloc : ∀ k b, hget H k = some b → φ'.loc k = φ.loc k := fun k b hk => (hagr k (hB.sm k b hk).1).1
   have hkeep : ∀ k b, hget H k = some b → hget H0 k = none → w'.heap[φ.loc k]? = w.heap[φ.loc k]? := fun k b hk hn => hst.frm.keep _ (hB.rel.lt hk) fun j x hj ho => hB.rel.apart j x k b (hsub j x hj) hk (fun e => by subst e; rw [hn] at hj; cases hj) ho
   refine ⟨fun k b hk => ?_, hscv, hst.le, hst.only, ⟨fun k b hk => ?_, fun k b k' b' g1 g2 hne ho => ?_, hst.rel.glob⟩, fun k b hk ho => ?_, fun k b hk ho => ?_, ⟨hst.frm.os, hst.frm.tape, hst.frm.output, hst.frm.size, fun b hb hx => hst.frm.keep b hb fun k x hk ho => hx k x (hsub k x hk) ho⟩⟩
   · rcases h2 k b hk with h | ⟨h, _⟩
     · exact hsm k b h
     · exact ⟨.inl (hB.sm k b h).1, scB_mono (fun _ h => .inl h) _ (hB.sm k b h).2⟩
   · rcases h2 k b hk with h | ⟨h, hn⟩
     · exact hst.rel.blk k b h
     · rw [hloc k b h, hkeep k b h hn]
       exact (hB.rel.blk k b h).congr hagr (hB.sm k b h).1 (hB.sm k b h).2
   · rcases h2 k b g1 with h | ⟨h, hn⟩ <;> rcases h2 k' b' g2 with h' | ⟨h', hn'⟩
     · exact hst.rel.apart k b k' b' h h' hne ho
     · rw [hloc k' b' h']
       rcases hst.new k b h ho with g | ⟨k0, b0, e1, e2, e3⟩
       · have := hB.rel.lt h'
         omega
       · rw [← e3]
         exact hB.rel.apart k0 b0 k' b' (hsub _ _ e1) h' (fun e => by subst e; rw [hn'] at e1; cases e1) e2
     · rw [hloc k b h]
       cases hb : b'.own with
       | true =>
         rcases hst.new k' b' h' hb with g | ⟨k0, b0, e1, e2, e3⟩
         · have := hB.rel.lt h
           omega
         · rw [← e3]
           exact hB.rel.apart k b k0 b0 h (hsub _ _ e1) (fun e => by subst e; rw [hn] at e1; cases e1) ho
       | false =>
         have e1 := hst.inp k' b' h' hb
         rw [hloc k' b' (hsub _ _ e1)]
         exact hB.rel.apart k b k' b' h (hsub _ _ e1) hne ho
     · rw [hloc k b h, hloc k' b' h']
       exact hB.rel.apart k b k' b' h h' hne ho
   · rcases h2 k b hk with h | ⟨h, _⟩
     · rcases hst.new k b h ho with g | ⟨k0, b0, e1, e2, e3⟩
       · exact .inl g
       · exact .inr ⟨k0, b0, hsub _ _ e1, e2, e3⟩
     · exact .inr ⟨k, b, h, ho, (hloc k b h).symm⟩
   · rcases h2 k b hk with h | ⟨h, _⟩
     · exact hsub _ _ (hst.inp k b h ho)
     · exact h
 rcases h p φ w hB0 hsc with ⟨h1, h3⟩ | ⟨φ', w', h1, h3⟩
 · refine .inl ⟨h1, CallsIn.mono h3 fun e w' hh => ?_⟩
   obtain ⟨φ', he, hd⟩ := hh
   exact ⟨φ', he, key φ' w' hd⟩
 · exact .inr ⟨φ', w', h1, key φ' w' h3⟩
theorem AC.ren {P : Program} {f : FuncId} {args : List Value} {H H1 H2 : Heap} {n n1 n2 : Nat} {u v : Value} (ρ : Nat → Nat) (h : AC P f args H n u H1 n1) (hlow : ∀ k, k < n → ρ k = k) (hle : n ≤ n2) (hv : u = Ab.ren ρ v) (hsv : sc (· < n2) v)
   (hH : ∀ k b, hget H2 k = some b → (hget H k = some b ∧ hget H1 k = some b) ∨ (n ≤ k ∧ k < n2 ∧ n ≤ ρ k ∧ hget H1 (ρ k) = some (renB ρ b) ∧ scB (· < n2) b ∧ carried b ∧ b.own = true))
   (hinj : ∀ j b k c, n ≤ j → n ≤ k → hget H2 j = some b → hget H2 k = some c → ρ j = ρ k → j = k) : AC P f args H n v H2 n2 := by
 intro p φ w hB hsc
 have key : ∀ φ' w', Dn P p φ n (hget H) w u n1 (hget H1) φ' w' → ∃ φ2, den φ' u = den φ2 v ∧ Dn P p φ n (hget H) w v n2 (hget H2) φ2 w' := by
   intro φ' w' hd
   obtain ⟨hsm, hscu, hst⟩ := hd
   let φ2 : Vl := ⟨fun k => if n ≤ k ∧ k < n2 then φ'.loc (ρ k) else φ.loc k, fun k => if n ≤ k ∧ k < n2 then φ'.cap (ρ k) else φ.cap k⟩
   have hoth : ∀ k, ¬ (n ≤ k ∧ k < n2) → φ2.loc k = φ.loc k ∧ φ2.cap k = φ.cap k := fun k hk => by simp only [φ2]; rw [if_neg hk, if_neg hk]; exact ⟨rfl, rfl⟩
   have hmid : ∀ k, n ≤ k ∧ k < n2 → φ2.loc k = φ'.loc (ρ k) ∧ φ2.cap k = φ'.cap (ρ k) := fun k hk => by simp only [φ2]; rw [if_pos hk, if_pos hk]; exact ⟨rfl, rfl⟩
   have hrn : Rn (Nx p n n2) ρ φ' φ2 := fun k hk => by
     rcases hk with hk | hk
     · have hk0 := hB.lt k hk
       rw [(hoth k (by omega)).1, (hoth k (by omega)).2, hlow k hk0, (hst.only k (.inl hk0)).1, (hst.only k (.inl hk0)).2]
       exact ⟨rfl, rfl⟩
     · exact hmid k hk
   have hnx : ∀ k, Nx p n n1 (ρ k) ∧ k < n2 → Nx p n n2 k := fun k hk => by
     by_cases h0 : k < n
     · have := hk.1
       rw [hlow k h0] at this
       rcases this with h1 | h1
       · exact .inl h1
       · omega
     · exact .inr ⟨by omega, hk.2⟩
   have hscv : sc (Nx p n n2) v := sc_mono hnx v (sc_ren v (hv ▸ hscu) hsv)
   have hagr : Agr p φ φ2 := fun k hk => hoth k (by have := hB.lt k hk; omega)
   have hagr' : Agr p φ' φ2 := fun k hk => by
     have h1 := hagr k hk
     have h2 := hst.only k (.inl (hB.lt k hk))
     exact ⟨h1.1.trans h2.1.symm, h1.2.trans h2.2.symm⟩
   have hone : ∀ k b, hget H2 k = some b → (∃ b', hget H1 (ρ k) = some b' ∧ b'.own = b.own) ∧ φ2.loc k = φ'.loc (ρ k) := fun k b hk => by
     rcases hH k b hk with ⟨h1, h2⟩ | ⟨h1, h2, h3, h4, h5, h6, h7⟩
     · have hp := (hB.sm k b h1).1
       have hk0 := hB.lt k hp
       rw [hlow k hk0]
       exact ⟨⟨b, h2, rfl⟩, (hagr' k hp).1⟩
     · exact ⟨⟨_, h4, renB_own _ _⟩, (hmid k ⟨h1, h2⟩).1⟩
   refine ⟨φ2, by rw [hv]; exact den_ren hrn v hscv, fun k b hk => ?_, hscv, hle, fun k hk => hoth k (by omega), ⟨fun k b hk => ?_, fun k b k' b' g1 g2 hne ho => ?_, fun g hg => ?_⟩, fun k b hk ho => ?_, fun k b hk ho => ?_, hst.frm⟩
   · rcases hH k b hk with ⟨h1, h2⟩ | ⟨h1, h2, h3, h4, h5, h6, h7⟩
     · exact ⟨.inl (hB.sm k b h1).1, scB_mono (fun _ h => .inl h) _ (hB.sm k b h1).2⟩
     · exact ⟨.inr ⟨h1, h2⟩, scB_mono hnx _ (scB_ren b h6 (hsm _ _ h4).2 h5)⟩
   · rw [(hone k b hk).2]
     rcases hH k b hk with ⟨h1, h2⟩ | ⟨h1, h2, h3, h4, h5, h6, h7⟩
     · have hp := hB.sm k b h1
       rw [hlow k (hB.lt k hp.1)]
       exact (hst.rel.blk k b h2).congr hagr' hp.1 hp.2
     · exact BRel.ren hrn (.inr ⟨h1, h2⟩) h6 (scB_mono hnx _ (scB_ren b h6 (hsm _ _ h4).2 h5)) (hst.rel.blk _ _ h4)
   · obtain ⟨⟨c, c1, c2⟩, c3⟩ := hone k b g1
     obtain ⟨⟨d, d1, d2⟩, d3⟩ := hone k' b' g2
     rw [c3, d3]
     refine hst.rel.apart _ _ _ _ c1 d1 (fun e => hne ?_) (c2.trans ho)
     rcases hH k b g1 with ⟨h1, _⟩ | ⟨h1, _, h3, _⟩ <;> rcases hH k' b' g2 with ⟨h1', _⟩ | ⟨h1', _, h3', _⟩
     · have hk0 := hB.lt k (hB.sm k b h1).1
       have hk1 := hB.lt k' (hB.sm k' b' h1').1
       rwa [hlow k hk0, hlow k' hk1] at e
     · have hk0 := hB.lt k (hB.sm k b h1).1
       rw [hlow k hk0] at e
       omega
     · have hk1 := hB.lt k' (hB.sm k' b' h1').1
       rw [hlow k' hk1] at e
       omega
     · exact hinj k b k' b' h1 h1' g1 g2 e
   · rw [(hoth g (by have := hB.gn; omega)).1]; exact hB.rel.glob g hg
   · obtain ⟨⟨c, c1, c2⟩, c3⟩ := hone k b hk
     rw [c3]
     exact hst.new _ _ c1 (c2.trans ho)
   · rcases hH k b hk with ⟨h1, _⟩ | ⟨_, _, _, _, _, _, h7⟩
     · exact h1
     · rw [h7] at ho; cases ho
 rcases h p φ w hB hsc with ⟨h1, h3⟩ | ⟨φ', w', h1, h3⟩
 · refine .inl ⟨h1, CallsIn.mono h3 fun e w' hh => ?_⟩
   obtain ⟨φ', he, hd⟩ := hh
   obtain ⟨φ2, e2, hd2⟩ := key φ' w' hd
   exact ⟨φ2, by rw [he, e2], hd2⟩
 · obtain ⟨φ2, e2, hd2⟩ := key φ' w' h3
   exact .inr ⟨φ2, w', by rw [h1, e2], hd2⟩
def Fresh (n n2 : Nat) (H : Heap) (v : Value) (B : Heap) (u : Value) (H1 : Heap) : Prop :=
 ∃ ρ : Nat → Nat, (∀ k, k < n → ρ k = k) ∧ u = ren ρ v ∧ (∀ k b, hget B k = some b → n ≤ k ∧ k < n2 ∧ n ≤ ρ k ∧ hget H1 (ρ k) = some (renB ρ b) ∧ scB (· < n2) b ∧ carried b ∧ b.own = true) ∧
   (∀ j b k c, hget B j = some b → hget B k = some c → ρ j = ρ k → j = k) ∧ ∀ k b, hget H k = some b → hget H1 k = some b
theorem AC.fresh {P : Program} {f : FuncId} {fn : Func} {c : Code} {args : List Value} {H B : Heap} {n n2 : Nat} {v : Value} (hf : P.funcs[f]? = some fn) (hb : fn.body = some c) (he : enterable P f = true) (hlen : Nat.ble args.length fn.ntmps = true) (vs : List Nat) (hle : n ≤ n2) (hsv : sc (· < n2) v) (hnf : ∀ ρ, af (Ab.ren ρ v) = false)
   (h : E P n none c { fr := argsFr args 0, sz := fn.ntmps, H, n, marks := [], vs } (outK P fn (Fresh n n2 H v B))) : AC P f args H n v (B ++ H) n2 := by
 refine AC.given fun hlt _ _ => ?_
 obtain ⟨u, H1, n1, H3, hAC, ⟨ρ, h1, h2, h3, h4, h5⟩, hh⟩ := AC.out hf hb he hlen vs h
 obtain rfl := hh (by rw [h2]; exact hnf ρ)
 have happ : ∀ k b, hget (B ++ H) k = some b → hget B k = some b ∨ (hget B k = none ∧ hget H k = some b) := by
   clear h3 h4 h
   induction B with
   | nil => intro k b hk; exact .inr ⟨rfl, hk⟩
   | cons x B ih =>
     intro k b hk
     obtain ⟨j, y⟩ := x
     rw [List.cons_append, hget_cons] at hk
     rw [hget_cons]
     by_cases e : j = k
     · rw [if_pos e] at hk ⊢; exact .inl hk
     · rw [if_neg e] at hk ⊢; exact ih k b hk
 refine hAC.ren ρ h1 hle h2 hsv (fun k b hk => ?_) fun j b k c hj hk hb hc e => ?_
 · rcases happ k b hk with h | ⟨_, h⟩
   · exact .inr (h3 k b h)
   · exact .inl ⟨h, h5 k b h⟩
 · rcases happ j b hb with g | ⟨_, g⟩
   · rcases happ k c hc with g' | ⟨_, g'⟩
     · exact h4 j b k c g g' e
     · have := (hlt k c g').1
       omega
   · have := (hlt j b g).1
     omega
/-! ### loops at any heap -/
theorem Leads.renR {P : Program} {n0 : Nat} {s s2 : St} {A H : Heap} (ρ : Nat → Nat) (hs2 : s2.H = A ++ H) (hold : ∀ k b, hget H k = some b → k < n0 ∧ scB (· < n0) b) (hkeep : ∀ k b, hget H k = some b → hget s.H k = some b) (hlow : ∀ k, k < n0 → ρ k = k) (hle : n0 ≤ s2.n) (hz : s2.sz = s.sz) (hm : s.marks = [] ∧ s2.marks = [])
   (hf : ∀ t v, lk s2.fr t = some v → (lk s.fr t = some v ∧ sc (· < n0) v) ∨ (lk s.fr t = some (Ab.ren ρ v) ∧ sc (· < s2.n) v))
   (hA : ∀ x ∈ A, n0 ≤ x.1 ∧ x.1 < s2.n ∧ n0 ≤ ρ x.1 ∧ hget s.H (ρ x.1) = some (renB ρ x.2) ∧ scB (· < s2.n) x.2 ∧ carried x.2 ∧ x.2.own = true) (hinj : ∀ x ∈ A, ∀ y ∈ A, ρ x.1 = ρ y.1 → x.1 = y.1) : Leads P n0 s s2 := by
 intro p φ M w0 hg hp a w φ1 hS hs
 let φ2 : Vl := ⟨fun k => if n0 ≤ k ∧ k < s2.n then φ1.loc (ρ k) else φ.loc k, fun k => if n0 ≤ k ∧ k < s2.n then φ1.cap (ρ k) else φ.cap k⟩
 have hl2 : ∀ k, k < n0 → φ2.loc k = φ.loc k ∧ φ2.cap k = φ.cap k := fun k hk => by simp only [φ2]; rw [if_neg (by omega), if_neg (by omega)]; exact ⟨rfl, rfl⟩
 have hmid : ∀ k, n0 ≤ k → k < s2.n → φ2.loc k = φ1.loc (ρ k) ∧ φ2.cap k = φ1.cap (ρ k) := fun k h1 h2 => by simp only [φ2]; rw [if_pos ⟨h1, h2⟩, if_pos ⟨h1, h2⟩]; exact ⟨rfl, rfl⟩
 have hrn : Rn (Nx p n0 s2.n) ρ φ1 φ2 := fun k hk => by
   rcases hk with hk | hk
   · have hk0 := hp k hk
     rw [(hl2 k hk0).1, (hl2 k hk0).2, hlow k hk0, (hs.only k (.inl hk0)).1, (hs.only k (.inl hk0)).2]
     exact ⟨rfl, rfl⟩
   · exact hmid k hk.1 hk.2
 have hnx : ∀ k, Nx p n0 s.n (ρ k) ∧ k < s2.n → Nx p n0 s2.n k := fun k hk => by
   by_cases h0 : k < n0
   · have := hk.1
     rw [hlow k h0] at this
     rcases this with h1 | h1
     · exact .inl h1
     · omega
   · exact .inr ⟨by omega, hk.2⟩
 have hpl : ∀ k, Nx p n0 s.n k ∧ k < n0 → p k := fun k hk => by
   rcases hk.1 with h1 | h1
   · exact h1
   · omega
 have hagr : Agr p φ1 φ2 := fun k hk => by
   have hk0 := hp k hk
   rw [(hl2 k hk0).1, (hl2 k hk0).2, (hs.only k (.inl hk0)).1, (hs.only k (.inl hk0)).2]
   exact ⟨rfl, rfl⟩
 have hM : ∀ k b, hget s2.H k = some b → ((k, b) ∈ A) ∨ hget H k = some b := by
   rw [hs2]
   clear hA hs2 hinj
   induction A with
   | nil => intro k b hk; exact .inr hk
   | cons x A ih =>
     intro k b hk
     obtain ⟨j, y⟩ := x
     rw [List.cons_append, hget_cons] at hk
     by_cases e : j = k
     · rw [if_pos e] at hk; injection hk with hk; subst e hk; exact .inl (List.mem_cons_self ..)
     · rw [if_neg e] at hk
       rcases ih k b hk with h | h
       · exact .inl (List.mem_cons_of_mem _ h)
       · exact .inr h
 have old : ∀ k b, hget H k = some b → p k ∧ scB p b ∧ hget s.H k = some b ∧ k < n0 := fun k b hk => by
   obtain ⟨h1, h2⟩ := hold k b hk
   have h3 := hkeep k b hk
   have h4 := hS.base.sm k b h3
   exact ⟨hpl k ⟨h4.1, h1⟩, scB_mono hpl _ (scB_and b h4.2 h2), h3, h1⟩
 have hone : ∀ k b, hget s2.H k = some b → Nx p n0 s2.n k ∧ scB (Nx p n0 s2.n) b ∧ (∃ b', hget s.H (ρ k) = some b' ∧ b'.own = b.own) ∧ φ2.loc k = φ1.loc (ρ k) ∧ BRel P φ2 k b w.heap[φ1.loc (ρ k)]? := fun k b hk => by
   rcases hM k b hk with h | h
   · obtain ⟨h1, h2, _, h3, h4, h5, h6⟩ := hA (k, b) h
     have hn' : Nx p n0 s2.n k := .inr ⟨h1, h2⟩
     have hsc := scB_mono hnx _ (scB_ren b h5 (hS.base.sm _ _ h3).2 h4)
     exact ⟨hn', hsc, ⟨_, h3, renB_own _ _⟩, (hrn k hn').1, BRel.ren hrn hn' h5 hsc (hS.base.rel.blk _ _ h3)⟩
   · obtain ⟨h1, h2, h3, h4⟩ := old k b h
     have e : ρ k = k := hlow k h4
     rw [e]
     exact ⟨.inl h1, scB_mono (fun _ h => .inl h) _ h2, ⟨b, h3, rfl⟩, (hagr k h1).1, (hS.base.rel.blk k b h3).congr hagr h1 h2⟩
 have hlt : ∀ k, Nx p n0 s2.n k → k < s2.n := fun k hk => Nx.lt hp hle hk
 have hrinj : ∀ k b k' b', hget s2.H k = some b → hget s2.H k' = some b' → ρ k = ρ k' → k = k' := fun k b k' b' g1 g2 e => by
   rcases hM k b g1 with h | h <;> rcases hM k' b' g2 with h' | h'
   · exact hinj (k, b) h (k', b') h' e
   · have h1 := (hA (k, b) h).2.2.1
     have h3 := (old k' b' h').2.2.2
     rw [hlow k' h3] at e
     dsimp only at h1
     omega
   · have h1 := (hA (k', b') h').2.2.1
     have h3 := (old k b h).2.2.2
     rw [hlow k h3] at e
     dsimp only at h1
     omega
   · have h3 := (old k b h).2.2.2
     have h4 := (old k' b' h').2.2.2
     rwa [hlow k h3, hlow k' h4] at e
 have hrel : HRel P φ2 (hget s2.H) w := by
   refine ⟨fun k b hk => ?_, fun k b k' b' h1 h2 hne ho => ?_, fun g hg' => ?_⟩
   · obtain ⟨_, _, _, h4, h5⟩ := hone k b hk
     rw [h4]; exact h5
   · obtain ⟨_, _, ⟨c, c1, c2⟩, c3, _⟩ := hone k b h1
     obtain ⟨_, _, ⟨d, d1, _⟩, d3, _⟩ := hone k' b' h2
     rw [c3, d3]
     exact hS.base.rel.apart _ _ _ _ c1 d1 (fun e => hne (hrinj k b k' b' h1 h2 e)) (c2.trans ho)
   · have := hp g (hg g hg')
     rw [(hl2 g this).1, ← (hs.only g (.inl this)).1]
     exact hS.base.rel.glob g hg'
 have hfr : ∀ t v, lk s2.fr t = some v → ∃ u, lk s.fr t = some u ∧ den φ1 u = den φ2 v ∧ sc (Nx p n0 s2.n) v := fun t v hv => by
   rcases hf t v hv with ⟨h1, h2⟩ | ⟨h1, h2⟩
   · have hsf := hS.base.sf t _ h1
     have hsp : sc p v := sc_mono hpl v (sc_and v hsf h2)
     exact ⟨v, h1, (den_congr hagr v hsp).symm, sc_mono (fun _ h => .inl h) v hsp⟩
   · have hsf := hS.base.sf t _ h1
     have hsv : sc (Nx p n0 s2.n) v := sc_mono hnx v (sc_ren v hsf h2)
     exact ⟨_, h1, den_ren hrn v hsv, hsv⟩
 refine ⟨φ2, ⟨⟨hrel, hlt, fun g hg' => .inl (hg g hg'), ?_, fun k b hk => ⟨(hone k b hk).1, (hone k b hk).2.1⟩, fun t v hv => ?_, fun t v hv => ?_⟩, ?_, ?_, ?_⟩, hle, fun k hk => ?_, hrel, fun k b hk ho => ?_, fun k b hk ho => ?_, hs.frm⟩
 · refine Nat.le_of_not_lt fun hc => ?_
   have := hp _ (hg _ hc)
   omega
 · obtain ⟨u, h1, h2, _⟩ := hfr t v hv
   rw [hS.base.ar t _ h1, h2]
 · exact (hfr t v hv).choose_spec.2.2
 · rw [hz]; exact hS.size
 · rw [hm.2, hS.defs, hm.1]; rfl
 · rw [hm.2]; simp
 · rcases hk with hk | hk
   · exact hl2 k hk
   · simp only [φ2]; rw [if_neg (by omega), if_neg (by omega)]; exact ⟨rfl, rfl⟩
 · obtain ⟨_, _, ⟨c, c1, c2⟩, c3, _⟩ := hone k b hk
   rw [c3]
   exact hs.new _ _ c1 (c2.trans ho)
 · rcases hM k b hk with h | h
   · rw [(hA (k, b) h).2.2.2.2.2.2] at ho; cases ho
   · exact hs.inp k b (hkeep k b h) ho
theorem Leads.renN {P : Program} {n0 : Nat} {s s2 : St} {A H : Heap} (olds : List Nat) (hs2 : s2.H = A ++ H) (hold : ∀ k b, hget H k = some b → k < n0 ∧ scB (· < n0) b) (hkeep : ∀ k b, hget H k = some b → hget s.H k = some b) (ho : oldsOk n0 s.n olds = true) (hn : s2.n = n0 + olds.length) (hz : s2.sz = s.sz) (hm : s.marks = [] ∧ s2.marks = [])
   (hf : ∀ x ∈ s2.fr, (lk s.fr x.1 = some x.2 ∧ sc (· < n0) x.2) ∨ (lk s.fr x.1 = some (Ab.ren (rnm n0 olds) x.2) ∧ sc (· < s2.n) x.2))
   (hA : ∀ x ∈ A, n0 ≤ x.1 ∧ x.1 < s2.n ∧ hget s.H (rnm n0 olds x.1) = some (renB (rnm n0 olds) x.2) ∧ scB (· < s2.n) x.2 ∧ carried x.2 ∧ x.2.own = true) : Leads P n0 s s2 := by
 obtain ⟨hk, hd⟩ := oldsOk_spec olds ho
 have hlow : ∀ k, k < n0 → rnm n0 olds k = k := fun k h => by unfold rnm; rw [if_pos h]
 have hget' : ∀ k, n0 ≤ k → k < s2.n → ∃ h : k - n0 < olds.length, rnm n0 olds k = olds[k - n0] := fun k h1 h2 => by
   refine ⟨by omega, ?_⟩
   unfold rnm
   rw [if_neg (by omega), List.getD_eq_getElem?_getD, List.getElem?_eq_getElem (by omega)]
   rfl
 have hhigh : ∀ k, n0 ≤ k → k < s2.n → n0 ≤ rnm n0 olds k ∧ rnm n0 olds k < s.n := fun k h1 h2 => by
   obtain ⟨h, e⟩ := hget' k h1 h2
   rw [e]; exact hk _ (List.getElem_mem h)
 have hinj : ∀ j k, n0 ≤ j → j < s2.n → n0 ≤ k → k < s2.n → rnm n0 olds j = rnm n0 olds k → j = k := fun j k a1 a2 b1 b2 he => by
   obtain ⟨h, e⟩ := hget' j a1 a2
   obtain ⟨h', e'⟩ := hget' k b1 b2
   rw [e, e'] at he
   have hne : ∀ (x y : Nat) (hx : x < olds.length) (hy : y < olds.length), x < y → olds[x] ≠ olds[y] := fun x y hx hy hlt => List.pairwise_iff_getElem.1 hd x y hx hy hlt
   rcases Nat.lt_trichotomy (j - n0) (k - n0) with hlt | heq | hlt
   · exact absurd he (hne _ _ _ _ hlt)
   · omega
   · exact absurd he.symm (hne _ _ _ _ hlt)
 refine Leads.renR (rnm n0 olds) hs2 hold hkeep hlow (by omega) hz hm (fun t v hv => hf (t, v) (lk_mem _ _ _ hv)) (fun x hx => ?_) fun x hx y hy e => ?_
 · obtain ⟨h1, h2, h3, h4, h5, h6⟩ := hA x hx
   exact ⟨h1, h2, (hhigh _ h1 h2).1, h3, h4, h5, h6⟩
 · obtain ⟨h1, h2, _⟩ := hA x hx
   obtain ⟨h1', h2', _⟩ := hA y hy
   exact hinj _ _ h1 h2 h1' h2' e
end Go.Ab
