/-
One piece of the run of awake, reckoned by the kernel between two printed states (no condition).
-/
import Derived.Maps.RangeRun
import Derived.Test.YtkongcnmkiihjaaGreatDoorAf
namespace Go.Ab
section
open Go
def dnames:Heap → List Nat
 | []=>[]
 | (k,.cells _ _) :: H | (k,.ext _ _ _) :: H | (k,.inp _ _) :: H | (k,.row _ _) :: H | (k,.tab _) :: H=>k :: dnames H
 | _ :: H=>dnames H
def visT (late:List Nat) (n0 i n:Nat) (see:List Nat):Bool:=(memN late i && see.all (Nat.blt · n)) || see.all (Nat.blt · n0)
def readT (P:Program) (late:List Nat) (n0 i:Nat) (o:Oper) (fr:Fr) (st:St) (see:List Nat):Option St:=
 match visT late n0 i st.n see with
 | true=>match opA P o fr (readA see st.H) st.n with
   | some (v,_,_)=>some { st with fr:=putA st.fr o.dst v }
   | none=>none
 | false=>none
def aloneT (P:Program) (r:Rec) (mk:List Nat) (i:Nat) (o:Oper) (fr:Fr) (st:St):Option St:=
 match runOp P r o { st with fr:=fr } with
 | some (v,H,k)=>match Nat.ble st.n k && namesOk k H && (Nat.beq k st.n || memN mk i) with
   | true=>some { st with fr:=putA st.fr o.dst v,H:=H,n:=k }
   | false=>none
 | none=>none
def handT (P:Program) (r:Rec) (mk:List Nat) (i:Nat) (o:Oper) (see:List Nat) (fr:Fr) (st:St):Option St:=
 match runOp P r o { st with fr:=fr,H:=handA see [] st.H } with
 | some (v,H,k)=>match Nat.ble st.n k && namesOk k (takeNew st.n H) && (Nat.beq k st.n || memN mk i) with
   | true=>some { st with fr:=putA st.fr o.dst v,H:=takeNew st.n H ++ st.H,n:=k }
   | false=>none
 | none=>none
def doneT (P:Program) (r:Rec) (al mk late:List Nat) (n0 i:Nat) (o:Oper) (fr:Fr) (st:St):Option St:=
 match isPure o.op with
 | true=>pureS P o fr st
 | false=>match isRead o.op with
   | true=>match footA P fr o.op with
     | some f=>readT P late n0 i o fr st f.see
     | none=>none
   | false=>match memN al i with
     | true=>aloneT P r mk i o fr st
     | false=>match footA P fr o.op with
       | some f=>match f.put.isEmpty && visT late n0 i st.n f.see with
         | true=>handT P r mk i o f.see fr st
         | false=>none
       | none=>match memN late i with
         | true=>handT P r mk i o (dnames st.H) fr st
         | false=>none
def oneT (P:Program) (r:Rec) (ops:Array Oper) (al mk late:List Nat) (n0 i:Nat) (o:Oper) (st:St):Option St:=
 match dstOk st.sz o.dst with
 | false=>none
 | true=>match wantedA ops (trim (lookTmps ops o) st.fr) o with
   | none=>none
   | some false=>some { st with fr:=putA st.fr o.dst undefV }
   | some true=>doneT P r al mk late n0 i o (trim (lookTmps ops o) st.fr) st
def opsT (P:Program) (r:Rec) (ops:Array Oper) (al mk late:List Nat) (n0:Nat):List Oper → Nat → St → Option St
 | [],_,st=>some st
 | o :: os,i,st=>match oneT P r ops al mk late n0 i o st with
   | some st'=>opsT P r ops al mk late n0 os (i + 1) st'
   | none=>none
def runT (P:Program) (r:Rec) (ops:Array Oper) (al mk late:List Nat) (st:St):Option St:=
 match namesOk st.n st.H with
 | true=>opsT P r ops al mk late st.n ops.toList 0 st
 | false=>none
def alEq (ops:Array Oper) (bef:Array Nat) (al:List Nat):List Oper → Nat → Bool
 | [],_=>true
 | o :: os,i=>(isPure o.op || isRead o.op || memN al i == aloneA bef i ops.toList 0) && alEq ops bef al os (i + 1)
def lateOk (bef:Array Nat) (mk late:List Nat):Bool:=late.all fun i=>mk.all fun d=>Nat.ble i d || ahead bef d i
structure InvT (mk:List Nat) (n0 i:Nat) (ds:List Done) (st:St):Prop where
 put:∀ d ∈ ds,d.put=[]
 cov:∀ k,n0 ≤ k → k < st.n → ∃ d ∈ ds,d.lo ≤ k ∧ k < d.hi ∧ memN mk d.i=true ∧ d.i < i
 nam:∀ x ∈ st.H,x.1 < st.n
theorem namesOk_mem:∀ (H:Heap) (k:Nat),namesOk k H=true → ∀ x ∈ H,x.1 < k
 | [],_,_,x,hx=>by cases hx
 | (j,b) :: H,k,h,x,hx=>by
   simp only [namesOk] at h
   split at h
   · rename_i hj
     rcases List.mem_cons.1 hx with rfl | hx
     · exact (blt_iff _ _).1 hj
     · exact namesOk_mem H k h x hx
   · cases h
theorem lateOk_vis {bef:Array Nat} {mk late:List Nat} (hl:lateOk bef mk late=true) {n0 i:Nat} (hi:memN late i=true) {ds:List Done} {st:St} (hI:InvT mk n0 i ds st) {k:Nat} (hk:k < st.n):visA bef n0 i ds k=true:=by
 unfold visA
 rw [Bool.or_eq_true]
 rcases Nat.lt_or_ge k n0 with h | h
 · exact .inl ((blt_iff _ _).2 h)
 · obtain ⟨d,hd,h1,h2,h3,h4⟩:=hI.cov k h hk
   refine .inr (List.any_eq_true.2 ⟨d,hd,?_⟩)
   have:=List.all_eq_true.1 (List.all_eq_true.1 hl i ((memN_iff _ _).1 hi)) d.i ((memN_iff _ _).1 h3)
   rw [Bool.or_eq_true] at this
   rcases this with h | h
   · have:=Nat.le_of_ble_eq_true h
     omega
   · simp only [Bool.and_eq_true]
     exact ⟨⟨Nat.ble_eq_true_of_le h1,(blt_iff _ _).2 h2⟩,h⟩
theorem footT {bef:Array Nat} {mk late:List Nat} (hl:lateOk bef mk late=true) {n0 i:Nat} {ds:List Done} {st:St} (hI:InvT mk n0 i ds st) {see:List Nat} (h:visT late n0 i st.n see=true):footOk bef n0 i ds see []=true:=by
 unfold footOk
 simp only [Bool.and_eq_true]
 refine ⟨⟨List.all_eq_true.2 fun d hd=>?_,List.all_eq_true.2 fun k hk=>?_⟩,rfl⟩
 · simp [disj,hI.put d hd]
 · unfold visT at h
   rw [Bool.or_eq_true] at h
   rcases h with h | h
   · rw [Bool.and_eq_true] at h
     exact lateOk_vis hl h.1 hI ((blt_iff _ _).1 (List.all_eq_true.1 h.2 k hk))
   · have:=List.all_eq_true.1 h k hk
     unfold visA
     rw [this,Bool.true_or]
theorem seeCall_dnames {bef:Array Nat} {n0 i:Nat} {ds:List Done} (hp:∀ d ∈ ds,d.put=[]):∀ H:Heap,(∀ x ∈ H,visA bef n0 i ds x.1=true) → seeCall bef n0 i ds H=dnames H
 | [],_=>rfl
 | (k,b) :: H,hv=>by
   have ih:=seeCall_dnames hp H fun x hx=>hv x (List.mem_cons_of_mem _ hx)
   have h1:=hv _ (List.mem_cons_self ..)
   have h2:(ds.all fun d=>ahead bef d.i i || !memN d.put k)=true:=List.all_eq_true.2 fun d hd=>by rw [hp d hd]; simp [memN]
   cases b <;> simp only [seeCall,dnames,h1,h2,ih,Bool.and_self,if_true]
theorem dnames_mem:∀ (H:Heap) (k:Nat),k ∈ dnames H → ∃ b,(k,b) ∈ H
 | [],k,h=>by cases h
 | (j,b) :: H,k,h=>by
   have go:k ∈ dnames H → ∃ b',(k,b') ∈ (j,b) :: H:=fun h=>by
     obtain ⟨b',h'⟩:=dnames_mem H k h
     exact ⟨b',List.mem_cons_of_mem _ h'⟩
   cases b <;> simp only [dnames] at h
   all_goals first
     | exact go h
     | rcases List.mem_cons.1 h with rfl | h
       · exact ⟨_,List.mem_cons_self ..⟩
       · exact go h
theorem InvT.same {mk:List Nat} {n0 i:Nat} {ds:List Done} {st:St} (hI:InvT mk n0 i ds st) {fr:Fr}:InvT mk n0 (i + 1) ds { st with fr:=fr }:=
 ⟨hI.put,fun k h1 h2=>by obtain ⟨d,a,b,c,e,f⟩:=hI.cov k h1 h2; exact ⟨d,a,b,c,e,by omega⟩,hI.nam⟩
theorem InvT.next {mk:List Nat} {n0 i:Nat} {ds:List Done} {st:St} (hI:InvT mk n0 i ds st) {fr:Fr} {see:List Nat} {H:Heap} {k:Nat} (hn:∀ x ∈ H,x.1 < k) (hm:(Nat.beq k st.n || memN mk i)=true):InvT mk n0 (i + 1) (⟨i,see,[],st.n,k⟩ :: ds) { st with fr:=fr,H:=H,n:=k }:=by
 refine ⟨fun d hd=>?_,fun j h1 h2=>?_,hn⟩
 · rcases List.mem_cons.1 hd with rfl | hd
   · rfl
   · exact hI.put d hd
 · rcases Nat.lt_or_ge j st.n with h | h
   · obtain ⟨d,a,b,c,e,f⟩:=hI.cov j h1 h
     exact ⟨d,List.mem_cons_of_mem _ a,b,c,e,by omega⟩
   · rw [Bool.or_eq_true] at hm
     have h2:j < k:=h2
     rcases hm with hm | hm
     · have:=Nat.eq_of_beq_eq_true hm
       omega
     · exact ⟨_,List.mem_cons_self ..,h,h2,hm,Nat.lt_succ_self _⟩
theorem handT_ok {P:Program} {r:Rec} {bef:Array Nat} {mk:List Nat} {n0 i:Nat} {ds:List Done} {o:Oper} {fr:Fr} {st st':St} (hI:InvT mk n0 i ds st) {see:List Nat} (hf:footOk bef n0 i ds see []=true) (h:handT P r mk i o see fr st=some st'):∃ ds',handOp P r bef n0 i ds o see [] fr st=some (st',ds') ∧ InvT mk n0 (i + 1) ds' st':=by
 have hb:∀ (H' H:Heap),backA [] H' H=H:=fun H' H=>by
   induction H with
   | nil=>rfl
   | cons x H ih=>obtain ⟨k,b⟩:=x; simp only [backA,memN,ih]
 unfold handT at h
 unfold handOp
 rw [hf]
 simp only
 split at h
 · rename_i v H k hv
   rw [hv]
   simp only
   split at h
   · rename_i hc
     simp only [Bool.and_eq_true] at hc
     injection h with h; subst h
     rw [hc.1.1,hc.1.2]
     simp only [hb,Bool.and_self]
     have hle:=Nat.le_of_ble_eq_true hc.1.1
     refine ⟨_,rfl,hI.next (fun x hx=>?_) hc.2⟩
     rcases List.mem_append.1 hx with hx | hx
     · exact namesOk_mem _ _ hc.1.2 x hx
     · exact Nat.lt_of_lt_of_le (hI.nam x hx) hle
   · cases h
 · cases h
theorem opsT_ok {P:Program} {r:Rec} {ops:Array Oper} {bef:Array Nat} {al mk late:List Nat} (hl:lateOk bef mk late=true) {n0:Nat}:∀ (os:List Oper) (i:Nat) (st st':St) (ds:List Done),alEq ops bef al os i=true → InvT mk n0 i ds st → opsT P r ops al mk late n0 os i st=some st' → opsD P r ops bef n0 os i ds st=some st'
 | [],_,st,st',ds,_,_,h=>h
 | o :: os,i,st,st',ds,hal,hI,h=>by
   simp only [alEq,Bool.and_eq_true,Bool.or_eq_true,beq_iff_eq] at hal
   have halo:isPure o.op=false → isRead o.op=false → memN al i=aloneA bef i ops.toList 0:=fun h1 h2=>by
     rcases hal.1 with (h | h) | h
     · rw [h1] at h; cases h
     · rw [h2] at h; cases h
     · exact h
   simp only [opsT] at h
   split at h
   · rename_i st1 h1
     have key:∃ ds',oneD P r ops bef n0 i ds o st=some (st1,ds') ∧ InvT mk n0 (i + 1) ds' st1:=by
       unfold oneT at h1
       unfold oneD
       split at h1
       · cases h1
       · rename_i hd
         rw [hd]
         simp only
         split at h1
         · cases h1
         · rename_i hw
           rw [hw]
           injection h1 with h1; subst h1
           exact ⟨ds,rfl,hI.same⟩
         · rename_i hw
           rw [hw]
           simp only
           unfold doneT at h1
           unfold doneD
           split at h1
           · rename_i hp
             rw [hp]
             simp only
             unfold pureS at h1
             unfold pureOp
             split at h1
             · rename_i v a k hv
               rw [hv]
               simp only
               split at h1
               · rename_i hk
                 rw [hk]
                 injection h1 with h1; subst h1
                 exact ⟨ds,rfl,hI.same⟩
               · cases h1
             · cases h1
           · rename_i hp
             rw [hp]
             simp only
             split at h1
             · rename_i hrd
               rw [hrd]
               simp only
               split at h1
               · rename_i f hf
                 rw [hf]
                 simp only
                 unfold readT at h1
                 split at h1
                 · rename_i hv
                   unfold readOp
                   rw [footT hl hI hv]
                   simp only
                   split at h1
                   · rename_i v a b hv
                     rw [hv]
                     injection h1 with h1; subst h1
                     exact ⟨_,rfl,hI.next hI.nam (by simp)⟩
                   · cases h1
                 · cases h1
               · cases h1
             · rename_i hrd
               rw [hrd]
               simp only
               split at h1
               · rename_i hm
                 have ha:aloneA bef i ops.toList 0=true:=by rw [← halo hp hrd,hm]
                 rw [ha]
                 simp only
                 unfold aloneT at h1
                 unfold aloneOp
                 split at h1
                 · rename_i v H k hv
                   rw [hv]
                   simp only
                   split at h1
                   · rename_i hk
                     simp only [Bool.and_eq_true] at hk
                     rw [hk.1.1,hk.1.2]
                     injection h1 with h1; subst h1
                     exact ⟨_,rfl,hI.next (namesOk_mem _ _ hk.1.2) hk.2⟩
                   · cases h1
                 · cases h1
               · rename_i hm
                 have ha:aloneA bef i ops.toList 0=false:=by rw [← halo hp hrd,hm]
                 rw [ha]
                 simp only
                 split at h1
                 · rename_i f hf
                   rw [hf]
                   simp only
                   split at h1
                   · rename_i hv
                     rw [Bool.and_eq_true] at hv
                     rw [List.isEmpty_iff.1 hv.1]
                     exact handT_ok hI (footT hl hI hv.2) h1
                   · cases h1
                 · rename_i hf
                   rw [hf]
                   simp only
                   split at h1
                   · rename_i hv
                     have hvis:∀ k,k < st.n → visA bef n0 i ds k=true:=fun k hk=>lateOk_vis hl hv hI hk
                     rw [seeCall_dnames hI.put st.H fun x hx=>hvis _ (hI.nam x hx)]
                     refine handT_ok hI (footT hl hI ?_) h1
                     unfold visT
                     rw [hv]
                     simp only [Bool.true_and,Bool.or_eq_true]
                     refine .inl (List.all_eq_true.2 fun k hk=>?_)
                     obtain ⟨b,hb⟩:=dnames_mem _ _ hk
                     exact (blt_iff _ _).2 (hI.nam _ hb)
                   · cases h1
     obtain ⟨ds',h2,hI'⟩:=key
     simp only [opsD,h2]
     exact opsT_ok hl os (i + 1) st1 st' ds' hal.2 hI' h
   · cases h
def drawT (ops:Array Oper) (bef:Array Nat) (al mk late:List Nat):Bool:=drawOk ops bef && alEq ops bef al ops.toList 0 && lateOk bef mk late
section
variable {P:Program} {n0:Nat} {ro:Option Nat} {st st':St} {K:Ex → St → Prop} {r:Rec} {m:Nat}
theorem E.drawC (hm:P.follows .mixedOrders=true) (hr:RecOk P r m) (al mk late:List Nat) {id:Nat} {ops:Array Oper} (hd:drawT ops (Region.before ops) al mk late=true) (h:runT P r ops al mk late st=some st') (k:K .normal st'):E P n0 ro (.region id ops true) st K:=by
 unfold drawT at hd
 simp only [Bool.and_eq_true] at hd
 unfold runT at h
 split at h
 · rename_i hn
   exact E.draw hm hr hd.1.1 (opsT_ok hd.2 _ _ _ _ [] hd.1.2 ⟨by simp,fun k h1 h2=>by omega,namesOk_mem _ _ hn⟩ h) k
 · cases h
end
attribute [simp] runT opsT oneT doneT handT aloneT readT visT dnames handA takeNew
abbrev CodeSpec:=Option Nat → Code → St → Option (Ex × St)
open Classical in
noncomputable def recV (P:Program) (C:CodeSpec) (F:Oracle):Rec:=
 ⟨fun ro c s=>match c with
   | .loop _=>none
   | c=>match C ro c s with
     | some (e,s')=>if AT P ro c s e s' then some (e,s') else none
     | none=>none,
  fun f args H n=>match F f args H n with
   | some (v,H',n')=>if AC P f args H n v H' n' then some (v,H',n') else none
   | none=>none⟩
theorem recV_ok {P:Program} {C:CodeSpec} {F:Oracle}:RecOk P (recV P C F) 0 where
 code:=fun ro c st e st' h=>by
   simp only [recV] at h
   split at h
   · cases h
   · split at h
     · split at h
       · rename_i ha
         injection h with h; injection h with h1 h2; subst h1 h2; exact ha
       · cases h
     · cases h
 loop:=fun ro b st e st' h p φ a w hS hl Q hQ=>by
   simp only [recV] at h
   cases h
 call:=fun f args H n v H' n' h=>by
   simp only [recV] at h
   split at h
   · split at h
     · rename_i ha
       injection h with h; injection h with h1 h2; injection h2 with h2 h3; subst h1 h2 h3; exact ha
     · cases h
   · cases h
theorem recV_code {P:Program} {C:CodeSpec} {F:Oracle} {ro:Option Nat} {c:Code} {s s':St} {e:Ex} (hc:∀ b,c ≠ .loop b) (h:C ro c s=some (e,s')) (ha:AT P ro c s e s'):(recV P C F).code ro c s=some (e,s'):=by
 cases c with
 | loop b=>exact absurd rfl (hc b)
 | _=>simp only [recV,h,if_pos ha]
theorem recV_call {P:Program} {C:CodeSpec} {F:Oracle} {f:FuncId} {args:List Value} {H H':Heap} {n n':Nat} {v:Value} (h:F f args H n=some (v,H',n')) (ha:AC P f args H n v H' n'):(recV P C F).call f args H n=some (v,H',n'):=by
 simp only [recV]
 rw [h]; simp only; rw [if_pos ha]
mutual
theorem sc_and {p q:Nat → Prop}:∀ v,sc p v → sc q v → sc (fun k=>p k ∧ q k) v
 | .bool _,_,_ | .int _ _,_,_ | .float _ _,_,_ | .complex _ _ _,_,_ | .string _,_,_ | .nilFunc,_,_ | .nilIface,_,_ | .chan _,_,_=>by simp [sc]
 | .pointer none,_,_ | .slice none _ _,_,_ | .map none,_,_=>by simp [sc]
 | .pointer (some _),h1,h2=>⟨h1,h2⟩
 | .slice (some _) _ _,h1,h2=>⟨h1,h2⟩
 | .map (some _),h1,h2=>⟨h1,h2⟩
 | .func (.yield l) a b,h1,h2=>by
   simp only [sc] at h1 h2 ⊢
   exact ⟨⟨h1.1,h2.1⟩,scL_and _ h1.2.1 h2.2.1,scL_and _ h1.2.2 h2.2.2⟩
 | .func (.func f) a b,h1,h2 | .func (.method f) a b,h1,h2 | .func (.methodOf _ f) a b,h1,h2 | .func (.via _ _ f _) a b,h1,h2=>by
   simp only [sc] at h1 h2 ⊢
   exact ⟨scL_and _ h1.1 h2.1,scL_and _ h1.2 h2.2⟩
 | .iface t v,h1,h2=>by simp only [sc] at h1 h2 ⊢; exact sc_and v h1 h2
 | .agg cs,h1,h2=>by simp only [sc] at h1 h2 ⊢; exact scL_and _ h1 h2
 | .tuple cs,h1,h2=>by simp only [sc] at h1 h2 ⊢; exact scL_and _ h1 h2
theorem scL_and {p q:Nat → Prop}:∀ vs,scL p vs → scL q vs → scL (fun k=>p k ∧ q k) vs
 | [],_,_=>trivial
 | v :: vs,h1,h2=>by simp only [scL] at h1 h2 ⊢; exact ⟨sc_and v h1.1 h2.1,scL_and vs h1.2 h2.2⟩
end
def leftA (es:List MapEntry) (seen:List Nat):List MapEntry:=es.filter fun e=>!seen.contains e.born
def stepsA (H:Heap) (b m since clock:Nat) (seen:List Nat):List MapEntry → List (Value × Heap)
 | []=>[]
 | e :: es=>(.tuple #[.bool true,e.key,e.val],hset H b (.miter (some m) since (seen ++ [e.born]) clock)) :: stepsA H b m since clock seen es
def nextA (P:Program) (it:Operand) (fr:Fr) (H:Heap):Option (List (Value × Heap)):=
 match evO P fr it with
 | some (.pointer (some a))=>match Nat.beq a.off 0 with
   | true=>match hget H a.block with
     | some (.miter none _ _ _)=>some [(.tuple #[.bool false],H)]
     | some (.miter (some m) since seen last)=>match hget H m with
       | some (.map es clock)=>match (es.all fun e=>Nat.blt e.born since) && Nat.ble since last with
         | true=>match leftA es seen with
           | []=>some [(.tuple #[.bool false],H)]
           | e :: l=>some (stepsA H a.block m since clock seen (e :: l))
         | false=>none
       | _=>none
     | _=>none
   | false=>none
 | _=>none
theorem stepsA_mem {H:Heap} {b m since clock:Nat} {seen:List Nat}:∀ (l:List MapEntry) (e:MapEntry),e ∈ l → (Value.tuple #[.bool true,e.key,e.val],hset H b (.miter (some m) since (seen ++ [e.born]) clock)) ∈ stepsA H b m since clock seen l
 | e' :: l,e,h=>by
   rcases List.mem_cons.1 h with rfl | h
   · exact List.mem_cons_self ..
   · exact List.mem_cons_of_mem _ (stepsA_mem l e h)
section
variable {P:Program} {p:Nat → Prop} {φ:Vl} {n:Nat} {H:Heap} {w:World} {fr:Fr} {a:Act} {o:Oper}
theorem leftOf_den (φ:Vl) (es:List MapEntry) (seen:List Nat):(leftOf (es.map (denE φ)).toArray seen.toArray).toList=(leftA es seen).map (denE φ):=by
 simp only [leftOf,leftA,Array.toList_filter]
 rw [List.filter_map]
 congr 1
 congr 1
 funext e
 rw [Bool.eq_iff_iff]
 simp [denE]
 exact decide_eq_false_iff_not
theorem ok_nextM (hB : Base P p φ n (hget H) w fr a) {it : Operand} (ho : o.op = .next it false) {L : List (Value × Heap)} (h : nextA P it fr H = some L) :
   ∃ x ∈ L,Outc P p φ n (hget H) w ((execOp a.eval o).run P w) x.1 n (hget x.2):=by
 unfold nextA at h
 split at h
 · rename_i ad hx
   split at h
   · rename_i hoff
     have hoff:=Nat.eq_of_beq_eq_true hoff
     have hx':=hB.evO hx
     split at h
     · rename_i s q l hb
       injection h with h; subst h
       have hblk:=hB.rel.blk _ _ hb
       simp only [BRel,Option.map_none] at hblk
       refine ⟨_,List.mem_singleton_self _,.same hB.rel hB.sm ⟨trivial,trivial⟩ ?_⟩
       simp [execOp,ho,hx'.1,den,hoff,Instr.next,getObj,Sem.run,hblk,denL]
     · rename_i m since seen last hb
       split at h
       · rename_i es clock hm
         split at h
         · rename_i hc
           simp only [Bool.and_eq_true,List.all_eq_true] at hc
           have hblk:=hB.rel.blk _ _ hb
           have hmap:=hB.rel.blk _ _ hm
           simp only [BRel,Option.map_some] at hblk hmap
           have hN:=run_next_at (P:=P) w o.type (φ.loc ad.block) (φ.loc m) since last seen.toArray (es.map (denE φ)).toArray clock hblk hmap
             (fun x hx=>by
               simp only [List.mem_map] at hx
               obtain ⟨e,he,rfl⟩:=hx
               exact (blt_iff _ _).1 (hc.1 e he)) (Nat.le_of_ble_eq_true hc.2)
           have hmem:∀ e,e ∈ (leftOf (es.map (denE φ)).toArray seen.toArray).toList → ∃ e0 ∈ leftA es seen,denE φ e0=e:=fun e he=>by
             rw [leftOf_den] at he
             exact List.mem_map.1 he
           split at h
           · rename_i hl
             injection h with h; subst h
             refine ⟨_,List.mem_singleton_self _,.same hB.rel hB.sm ⟨trivial,trivial⟩ ?_⟩
             rcases hN with ⟨_,hr⟩ | ⟨e,he,_⟩
             · have hs:den φ (.pointer (some ad)) = .pointer (some ⟨φ.loc ad.block,0,none⟩):=by simp [den,hoff]
               simp [execOp,ho,hx'.1,hoff,hr,denL,den]
             · obtain ⟨e0,he0,_⟩:=hmem e he
               rw [hl] at he0; cases he0
           · rename_i e1 l1 hl
             injection h with h; subst h
             rcases hN with ⟨hz,_⟩ | ⟨e,he,w1,hw,hr⟩
             · have:(leftOf (es.map (denE φ)).toArray seen.toArray).toList=[]:=by
                 rw [Array.toList_eq_nil_iff]; exact Array.eq_empty_of_size_eq_zero hz
               rw [leftOf_den,hl] at this
               cases this
             · obtain ⟨e0,he0,rfl⟩:=hmem e he
               have hes:e0 ∈ es:=(List.mem_filter.1 he0).1
               have hsc:=(hB.sm m _ hm).2 e0 hes
               have hpm:=(hB.sm m _ hm).1
               have hheap:w1.heap=w.heap:=by rcases hw with rfl | rfl <;> rfl
               refine ⟨_,stepsA_mem _ e0 (hl ▸ he0),?_⟩
               rw [hget_hset_eq _ hb]
               refine ⟨(hB.sm.set hb (b:=.miter (some m) since (seen ++ [e0.born]) clock) (fun r hr=>by injection hr with hr; subst hr; exact hpm)).mono fun _ h=>.inl h,⟨trivial,sc_mono (fun _ h=>.inl h) _ hsc.1,sc_mono (fun _ h=>.inl h) _ hsc.2,trivial⟩,φ,
                 Go.ChangeMaps.setBlock w1 (φ.loc ad.block) (.mapIter (some (φ.loc m)) since (seen.toArray.push e0.born) clock),.inl ?_,Step.put hB.rel hb rfl rfl ?_ ?_ ?_ ?_ (fun i hi=>?_) ?_⟩
               · have hs:den φ (.pointer (some ad)) = .pointer (some ⟨φ.loc ad.block,0,none⟩):=by simp [den,hoff]
                 simp [execOp,ho,hx'.1,hoff,hr,denL,den,denE]
               · rcases hw with rfl | rfl <;> rfl
               · rcases hw with rfl | rfl <;> rfl
               · rcases hw with rfl | rfl <;> rfl
               · simp [Go.ChangeMaps.setBlock,hheap]
               · simp [Go.ChangeMaps.setBlock,hheap,Array.getElem?_setIfInBounds_ne (Ne.symm hi)]
               · have hlt:=hB.rel.lt hb
                 simp [Go.ChangeMaps.setBlock,hheap,hlt,BRel]
         · cases h
       · cases h
     · cases h
   · cases h
 · cases h
end
def NPost (P:Program) (p:Nat → Prop) (φ:Vl) (n:Nat) (M:Mp) (w:World) (L:List (Ex × St)) (e2:Exit) (a':Act) (w':World):Prop:=∃ y ∈ L,Post P p φ n M w y.1 y.2 e2 a' w'
def NT (P:Program) (ro:Option Nat) (c:Code) (st:St) (L:List (Ex × St)):Prop:=
 ∀ p φ a w,SRel P p φ st a w → (∀ l,ro=some l → p l) → c.wpIn (fence φ ro) 0 P (NPost P p φ st.n (hget st.H) w L) a w
section
variable {P:Program} {ro:Option Nat} {st:St} {L:List (Ex × St)}
theorem NT.one {c:Code} {e:Ex} {st':St} (h:AT P ro c st e st'):NT P ro c st [(e,st')]:=fun p φ a w hS hl=>wpIn_mono (h p φ a w hS hl) fun _ _ _ hh=>⟨_,List.mem_singleton_self _,hh⟩
theorem NT.then {b : Code} {st1 : St} {L2 : List (Ex × St)} (hb : NT P ro b st1 L2) (hsub : ∀ z ∈ L2, z ∈ L) {p : Nat → Prop} {φ : Vl} {n : Nat} {M : Mp} {w : World} (hp : ∀ k, p k → k < n) (hl : ∀ l, ro = some l → p l) {e2 : Exit} {a1 : Act} {w1 : World} (h : Post P p φ n M w .normal st1 e2 a1 w1) :
   b.wpIn (fence φ ro) 0 P (NPost P p φ n M w L) a1 w1:=by
 obtain ⟨_,φ1,hr,hs⟩:=h
 have:=hb _ φ1 a1 w1 hr (fun l h=>.inl (hl l h))
 rw [fence_step hs hp hl] at this
 exact wpIn_mono this fun _ _ _ ⟨z,hz,hh⟩=>⟨z,hsub z hz,Post.trans hp hs hh⟩
def onN (P:Program) (ro:Option Nat) (b:Code) (L:List (Ex × St)) (y:Ex × St):Prop:=match y.1 with
 | .normal=>∃ L2,NT P ro b y.2 L2 ∧ ∀ z ∈ L2,z ∈ L
 | _=>y ∈ L
theorem NT.seq {x b:Code} {L1:List (Ex × St)} (hx:NT P ro x st L1) (hy:∀ y ∈ L1,onN P ro b L y):NT P ro (.seq x b) st L:=fun p φ a w h hl=>
 wpIn_seq (wpIn_mono (hx p φ a w h hl) fun e2 a1 w1 hh=>by
   obtain ⟨⟨e,s1⟩,hm,hh⟩:=hh
   have hon:=hy _ hm
   have he:=hh.1
   subst he
   cases e with
   | normal=>
     obtain ⟨L2,hN,hsub⟩:=hon
     exact hN.then hsub h.base.lt hl hh
   | _=>exact ⟨_,hon,hh⟩)
theorem NT.cond {c:Operand} {x y:Code} {t:Bool} (hc:evO P st.fr c=some (.bool t)) (h:NT P ro (if t then x else y) st L):NT P ro (.cond c x y) st L:=fun p φ a w hs hl=>
 wpIn_cond (t:=t) (by rw [(hs.base.evO hc).1,den]) (h p φ a w hs hl)
def blockN (id:Nat):List (Ex × St) → List (Ex × St)
 | []=>[]
 | (.exit j,s) :: l=>(match Nat.beq j id with | true=>.normal | false=>.exit j,s) :: blockN id l
 | (e,s) :: l=>(e,s) :: blockN id l
theorem blockN_mem {id:Nat}:∀ {L:List (Ex × St)} {e:Ex} {s:St},(e,s) ∈ L → ((match e with | .exit j=>(match Nat.beq j id with | true=>Ex.normal | false=>.exit j) | e=>e),s) ∈ blockN id L
 | (e',s') :: l,e,s,h=>by
   rcases List.mem_cons.1 h with h | h
   · injection h with h1 h2; subst h1 h2
     cases e <;> exact List.mem_cons_self ..
   · have:=blockN_mem (id:=id) h
     cases e' <;> exact List.mem_cons_of_mem _ this
theorem NT.block {id:Nat} {b:Code} (h:NT P ro b st L):NT P ro (.block id b) st (blockN id L):=fun p φ a w hs hl=>
 wpIn_block (wpIn_mono (h p φ a w hs hl) fun e2 a1 w1 hh=>by
   obtain ⟨⟨e,s1⟩,hm,hh⟩:=hh
   have hm':=blockN_mem (id:=id) hm
   have he:=hh.1
   subst he
   cases e with
   | exit j=>
     cases hj:Nat.beq j id with
     | true=>
       have e1:=Nat.eq_of_beq_eq_true hj
       subst e1
       simp only [hj] at hm'
       simp only [Ex.to,Exit.inBlock,if_true]
       exact ⟨_,hm',rfl,hh.2⟩
     | false=>
       have hne:j ≠ id:=fun e=>by rw [e,Nat.beq_refl] at hj; cases hj
       simp only [hj] at hm'
       simp only [Ex.to,Exit.inBlock,hne,if_false]
       exact ⟨_,hm',hh⟩
   | _=>exact ⟨_,hm',hh⟩)
def LN (P:Program) (ro:Option Nat) (b:Code) (k:Nat) (st:St) (L:List (Ex × St)):Prop:=
 ∀ p φ a w,SRel P p φ st a w → (∀ l,ro=some l → p l) → ∀ Q:Exit → Act → World → Prop,(∀ e2 a' w',NPost P p φ st.n (hget st.H) w L e2 a' w' → Q e2 a' w') → LoopN (fence φ ro) 0 P b Q k a w
theorem LN.nt {b:Code} {k:Nat} (h:LN P ro b k st L):NT P ro (.loop b) st L:=fun p φ a w hS hl=>(h p φ a w hS hl _ fun _ _ _ hh=>hh).wpIn
def onL (P:Program) (ro:Option Nat) (b:Code) (k:Nat) (L:List (Ex × St)) (y:Ex × St):Prop:=match y.1 with
 | .normal=>∃ L2,LN P ro b k y.2 L2 ∧ ∀ z ∈ L2,z ∈ L
 | _=>y ∈ L
theorem LN.step {b:Code} {k:Nat} {L1:List (Ex × St)} (hb:NT P ro b { st with fr:=trim st.vs st.fr } L1) (hy:∀ y ∈ L1,onL P ro b k L y):LN P ro b (k + 1) st L:=fun p φ a w hS hl Q hQ=>by
 unfold LoopN
 refine wpIn_mono (hb p φ a w hS.trim hl) fun e2 a1 w1 hh=>?_
 obtain ⟨⟨e,s1⟩,hm,hh⟩:=hh
 have hon:=hy _ hm
 have he:=hh.1
 subst he
 cases e with
 | normal=>
   obtain ⟨L2,hN,hsub⟩:=hon
   obtain ⟨_,φ1,hr,hs⟩:=hh
   have:=hN _ φ1 a1 w1 hr (fun l h=>.inl (hl l h)) Q fun e3 a2 w2 hh2=>by
     obtain ⟨z,hz,hh2⟩:=hh2
     exact hQ _ _ _ ⟨z,hsub z hz,Post.trans hS.base.lt hs hh2⟩
   rw [fence_step hs hS.base.lt hl] at this
   exact this
 | _=>exact hQ _ _ _ ⟨_,hon,hh⟩
end
def opsN (P:Program) (r:Rec) (ops:Array Oper) (os:List Oper) (st:St) (d:Option Tmp):List (Value × Heap) → Option (List (Ex × St))
 | []=>some []
 | (v,H) :: l=>match opsF P r ops os { st with fr:=putA st.fr d v,H:=H } with
   | some s=>match opsN P r ops os st d l with
     | some L=>some ((.normal,s) :: L)
     | none=>none
   | none=>none
theorem opsN_mem {P:Program} {r:Rec} {ops:Array Oper} {os:List Oper} {st:St} {d:Option Tmp}:∀ {l:List (Value × Heap)} {L:List (Ex × St)},opsN P r ops os st d l=some L → ∀ x ∈ l,∃ s,opsF P r ops os { st with fr:=putA st.fr d x.1,H:=x.2 } = some s ∧ (Ex.normal,s) ∈ L
 | (v,H) :: l,L,h,x,hx=>by
   unfold opsN at h
   split at h
   · rename_i s hs
     split at h
     · rename_i L' hL
       injection h with h; subst h
       rcases List.mem_cons.1 hx with rfl | hx
       · exact ⟨s,hs,List.mem_cons_self ..⟩
       · obtain ⟨s',h1,h2⟩:=opsN_mem hL x hx
         exact ⟨s',h1,List.mem_cons_of_mem _ h2⟩
     · cases h
   · cases h
def nextOp:Op → Option Operand
 | .next it false=>some it
 | _=>none
theorem nextOp_spec {o:Op} {it:Operand} (h:nextOp o=some it):o = .next it false:=by
 unfold nextOp at h
 split at h
 · injection h with h; rw [h]
 · cases h
def regN (P:Program) (r:Rec) (ops:Array Oper) (st:St):Option (List (Ex × St)):=
 match ops.toList with
 | []=>none
 | o :: os=>match nextOp o.op,o.guard,dstOk st.sz o.dst with
   | some it,none,true=>match nextA P it st.fr st.H with
     | some l=>opsN P r ops os st o.dst l
     | none=>none
   | _,_,_=>none
theorem NT.region {P:Program} {r:Rec} {m:Nat} (hr:RecOk P r m) {ro:Option Nat} {id:Nat} {ops:Array Oper} {st:St} {L:List (Ex × St)} (h:regN P r ops st=some L):NT P ro (.region id ops false) st L:=fun p φ a w hS hl=>by
 unfold regN at h
 split at h
 · cases h
 rename_i o os hops
 split at h
 · rename_i it hit hg hd
   split at h
   · rename_i l hl'
     have hop:=nextOp_spec hit
     refine wpIn_region ?_
     have hsz:ops.size=os.length + 1:=by rw [← Array.length_toList,hops]; rfl
     have h0:ops[0]? = some o:=by rw [← Array.getElem?_toList,hops]; rfl
     have hrange:List.range ops.size=0 :: (List.range ops.size).drop 1:=by
       rw [hsz,List.range_succ_eq_map]; rfl
     show wpOpsIn (fence φ ro) 0 P ops _ (List.range ops.size) a w
     rw [hrange,wpOpsIn_cons]
     unfold wpOpIn
     rw [h0]
     simp only
     have hw:Region.wanted o (yielded ops a.tmps)=true:=by simp [Region.wanted,hg]
     rw [hw]
     simp only [if_true]
     refine ⟨fun f _=>fence_fn _ _ f,?_⟩
     rw [Oper.semAt_eq _ _ _ (fun c hc=>by rw [hop] at hc; cases hc)]
     obtain ⟨x,hx,h1,h2,φ',w',hrun,hs⟩:=ok_nextM hS.base hop hl'
     obtain ⟨s,hs1,hmem⟩:=opsN_mem h x hx
     have go:∀ (hv:(execOp a.eval o).run P w = .ok (.value (den φ' x.1)) w'),wpOpsIn (fence φ ro) 0 P ops (NPost P p φ st.n (hget st.H) w L) ((List.range ops.size).drop 1) (a.put o.dst (den φ' x.1)) w':=fun _=>by
       have hS1:=hS.put hd (v:=x.1) (n':=st.n) (H':=x.2) ⟨h1,h2,hs⟩
       have hdrop:ops.toList.drop (ops.size - os.length)=os:=by rw [hops,hsz]; simp
       have:=opsF_ok hr φ ro (ops:=ops) (Q:=NPost P p φ st.n (hget st.H) w L) os.length _ _ φ' _ w' s (by omega) (by rw [hdrop]; exact hs1) hS1 fun φ2 a2 w2 hS2 hst2=>
         ⟨_,hmem,rfl,φ2,hS2.mono (fun k hk=>Nx.trans hs.le hst2.le hk) (fun k hk=>Nx.lt hS.base.lt (Nat.le_trans hs.le hst2.le) hk),hs.trans hst2⟩
       rw [show ops.size - os.length=1 by omega] at this
       exact this
     rcases hrun with hv | ⟨hv,hu⟩
     · rw [hv,Oper.uponIn_value]
       exact go hv
     · exfalso
       have:x.1 ≠ undefV:=by
         have:∀ l',nextA P it st.fr st.H=some l' → ∀ y ∈ l',y.1 ≠ undefV:=by
           intro l' hl2 y hy
           have hst:∀ (H:Heap) (b m since clock:Nat) (seen:List Nat) (es:List MapEntry),∀ y ∈ stepsA H b m since clock seen es,y.1 ≠ undefV:=by
             intro H b m since clock seen es
             induction es with
             | nil=>intro y hy; cases hy
             | cons e es ih=>
               intro y hy
               rcases List.mem_cons.1 hy with rfl | hy
               · simp [undefV]
               · exact ih y hy
           unfold nextA at hl2
           split at hl2
           · split at hl2
             · split at hl2
               · injection hl2 with hl2; subst hl2; rw [List.mem_singleton] at hy; subst hy; simp [undefV]
               · split at hl2
                 · split at hl2
                   · split at hl2
                     · injection hl2 with hl2; subst hl2; rw [List.mem_singleton] at hy; subst hy; simp [undefV]
                     · injection hl2 with hl2; subst hl2; exact hst _ _ _ _ _ _ _ _ hy
                   · cases hl2
                 · cases hl2
               · cases hl2
             · cases hl2
           · cases hl2
         exact this l hl' x hx
       exact this hu
   · cases h
 · cases h
def bindN (f:Ex → St → Option (List (Ex × St))):List (Ex × St) → Option (List (Ex × St))
 | []=>some []
 | (e,s) :: l=>match f e s with
   | some x=>match bindN f l with
     | some y=>some (x ++ y)
     | none=>none
   | none=>none
theorem bindN_mem {f:Ex → St → Option (List (Ex × St))}:∀ {l L:List (Ex × St)},bindN f l=some L → ∀ y ∈ l,∃ x,f y.1 y.2=some x ∧ ∀ z ∈ x,z ∈ L
 | (e,s) :: l,L,h,y,hy=>by
   unfold bindN at h
   split at h
   · rename_i x hx
     split at h
     · rename_i y' hy'
       injection h with h; subst h
       rcases List.mem_cons.1 hy with rfl | hy
       · exact ⟨x,hx,fun z hz=>List.mem_append_left _ hz⟩
       · obtain ⟨x',h1,h2⟩:=bindN_mem hy' y hy
         exact ⟨x',h1,fun z hz=>List.mem_append_right _ (h2 z hz)⟩
     · cases h
   · cases h
def onlyN (f:St → Option (List (Ex × St))) (e:Ex) (s:St):Option (List (Ex × St)):=match e with
 | .normal=>f s
 | e=>some [(e,s)]
def evN (P:Program) (r:Rec) (ro:Option Nat):Nat → Code → St → Option (List (Ex × St))
 | 0,_,_=>none
 | k + 1,c,st=>match c with
   | .loop b=>match evN P r ro k b { st with fr:=trim st.vs st.fr } with
     | some l=>bindN (onlyN fun s=>evN P r ro k (.loop b) s) l
     | none=>none
   | c=>match r.code ro c st with
     | some x=>some [x]
     | none=>match c with
       | .region _ ops false=>regN P r ops st
       | .seq a b=>match evN P r ro k a st with
         | some l=>bindN (onlyN fun s=>evN P r ro k b s) l
         | none=>none
       | .cond x a b=>match evO P st.fr x with
         | some (.bool true)=>evN P r ro k a st
         | some (.bool false)=>evN P r ro k b st
         | _=>none
       | .block id b=>match evN P r ro k b st with
         | some l=>some (blockN id l)
         | none=>none
       | _=>none
theorem evN_ok {P : Program} {r : Rec} {m : Nat} (hr : RecOk P r m) (ro : Option Nat) : ∀ (k : Nat),
   (∀ (c:Code) (st:St) (L:List (Ex × St)),evN P r ro k c st=some L → NT P ro c st L) ∧ (∀ (b:Code) (st:St) (L:List (Ex × St)),evN P r ro k (.loop b) st=some L → LN P ro b k st L)
 | 0=>⟨fun c st L h=>(by simp [evN] at h),fun b st L h=>(by simp [evN] at h)⟩
 | k + 1=>by
   obtain ⟨ih1,ih2⟩:=evN_ok hr ro k
   have hloop:∀ (b:Code) (st:St) (L:List (Ex × St)),evN P r ro (k + 1) (.loop b) st=some L → LN P ro b (k + 1) st L:=fun b st L h=>by
     simp only [evN] at h
     split at h
     · rename_i l hl
       refine LN.step (ih1 _ _ _ hl) fun y hy=>?_
       obtain ⟨x,hx,hsub⟩:=bindN_mem h y hy
       obtain ⟨e,s⟩:=y
       cases e with
       | normal=>exact ⟨x,ih2 _ _ _ hx,hsub⟩
       | _=>
         injection hx with hx
         subst hx
         exact hsub _ (List.mem_singleton_self _)
     · cases h
   refine ⟨fun c st L h=>?_,hloop⟩
   have hcode:∀ (c:Code) (x:Ex × St),r.code ro c st=some x → NT P ro c st [x]:=fun c x hx=>NT.one (hr.code _ _ _ _ _ (by rw [hx]))
   cases c with
   | loop b=>exact (hloop b st L h).nt
   | region id ops d=>
     simp only [evN] at h
     split at h
     · rename_i x hx
       injection h with h; subst h
       exact hcode _ _ hx
     · cases d with
       | false=>exact NT.region hr h
       | true=>cases h
   | seq a b=>
     simp only [evN] at h
     split at h
     · rename_i x hx
       injection h with h; subst h
       exact hcode _ _ hx
     · split at h
       · rename_i l hl
         refine NT.seq (ih1 _ _ _ hl) fun y hy=>?_
         obtain ⟨x,hx,hsub⟩:=bindN_mem h y hy
         obtain ⟨e,s⟩:=y
         cases e with
         | normal=>exact ⟨x,ih1 _ _ _ hx,hsub⟩
         | _=>
           injection hx with hx
           subst hx
           exact hsub _ (List.mem_singleton_self _)
       · cases h
   | cond x a b=>
     simp only [evN] at h
     split at h
     · rename_i x hx
       injection h with h; subst h
       exact hcode _ _ hx
     · split at h
       · rename_i hx
         exact NT.cond hx (ih1 _ _ _ h)
       · rename_i hx
         exact NT.cond hx (ih1 _ _ _ h)
       · cases h
   | block id b=>
     simp only [evN] at h
     split at h
     · rename_i x hx
       injection h with h; subst h
       exact hcode _ _ hx
     · split at h
       · rename_i l hl
         injection h with h; subst h
         exact NT.block (ih1 _ _ _ hl)
       · cases h
   | _=>
     simp only [evN] at h
     split at h
     · rename_i x hx
       injection h with h; subst h
       exact hcode _ _ hx
     · cases h
theorem NT.join {P:Program} {ro:Option Nat} {c:Code} {st st0:St} {e:Ex} {L:List (Ex × St)} (h:NT P ro c st L) (hj:∀ y ∈ L,y.1=e ∧ Leads P st.n y.2 st0):AT P ro c st e st0:=fun p φ a w hS hl=>
 wpIn_mono (h p φ a w hS hl) fun e2 a' w' hh=>by
   obtain ⟨⟨e',s⟩,hy,he,φ',hr,hs⟩:=hh
   obtain ⟨rfl,hlead⟩:=hj _ hy
   exact ⟨he,hlead p φ (hget st.H) w hS.base.gl hS.base.lt a' w' φ' hr hs⟩
def beqNo:Option Nat → Option Nat → Bool
 | none,b=>b.isNone
 | some a,b=>match b with
   | some b=>Nat.beq a b
   | none=>false
theorem beqNo_eq {a b:Option Nat} (h:beqNo a b=true):a=b:=by
 cases a <;> cases b <;> simp [beqNo] at h ⊢
 exact h
def beqAd (a b:Addr):Bool:=Nat.beq a.block b.block && Nat.beq a.off b.off && beqNo a.spot b.spot
theorem beqAd_eq {a b:Addr} (h:beqAd a b=true):a=b:=by
 obtain ⟨x,y,z⟩:=a
 obtain ⟨x',y',z'⟩:=b
 simp only [beqAd,Bool.and_eq_true] at h
 have h1:=Nat.eq_of_beq_eq_true h.1.1
 have h2:=Nat.eq_of_beq_eq_true h.1.2
 have h3:=beqNo_eq h.2
 subst h1 h2 h3
 rfl
def beqAo:Option Addr → Option Addr → Bool
 | none,b=>b.isNone
 | some a,b=>match b with
   | some b=>beqAd a b
   | none=>false
theorem beqAo_eq {a b:Option Addr} (h:beqAo a b=true):a=b:=by
 cases a <;> cases b <;> simp [beqAo] at h ⊢
 exact beqAd_eq h
mutual
def beqV:Value → Value → Bool
 | .bool a,w=>match w with
   | .bool b=>decide (a=b)
   | _=>false
 | .int k a,w=>match w with
   | .int l b=>decide (k=l) && decide (a=b)
   | _=>false
 | .float k a,w=>match w with
   | .float l b=>decide (k=l) && Nat.beq a b
   | _=>false
 | .string a,w=>match w with
   | .string b=>decide (a.data.toList=b.data.toList)
   | _=>false
 | .pointer a,w=>match w with
   | .pointer b=>beqAo a b
   | _=>false
 | .slice a l c,w=>match w with
   | .slice b l' c'=>beqAo a b && Nat.beq l l' && Nat.beq c c'
   | _=>false
 | .map a,w=>match w with
   | .map b=>beqNo a b
   | _=>false
 | .nilFunc,w=>match w with
   | .nilFunc=>true
   | _=>false
 | .nilIface,w=>match w with
   | .nilIface=>true
   | _=>false
 | .agg a,w=>match w with
   | .agg b=>beqL a.toList b.toList
   | _=>false
 | .tuple a,w=>match w with
   | .tuple b=>beqL a.toList b.toList
   | _=>false
 | _,_=>false
def beqL:List Value → List Value → Bool
 | [],ys=>match ys with
   | []=>true
   | _ :: _=>false
 | x :: xs,ys=>match ys with
   | []=>false
   | y :: ys=>beqV x y && beqL xs ys
end
theorem toList_inj {α:Type} {a b:Array α} (h:a.toList=b.toList):a=b:=by
 cases a; cases b; simp at h; rw [h]
mutual
theorem beqV_eq:∀ (v w:Value),beqV v w=true → v=w
 | .bool a,w,h=>by
   cases w <;> simp [beqV] at h ⊢
   exact h
 | .int k a,w,h=>by
   cases w <;> simp [beqV] at h ⊢
   exact h
 | .float k a,w,h=>by
   cases w <;> simp [beqV] at h ⊢
   exact h
 | .string a,w,h=>by
   cases w <;> simp [beqV] at h ⊢
   rename_i b
   obtain ⟨a⟩:=a
   obtain ⟨b⟩:=b
   simp at h ⊢
   exact h
 | .pointer a,w,h=>by
   cases w <;> simp [beqV] at h ⊢
   exact beqAo_eq h
 | .slice a l c,w,h=>by
   cases w <;> simp [beqV] at h ⊢
   exact ⟨beqAo_eq h.1.1,h.1.2,h.2⟩
 | .map a,w,h=>by
   cases w <;> simp [beqV] at h ⊢
   exact beqNo_eq h
 | .nilFunc,w,h=>by cases w <;> simp [beqV] at h ⊢
 | .nilIface,w,h=>by cases w <;> simp [beqV] at h ⊢
 | .agg a,w,h=>by
   cases w <;> simp [beqV] at h ⊢
   exact toList_inj (beqL_eq _ _ h)
 | .tuple a,w,h=>by
   cases w <;> simp [beqV] at h ⊢
   exact toList_inj (beqL_eq _ _ h)
 | .complex _ _ _,w,h=>by simp [beqV] at h
 | .chan _,w,h=>by simp [beqV] at h
 | .func _ _ _,w,h=>by simp [beqV] at h
 | .iface _ _,w,h=>by simp [beqV] at h
theorem beqL_eq:∀ (v w:List Value),beqL v w=true → v=w
 | [],w,h=>by cases w <;> simp [beqL] at h ⊢
 | x :: xs,w,h=>by
   cases w <;> simp [beqL] at h ⊢
   exact ⟨beqV_eq _ _ h.1,beqL_eq _ _ h.2⟩
end
def beqE:List MapEntry → List MapEntry → Bool
 | [],ys=>match ys with
   | []=>true
   | _ :: _=>false
 | x :: xs,ys=>match ys with
   | []=>false
   | y :: ys=>beqV x.key y.key && beqV x.val y.val && Nat.beq x.born y.born && beqE xs ys
theorem beqE_eq:∀ (v w:List MapEntry),beqE v w=true → v=w
 | [],w,h=>by cases w <;> simp [beqE] at h ⊢
 | x :: xs,w,h=>by
   cases w with
   | nil=>simp [beqE] at h
   | cons y ys=>
     simp only [beqE,Bool.and_eq_true] at h
     obtain ⟨k,v,b⟩:=x
     obtain ⟨k',v',b'⟩:=y
     have h1:=beqV_eq _ _ h.1.1.1
     have h2:=beqV_eq _ _ h.1.1.2
     have h3:=Nat.eq_of_beq_eq_true h.1.2
     simp only at h1 h2 h3
     subst h1 h2 h3
     rw [beqE_eq _ _ h.2]
def beqB:Blk → Blk → Bool
 | .cells a t,w=>match w with
   | .cells b u=>beqL a b && Nat.beq t u
   | _=>false
 | .ext a t z,w=>match w with
   | .ext b u y=>beqL a b && Nat.beq t u && Nat.beq z y
   | _=>false
 | .inp o a,w=>match w with
   | .inp q b=>Nat.beq o q && beqL a b
   | _=>false
 | .tab a,w=>match w with
   | .tab b=>beqL a b
   | _=>false
 | .row a z,w=>match w with
   | .row b y=>beqL a b && Nat.beq z y
   | _=>false
 | .map a c,w=>match w with
   | .map b d=>beqE a b && Nat.beq c d
   | _=>false
 | _,_=>false
theorem beqB_eq:∀ (v w:Blk),beqB v w=true → v=w
 | .cells a t,w,h=>by
   cases w <;> simp [beqB] at h ⊢
   exact ⟨beqL_eq _ _ h.1,h.2⟩
 | .ext a t z,w,h=>by
   cases w <;> simp [beqB] at h ⊢
   exact ⟨beqL_eq _ _ h.1.1,h.1.2,h.2⟩
 | .inp o a,w,h=>by
   cases w <;> simp [beqB] at h ⊢
   exact ⟨h.1,beqL_eq _ _ h.2⟩
 | .row a z,w,h=>by
   cases w <;> simp [beqB] at h ⊢
   exact ⟨beqL_eq _ _ h.1,h.2⟩
 | .tab a,w,h=>by
   cases w <;> simp [beqB] at h ⊢
   exact beqL_eq _ _ h
 | .map a c,w,h=>by
   cases w <;> simp [beqB] at h ⊢
   exact ⟨beqE_eq _ _ h.1,h.2⟩
 | .iter ..,w,h=>by simp [beqB] at h
 | .miter ..,w,h=>by simp [beqB] at h
 | .defd,w,h=>by simp [beqB] at h
 | .loop ..,w,h=>by simp [beqB] at h
def beqH:Heap → Heap → Bool
 | [],ys=>match ys with
   | []=>true
   | _ :: _=>false
 | (k,x) :: xs,ys=>match ys with
   | []=>false
   | (j,y) :: ys=>Nat.beq k j && beqB x y && beqH xs ys
theorem beqH_eq:∀ (v w:Heap),beqH v w=true → v=w
 | [],w,h=>by cases w <;> simp [beqH] at h ⊢
 | (k,x) :: xs,w,h=>by
   cases w with
   | nil=>simp [beqH] at h
   | cons y ys=>
     obtain ⟨j,y⟩:=y
     simp only [beqH,Bool.and_eq_true] at h
     rw [Nat.eq_of_beq_eq_true h.1.1,beqB_eq _ _ h.1.2,beqH_eq _ _ h.2]
mutual
def scb (n:Nat):Value → Bool
 | .pointer a=>match a with
   | some a=>Nat.blt a.block n
   | none=>true
 | .slice a _ _=>match a with
   | some a=>Nat.blt a.block n
   | none=>true
 | .map r=>match r with
   | some r=>Nat.blt r n
   | none=>true
 | .bool _ | .int _ _ | .float _ _ | .string _ | .nilFunc | .nilIface=>true
 | .agg cs=>scbL n cs.toList
 | .tuple cs=>scbL n cs.toList
 | _=>false
def scbL (n:Nat):List Value → Bool
 | []=>true
 | v :: vs=>scb n v && scbL n vs
end
mutual
theorem scb_ok (n:Nat):∀ v,scb n v=true → sc (· < n) v
 | .pointer none,_ | .slice none _ _,_ | .map none,_=>by simp [sc]
 | .pointer (some _),h | .slice (some _) _ _,h | .map (some _),h=>by
   simp only [scb] at h
   exact (blt_iff _ _).1 h
 | .bool _,_ | .int _ _,_ | .float _ _,_ | .string _,_ | .nilFunc,_ | .nilIface,_=>by simp [sc]
 | .agg cs,h=>by simp only [scb,sc] at *; exact scbL_ok n _ h
 | .tuple cs,h=>by simp only [scb,sc] at *; exact scbL_ok n _ h
 | .complex _ _ _,h=>by simp [scb] at h
 | .chan _,h=>by simp [scb] at h
 | .func _ _ _,h=>by simp [scb] at h
 | .iface _ _,h=>by simp [scb] at h
theorem scbL_ok (n:Nat):∀ vs,scbL n vs=true → scL (· < n) vs
 | [],_=>trivial
 | v :: vs,h=>by
   simp only [scbL,Bool.and_eq_true] at h
   exact ⟨scb_ok n v h.1,scbL_ok n vs h.2⟩
end
def scbE (n:Nat):List MapEntry → Bool
 | []=>true
 | e :: es=>scb n e.key && scb n e.val && scbE n es
theorem scbE_ok (n:Nat):∀ es,scbE n es=true → ∀ e ∈ es,sc (· < n) e.key ∧ sc (· < n) e.val
 | [],_,_,h=>by cases h
 | x :: xs,h,e,he=>by
   simp only [scbE,Bool.and_eq_true] at h
   rcases List.mem_cons.1 he with rfl | he
   · exact ⟨scb_ok n _ h.1.1,scb_ok n _ h.1.2⟩
   · exact scbE_ok n xs h.2 e he
def scbB (n:Nat):Blk → Bool
 | .cells cs _ | .ext cs _ _ | .inp _ cs | .row cs _ | .tab cs=>scbL n cs
 | .map es _=>scbE n es
 | _=>false
theorem scbB_ok {n:Nat}:∀ {b:Blk},scbB n b=true → scB (· < n) b ∧ carried b
 | .cells _ _,h | .ext _ _ _,h | .inp _ _,h | .row _ _,h | .tab _,h=>⟨scbL_ok n _ h,trivial⟩
 | .map _ _,h=>⟨scbE_ok n _ h,trivial⟩
 | .iter ..,h=>by simp [scbB] at h
 | .miter ..,h=>by simp [scbB] at h
 | .defd,h=>by simp [scbB] at h
 | .loop ..,h=>by simp [scbB] at h
def frOk (n0:Nat) (olds:List Nat) (s:St) (n:Nat):Fr → Bool
 | []=>true
 | (t,v) :: l=>(match lk s.fr t with
   | some u=>beqV u (ren (rnm n0 olds) v)
   | none=>false) && scb n v && frOk n0 olds s n l
theorem frOk_ok {n0:Nat} {olds:List Nat} {s:St} {n:Nat}:∀ {fr:Fr},frOk n0 olds s n fr=true → ∀ x ∈ fr,lk s.fr x.1=some (ren (rnm n0 olds) x.2) ∧ sc (· < n) x.2
 | (t,v) :: l,h,x,hx=>by
   simp only [frOk,Bool.and_eq_true] at h
   rcases List.mem_cons.1 hx with rfl | hx
   · refine ⟨?_,scb_ok n _ h.1.2⟩
     have h1:=h.1.1
     split at h1
     · rename_i u hu
       rw [hu,beqV_eq _ _ h1]
     · cases h1
   · exact frOk_ok h.2 x hx
def heapOk (n0:Nat) (olds:List Nat) (s:St) (n:Nat):Heap → Bool
 | []=>true
 | (k,b) :: l=>Nat.blt k n && (match hget s.H (rnm n0 olds k) with
   | some c=>beqB c (renB (rnm n0 olds) b)
   | none=>false) && scbB n b && (b.own || (Nat.beq (rnm n0 olds k) k && beqB (renB (rnm n0 olds) b) b)) && heapOk n0 olds s n l
theorem heapOk_ok {n0 : Nat} {olds : List Nat} {s : St} {n : Nat} : ∀ {H : Heap}, heapOk n0 olds s n H = true →
   ∀ x ∈ H,x.1 < n ∧ hget s.H (rnm n0 olds x.1)=some (renB (rnm n0 olds) x.2) ∧ scB (· < n) x.2 ∧ carried x.2 ∧ (x.2.own=false → rnm n0 olds x.1=x.1 ∧ renB (rnm n0 olds) x.2=x.2)
 | (k,b) :: l,h,x,hx=>by
   simp only [heapOk,Bool.and_eq_true] at h
   rcases List.mem_cons.1 hx with rfl | hx
   · obtain ⟨⟨⟨⟨h1,h2⟩,h3⟩,h4⟩,_⟩:=h
     refine ⟨(blt_iff _ _).1 h1,?_,(scbB_ok h3).1,(scbB_ok h3).2,fun ho=>?_⟩
     · split at h2
       · rename_i u hu
         rw [hu,beqB_eq _ _ h2]
       · cases h2
     · simp only at ho h4
       rw [ho,Bool.false_or,Bool.and_eq_true] at h4
       exact ⟨Nat.eq_of_beq_eq_true h4.1,beqB_eq _ _ h4.2⟩
   · exact heapOk_ok h.2 x hx
def renOk (n0:Nat) (olds:List Nat) (s s2:St):Bool:=oldsOk n0 s.n olds && Nat.beq s2.n (n0 + olds.length) && Nat.beq s2.sz s.sz && s.marks.isEmpty && s2.marks.isEmpty && frOk n0 olds s s2.n s2.fr && heapOk n0 olds s s2.n s2.H
theorem renOk_leads {P:Program} {n0:Nat} {olds:List Nat} {s s2:St} (h:renOk n0 olds s s2=true):Leads P n0 s s2:=by
 simp only [renOk,Bool.and_eq_true,List.isEmpty_iff] at h
 obtain ⟨⟨⟨⟨⟨⟨h1,h2⟩,h3⟩,h4⟩,h5⟩,h6⟩,h7⟩:=h
 exact Leads.ren olds h1 (Nat.eq_of_beq_eq_true h2) (Nat.eq_of_beq_eq_true h3) ⟨h4,h5⟩ (frOk_ok h6) (heapOk_ok h7)
def namesV:Value → List Nat
 | .pointer (some a)=>[a.block]
 | .slice (some a) _ _=>[a.block]
 | .map (some r)=>[r]
 | _=>[]
def namesW:Value → List Nat
 | .agg cs=>cs.toList.flatMap namesV
 | .tuple cs=>cs.toList.flatMap namesV
 | v=>namesV v
def namesB:Blk → List Nat
 | .cells cs _ | .ext cs _ _ | .inp _ cs | .row cs _ | .tab cs=>cs.flatMap namesW
 | .map es _=>es.flatMap fun e=>namesW e.val
 | _=>[]
def metN (H:Heap) (n0:Nat):Nat → List Nat → List Nat → List Nat
 | 0,_,acc=>acc
 | _ + 1,[],acc=>acc
 | k + 1,x :: xs,acc=>match Nat.blt x n0 || memN acc x with
   | true=>metN H n0 k xs acc
   | false=>metN H n0 k ((match hget H x with | some b=>namesB b | none=>[]) ++ xs) (acc ++ [x])
def joinB (n0:Nat) (s0:St):List (Ex × St) → Bool
 | []=>true
 | (.ret,s) :: l=>renOk n0 (metN s.H n0 200 (s.fr.flatMap fun x=>match Nat.beq x.1 (match s0.fr with | (t,_) :: _=>t | []=>0) with | true=>namesW x.2 | false=>[]) []) s s0 && joinB n0 s0 l
 | _=>false
theorem joinB_ok {P:Program} {n0:Nat} {s0:St}:∀ {L:List (Ex × St)},joinB n0 s0 L=true → ∀ y ∈ L,y.1 = .ret ∧ Leads P n0 y.2 s0
 | (e,s) :: l,h,y,hy=>by
   cases e with
   | ret=>
     simp only [joinB,Bool.and_eq_true] at h
     rcases List.mem_cons.1 hy with rfl | hy
     · exact ⟨rfl,renOk_leads h.1⟩
     · exact joinB_ok h.2 y hy
   | _=>simp [joinB] at h
end
section
def isqF:Nat → Nat → Nat → Nat → Nat
 | 0,lo,_,_=>lo
 | k + 1,lo,hi,n=>if lo < hi then (if ((lo + hi + 1) / 2) * ((lo + hi + 1) / 2) ≤ n then isqF k ((lo + hi + 1) / 2) hi n else isqF k lo ((lo + hi + 1) / 2 - 1) n) else lo
def isq (n:Nat):Nat:=isqF 21 0 1048576 n
def IsR (n r:Nat):Prop:=r * r ≤ n ∧ n < (r + 1) * (r + 1)
theorem IsR.le {n m r s:Nat} (h:IsR n r) (h':IsR m s) (hn:n ≤ m):r ≤ s:=by
 by_cases hc:r ≤ s
 · exact hc
 · have:(s + 1) * (s + 1) ≤ r * r:=Nat.mul_le_mul (by omega) (by omega)
   have:=h.1
   have:=h'.2
   omega
theorem IsR.unique {n r s:Nat} (h:IsR n r) (h':IsR n s):r=s:=Nat.le_antisymm (h.le h' (Nat.le_refl _)) (h'.le h (Nat.le_refl _))
theorem isqF_spec:∀ (k lo hi n:Nat),lo ≤ hi → hi - lo < 2 ^ k → lo * lo ≤ n → n < (hi + 1) * (hi + 1) → IsR n (isqF k lo hi n)
 | 0,lo,hi,n,h,hk,h1,h2=>by
   obtain rfl:lo=hi:=by simp at hk; omega
   exact ⟨h1,h2⟩
 | k + 1,lo,hi,n,h,hk,h1,h2=>by
   unfold isqF
   rw [Nat.pow_succ] at hk
   split
   · rename_i hlt
     split
     · rename_i hm
       exact isqF_spec k _ hi n (by omega) (by omega) hm h2
     · rename_i hm
       refine isqF_spec k lo _ n (by omega) (by omega) h1 ?_
       rw [show (lo + hi + 1) / 2 - 1 + 1=(lo + hi + 1) / 2 by omega]
       omega
   · obtain rfl:lo=hi:=by omega
     exact ⟨h1,h2⟩
theorem isq_spec {n:Nat} (h:n < 2 ^ 40):IsR n (isq n):=isqF_spec 21 0 1048576 n (by omega) (by decide) (by omega) (by omega)
theorem isq_eq {n r:Nat} (hn:n < 2 ^ 40) (h:IsR n r):isq n=r:=(isq_spec hn).unique h
theorem isq_sq {t:Nat} (h:t * t < 2 ^ 40):isq (t * t)=t:=isq_eq h ⟨Nat.le_refl _,Nat.mul_lt_mul'' (Nat.lt_succ_self _) (Nat.lt_succ_self _)⟩
end
end Go.Ab
