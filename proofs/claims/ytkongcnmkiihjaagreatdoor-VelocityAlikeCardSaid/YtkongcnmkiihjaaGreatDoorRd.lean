/-
Contracts and plain reckonings behind the law VelocityAlike, part 4 of 8 (each under the conditions in its statement).
-/
import Derived.Test.YtkongcnmkiihjaaGreatDoorRc
import Derived.Test.YtkongcnmkiihjaaGreatDoorRb
import Derived.Test.YtkongcnmkiihjaaGreatDoorRa
import Derived.Test.YtkongcnmkiihjaaGreatDoorAg
namespace Go.Proofs.YtkongcnmkiihjaaGreatDoor
open Go Go.Ab Go.Proofs
structure OkS (ts:List Trc):Prop where
 err:∀ x ∈ ts,trcE x=0
 hd:∀ x ∈ ts,hdE x.hd=0
 good:∀ x ∈ ts,∀ b ∈ x.smp,good32 b=true
 wid:∀ x ∈ ts,x.hole=false → (x.smp.length:Int)=(widF ts).1
 hol:∀ x ∈ ts,x.hole=true → x.smp=[]
 w0:0 ≤ (widF ts).1 ∧ (widF ts).1 ≤ 1024
 len:1 ≤ ts.length ∧ ts.length ≤ 64
theorem first_zero:∀ {l:List Int},firstV l=0 → ∀ x ∈ l,x=0
 | [],_,_,h=>by cases h
 | e :: l,h,x,hx=>by
   rw [firstV] at h
   split at h
   · rename_i he
     rcases List.mem_cons.1 hx with rfl | hx
     · exact he
     · exact first_zero h x hx
   · rename_i he; exact absurd h he
theorem err_good {b:Nat} (h:err32 b=0):good32 b=true:=by
 unfold err32 at h
 split at h
 · split at h
   · assumption
   · cases h
 · cases h
theorem trcE_ok {t:Trc} (h:trcE t=0):hdE t.hd=0 ∧ (t.hole=true → t.smp=[]) ∧ t.smp.length ≤ 1024 ∧ ∀ b ∈ t.smp,good32 b=true:=by
 unfold trcE at h
 split at h
 · rename_i h0
   split at h
   · cases h
   · rename_i h1
     have h2:Gn.chkV 1024 t.smp=if (1024:Int) < t.smp.length then 5 else firstV (t.smp.map err32):=by rw [← first_same]; rfl
     rw [h2] at h
     split at h
     · cases h
     · rename_i h3
       refine ⟨h0,fun hh=>?_,by omega,fun b hb=>err_good (first_zero h _ (List.mem_map.2 ⟨b,hb,rfl⟩))⟩
       cases hs:t.smp with
       | nil=>rfl
       | cons x l=>exact absurd ⟨hh,by rw [hs]; simp⟩ h1
 · rename_i h0; exact absurd h h0
theorem widF_of:∀ (ts:List Trc),(widF ts).1=0 ∨ ∃ x ∈ ts,x.hole=false ∧ (widF ts).1=x.smp.length:=by
 intro ts
 unfold widF
 cases hf:ts.find? fun t=>!t.hole with
 | none=>exact .inl rfl
 | some t=>
   refine .inr ⟨t,List.mem_of_find?_eq_some hf,?_,rfl⟩
   have:=List.find?_some hf
   simpa using this
theorem shtE_ok {s:ByteArray} {ts:List Trc} (h:shtE s ts=0):OkS ts:=by
 unfold shtE at h
 dsimp only at h
 split at h
 · rename_i h1
   split at h
   · rename_i h2
     split at h
     · rename_i h3
       have he:∀ x ∈ ts,trcE x=0:=fun x hx=>first_zero h2 _ (List.mem_map.2 ⟨x,hx,rfl⟩)
       have e2:=first_zero h1 (whenV (decide (ts.length=0)) 12) (by simp)
       have e3:=first_zero h1 (whenV (decide (64 < ts.length)) 5) (by simp)
       rw [List.all_eq_true] at h3
       have hw:∀ x ∈ ts,x.hole=false → (x.smp.length:Int)=(widF ts).1:=fun x hx hh=>by
         have:=h3 x hx
         rw [widB,hh,Bool.false_or] at this
         exact of_decide_eq_true this
       refine ⟨he,fun x hx=>(trcE_ok (he x hx)).1,fun x hx=>(trcE_ok (he x hx)).2.2.2,hw,fun x hx=>(trcE_ok (he x hx)).2.1,?_,?_,?_⟩
       · rcases widF_of ts with e | ⟨x,hx,_,e⟩
         · rw [e]; omega
         · have:=(trcE_ok (he x hx)).2.2.1
           rw [e]; omega
       · by_cases h0:ts.length=0
         · rw [decide_eq_true h0] at e2
           cases e2
         · omega
       · by_cases h0:64 < ts.length
         · rw [decide_eq_true h0] at e3
           cases e3
         · omega
     · cases h
   · rename_i h2; exact absurd h h2
 · rename_i h1; exact absurd h h1
theorem load196 {H:Heap} {n:Nat} {s:ByteArray} {u:Value} {W:Int} (h:hget H n=some (.cells [.string s,u,iv W] 196)):loadA Tryz.prog 196 H (.pointer (some ⟨n,0,none⟩))=some (.agg ⟨[.string s,u,iv W]⟩):=by
 have:cellsA H n 0 3=some [.string s,u,iv W]:=by rw [cellsA_eq,h]; rfl
 simp only [loadA,ag196,sz196,this,Option.map_some]
theorem build196 {s:ByteArray} {u:Value} {W:Int} {fr:Fr} {H:Heap} {n:Nat}:opBuild Tryz.prog 196 #[(0,.tmp 11),(1,.tmp 12)] ((12,iv W) :: (11,.agg ⟨[.string s,u]⟩) :: fr) H n=some (.agg ⟨[.string s,u,iv W]⟩,H,n):=by kernel_rfl
set_option maxRecDepth 50000 in
theorem w131 {H:Heap} {n:Nat} {s:ByteArray} {u:Value} {ts:List Trc} (hR:dR H) (hv:shtV H (.agg ⟨[.string s,u]⟩)=some (s,ts)):AC Tryz.prog 131 [.agg ⟨[.string s,u]⟩] H n (.tuple #[.agg ⟨[.string s,u,iv (widE s ts)]⟩,iv (shtE s ts)]) H n:=by
 refine AC.given fun hold hsc hgn=>AC.tidied (B:=[]) (by simp) ?_
 replace hv:=shtV_tidy (fun k b h=>(hold k b h).1) hv
 replace hold:=tidy_old hold
 have h1n:1 < n:=by rw [gsz] at hgn; omega
 replace hR:hget (tidy n H) 1=some (.inp 0 rangesV):=hget_tidy.2 ⟨hR,h1n,rfl⟩
 have hr:=recT_ok (P:=Tryz.prog) (l:=[(168,g168)]) (by simp [ok168])
 obtain ⟨u',e,ht⟩:=shtV_form hv
 have e:u=u':=by injection e with e; injection e with e; simpa using e
 subst e
 obtain ⟨X,hX⟩:∃ X,(n + 1,Blk.cells [.string ⟨#[]⟩,.slice none 0 0,iv 0] 196) :: (n,Blk.cells [.string s,u] 110) :: tidy n H=X:=⟨_,rfl⟩
 have hS:Sub (tidy n H) X:=by rw [← hX]; exact (Sub.cons (by simp) (Sub.refl _)).trans (Sub.cons (by rw [hget_cons,if_neg (by omega)]; simp) (Sub.refl _))
 have hb:hget X n=some (.cells [.string s,u] 110):=by rw [← hX,hget_cons,if_neg (by omega),hget_cons,if_pos rfl]
 have hb2:hget X (n + 1)=some (.cells [.string ⟨#[]⟩,.slice none 0 0,iv 0] 196):=by rw [← hX,hget_cons,if_pos rfl]
 have hld:=load110 hb
 have hRX:dR X:=hS _ _ hR
 have h168:∀ m,g168 [.agg ⟨[.string s,u]⟩] X m=some (.tuple #[iv (widE s ts),iv (shtE s ts)],X,m):=fun m=>by
   simp only [g168,shtV_mono hS hv,hRX,if_true]
 obtain ⟨e,he⟩:∃ e,shtE s ts=e:=⟨_,rfl⟩
 obtain ⟨W,hW⟩:∃ W,widE s ts=W:=⟨_,rfl⟩
 rw [he,hW] at h168 ⊢
 have hst:=store_all (cs:=[.string s,u,iv W]) hb2 rfl
 have hone:oneL [.string s,u,iv W]=true:=by
   obtain ⟨oa,c,rfl,_⟩:=trcV_form ht
   rfl
 have hld2:=load196 (H:=hset X (n + 1) (.cells [.string s,u,iv W] 196)) (n:=n + 1) (s:=s) (u:=u) (W:=W) (by rw [hget_hset,if_pos rfl,hb2]; rfl)
 refine AC.same Tryz.func131 rfl (by kernel_rfl) rfl [2,3,4,5] (by simpa [sc,scL] using hsc) (fun k b h=>tidy_lt _ _ h) ?_
 refine E.seq (E.reg hr (by simp; rfl) ?_)
 rw [hX]
 refine E.seq (E.reg hr (by simp [-loadA,hld,h168]; rfl) ?_)
 refine E.seq (E.reg hr (by simp [-loadA,-storeA,-oneL,hld,hst,hone,build196]; rfl) ?_)
 refine E.ret ?_
 exact pureK.ret rfl (vs:=[.agg ⟨[.string s,u,iv W]⟩,iv e]) (by simp [-loadA,resultsA,resultA,Tryz.results131,hld2]) rfl (sub_hset hS (by simp))
open Classical in
noncomputable def g131 (args:List Value) (H:Heap) (n:Nat):R:=match args with
 | [.agg ⟨[.string s,u]⟩]=>match shtV H (.agg ⟨[.string s,u]⟩) with
   | some x=>if dR H ∧ x.1=s then some (.tuple #[.agg ⟨[.string s,u,iv (widE s x.2)]⟩,iv (shtE s x.2)],H,n) else none
   | none=>none
 | _=>none
theorem ok131:EntOk Tryz.prog (131,g131):=by
 intro args H n v H' n' h
 simp only [g131] at h
 split at h
 · split at h
   · rename_i s u _ x hx
     split at h
     · rename_i hR
       injection h with h; injection h with e1 e2; injection e2 with e2 e3; subst e1 e2 e3
       obtain ⟨hR,e⟩:=hR
       obtain ⟨x1,x2⟩:=x
       have e:x1=s:=e
       subst e
       exact w131 hR hx
     · cases h
   · cases h
 · cases h
set_option maxRecDepth 50000 in
theorem w132 {H:Heap} {n:Nat} {s:ByteArray} {u:Value} {W t:Int} (hW:-1000000 ≤ W ∧ W ≤ 1000000):AC Tryz.prog 132 [.agg ⟨[.string s,u,iv W]⟩,iv t] H n (iv (withinV t 0 (W - 1))) H n:=by
 refine AC.given fun hold hsc hgn=>AC.tidied (B:=[]) (by simp) ?_
 have hr:=recT_ok (P:=Tryz.prog) (l:=[(91,g91)]) (by simp [ok91])
 have hw:IntKind.i64.wrap (W - 1)=W - 1:=W_in (by omega) (by omega)
 refine AC.pure Tryz.func132 rfl (by kernel_rfl) rfl [1,2] rfl ?_
 refine E.seq (E.reg hr (by simp; rfl) ?_)
 refine E.seq (E.reg hr (by simp [hw,g91]; rfl) ?_)
 refine E.ret ?_
 exact pureK.ret rfl rfl rfl (Sub.cons (by simp) (Sub.refl _))
def g132 (args:List Value) (H:Heap) (n:Nat):R:=match args with
 | [.agg ⟨[.string _,_,.int .i64 W]⟩,.int .i64 t]=>if -1000000 ≤ W ∧ W ≤ 1000000 then some (iv (withinV t 0 (W - 1)),H,n) else none
 | _=>none
theorem ok132:EntOk Tryz.prog (132,g132):=by
 intro args H n v H' n' h
 simp only [g132] at h
 split at h
 · split at h
   · rename_i hW
     injection h with h; injection h with e1 e2; injection e2 with e2 e3; subst e1 e2 e3
     exact w132 hW
   · cases h
 · cases h
abbrev fn169 (n:Nat):Value:=.func (.func 169) #[] #[ptA n,ptA (n + 1),ptA (n + 2),ptA (n + 3)]
theorem w133 {H:Heap} {n:Nat} {s:ByteArray} {u:Value} {W t w st:Int}:AC Tryz.prog 133 [.agg ⟨[.string s,u,iv W]⟩,iv t,iv w,iv st] H n (fn169 n) ((n + 3,.cells [iv st] 3) :: (n + 2,.cells [iv w] 3) :: (n + 1,.cells [iv t] 3) :: (n,.cells [.string s,u,iv W] 196) :: H) (n + 4):=by
 have hr:=recT_ok (P:=Tryz.prog) (l:=[]) (by simp)
 refine AC.body Tryz.func133 rfl (by kernel_rfl) rfl [] ?_
 refine E.seq (E.reg hr (by simp; rfl) ?_)
 refine E.seq (E.reg hr (by simp [opMakefunc]; rfl) ?_)
 refine E.ret ?_
 exact ⟨.inr rfl,by simp [leaveF,shutA,resultsA,resultA,Tryz.results133,dropOk]⟩
def g133 (args:List Value) (H:Heap) (n:Nat):R:=match args with
 | [.agg ⟨[.string s,u,.int .i64 W]⟩,.int .i64 t,.int .i64 w,.int .i64 st]=>some (fn169 n,(n + 3,.cells [iv st] 3) :: (n + 2,.cells [iv w] 3) :: (n + 1,.cells [iv t] 3) :: (n,.cells [.string s,u,iv W] 196) :: H,n + 4)
 | _=>none
theorem ok133:EntOk Tryz.prog (133,g133):=by
 intro args H n v H' n' h
 simp only [g133] at h
 split at h
 · injection h with h; injection h with e1 e2; injection e2 with e2 e3; subst e1 e2 e3
   exact w133
 · cases h
theorem ent169:enterable Tryz.prog 169=true:=by kernel_rfl
theorem mov_nat (t q v:Int):∃ m:Nat,movV t q v=m:=⟨_,rfl⟩
set_option maxHeartbeats 3200000 in
set_option maxRecDepth 100000 in
theorem it169 {B : Heap} {l kb k1 k2 k3 : Nat} {s : ByteArray} {oa : Option Addr} {c : Nat} {ts : List Trc} {t w st : Int} (hbox : hget B kb = some (.cells [.string s, .slice oa ts.length c, iv (widF ts).1] 196)) (hk1 : hget B k1 = some (.cells [iv t] 3)) (hk2 : hget B k2 = some (.cells [iv w] 3)) (hk3 : hget B k3 = some (.cells [iv st] 3)) (hR : dR B) (ht : trcV B (.slice oa ts.length c) = some ts) (hok : OkS ts)
   (htr:0 ≤ t ∧ t ≤ 1024) (hwr:1 ≤ w ∧ w ≤ 1000000000) (hsr:0 ≤ st ∧ st ≤ 1024)
   (I:Nat → Heap → Nat → Prop) (D:Heap → Nat → Prop) (hI:∀ i H N,I i H N → Sub B H) (hN:∀ i H N,I i H N → namesOk N H=true)
   (hskip:∀ i H N cs (_:i < ts.length),I i H N → livB ts t w st i=false → I (i + 1) ((N,.cells cs 159) :: H) (N + 1))
   (hy:∀ i H N cs b (h:i < ts.length),I i H N → livB ts t w st i=true → ts[i].hole=false → ts[i].smp[(movV t (offV ts[i].hd) w).toNat]? = some b → ∃ q bb H' N',RecOk Tryz.prog q 0 ∧ yieldF q l [iv i,iv (six32 b)] ((N,.cells cs 159) :: H) (N + 1)=some (.bool bb,H',N') ∧ (if bb=true then I (i + 1) H' N' else D H' N'))
   {H:Heap} {n:Nat} (h0:I 0 H n):∃ v H' n',AC Tryz.prog 169 [fnY l,ptA kb,ptA k1,ptA k2,ptA k3] H n v H' n' ∧ (I ts.length H' n' ∨ D H' n'):=by
 have hr:=recT_ok (P:=Tryz.prog) (l:=[(170,g170),(93,g93)]) (by simp only [List.forall_mem_cons]; exact ⟨ok170,ok93,by simp⟩)
 obtain ⟨_,_,e,hlt,_,hrow⟩:=trcV_form ht
 injection e with e1 e2 e3
 subst e1 e3
 have hk1':cellA H kb 1=some (.slice oa ts.length c):=by rw [cellA_eq,hI _ _ _ h0 _ _ hbox]; rfl
 have hl1:loadA Tryz.prog 108 H (.pointer (some ⟨kb,1,none⟩))=some (.slice oa ts.length c):=by simp [-cellA,hk1']
 have hlive:∀ i,livB ts t w st i=match ts[i]? with
   | some x=>!x.hole && (decide (movV t (offV x.hd) w < (widF ts).1) && decide (movV t (offV x.hd) w ≤ t + st))
   | none=>false:=fun i=>rfl
 obtain ⟨W,hW⟩:∃ W,(widF ts).1=W:=⟨_,rfl⟩
 rw [hW] at hbox hlive
 refine AC.bodyX (Q:=fun _ H' n'=>I ts.length H' n' ∨ D H' n') Tryz.func169 rfl (by kernel_rfl) rfl [0,1,2,3,4,11,12,13] ?_
 refine E.seq (E.reg hr (by simp [-loadA,hl1]; rfl) ?_)
 refine E.block (E.loop ?_)
 refine EL.ind (fun x:Nat × Heap × Nat=>{ fr:=[(0,fnY l),(1,ptA kb),(2,ptA k1),(3,ptA k2),(4,ptA k3),(11,.slice oa ts.length c),(12,iv ts.length),(13,iv x.1)],sz:=50,H:=x.2.1,n:=x.2.2,marks:=[],vs:=[0,1,2,3,4,11,12,13] }) (fun x=>ts.length - x.1) (fun x=>x.1 ≤ ts.length ∧ I x.1 x.2.1 x.2.2) (0,H,n) (.keep rfl rfl rfl (by simp) (Sub.refl _)) ⟨Nat.zero_le _,h0⟩ (fun _=>rfl) ?_
 rintro ⟨i,Hx,N⟩ ⟨hi,hG⟩
 dsimp only at hi hG ⊢
 have hw:IntKind.i64.wrap ((i:Int) + 1)=(i:Int) + 1:=W_in (by omega) (by omega)
 refine E.seq (E.reg hr (by simp; rfl) ?_)
 refine E.seq ?_
 by_cases hil:i < ts.length
 · refine E.cond (t:=true) (by simp [hil]) (fun _=>?_) (fun h=>by cases h)
   obtain ⟨a,q,rfl,hf,hcs,h8,hq⟩:=hrow i hil
   have hdec:=decT_mk h8 hq
   obtain ⟨oq,cq,rfl,hlq,_,hqr⟩:=reaV_form hq
   obtain ⟨a0,a1,a2,a3,a4,a5,a6,a7,hhd⟩:=len8 h8
   have hIs:=hI _ _ _ hG
   have hnx:=hN _ _ _ hG
   have hld:=load159 (hIs.cells hcs)
   have hmem:ts[i] ∈ ts:=List.getElem_mem hil
   have hez:=hok.err _ hmem
   have hhz:=hok.hd _ hmem
   have hob:=(off_bound hhz).2
   have hwid:=hok.wid _ hmem
   have hgood:=hok.good _ hmem
   have hyy:=fun cs b=>hy i Hx N cs b hil hG
   have hsk:=fun cs=>hskip i Hx N cs hil hG
   have hlv:=hlive i
   rw [List.getElem?_eq_getElem hil] at hlv
   dsimp only at hlv
   obtain ⟨T,hT⟩:∃ T,ts[i]=T:=⟨_,rfl⟩
   rw [hT] at hld hdec h8 hhd hez hhz hob hwid hgood hyy hlv hqr hlq
   rw [hW] at hwid
   have hin:MvIn t (offV T.hd) w:=⟨htr.1,htr.2,hob.1,hob.2,hwr.1,hwr.2⟩
   obtain ⟨m,hm⟩:=mov_nat t (offV T.hd) w
   rw [hm] at hlv hyy
   obtain ⟨off,hoff⟩:∃ off,offV T.hd=off:=⟨_,rfl⟩
   rw [hoff] at hin hm
   obtain ⟨X,hX⟩:∃ X,(N,Blk.cells (T.hd.map iv ++ [.bool T.hole,.slice oq T.smp.length cq]) 159) :: Hx=X:=⟨_,rfl⟩
   have hxN:hget Hx N=none:=by
     cases hc:hget Hx N with
     | none=>rfl
     | some b=>exact absurd (namesOk_iff.1 hnx _ (hget_mem _ _ _ hc)) (by simp)
   have hSX:Sub Hx X:=by rw [← hX]; exact Sub.cons hxN (Sub.refl _)
   have hnmX:namesOk (N + 1) X=true:=by rw [← hX]; exact namesOk_put (Nat.lt_succ_self _) (namesOk_mono (Nat.le_succ _) _ hnx)
   have hSB:=hIs.trans hSX
   have hb0:hget X N=some (.cells (T.hd.map iv ++ [.bool T.hole,.slice oq T.smp.length cq]) 159):=by rw [← hX,hget_cons,if_pos rfl]
   have hlen:(T.hd.map iv ++ [Value.bool T.hole,.slice oq T.smp.length cq]).length=10:=by rw [List.length_append,List.length_map,h8]; rfl
   have hcA:cellsA X N 0 10=some (T.hd.map iv ++ [.bool T.hole,.slice oq T.smp.length cq]):=by
     rw [cellsA_eq,hb0]
     simp only [Option.bind_some,cellsB]
     rw [if_pos (by rw [hlen]; omega),List.drop_zero,List.take_of_length_le (by rw [hlen]; omega)]
   have hc8:cellA X N 8=some (.bool T.hole):=by
     rw [cellA_eq,hb0]
     show (T.hd.map iv ++ [Value.bool T.hole,.slice oq T.smp.length cq])[8]? = _
     rw [List.getElem?_append_right (by rw [List.length_map]; omega),List.length_map,h8]
     rfl
   have hc9:cellA X N 9=some (.slice oq T.smp.length cq):=by
     rw [cellA_eq,hb0]
     show (T.hd.map iv ++ [Value.bool T.hole,.slice oq T.smp.length cq])[9]? = _
     rw [List.getElem?_append_right (by rw [List.length_map]; omega),List.length_map,h8]
     rfl
   have ck1:cellA X k1 0=some (iv t):=by rw [cellA_eq,hSB _ _ hk1]; rfl
   have ck2:cellA X k2 0=some (iv w):=by rw [cellA_eq,hSB _ _ hk2]; rfl
   have ck3:cellA X k3 0=some (iv st):=by rw [cellA_eq,hSB _ _ hk3]; rfl
   have ckW:cellA X kb 2=some (iv W):=by rw [cellA_eq,hSB _ _ hbox]; rfl
   have hXlt:∀ k b,hget X k=some b → k < N + 1:=fun k b hk=>namesOk_iff.1 hnmX (k,b) (hget_mem _ _ _ hk)
   have tk1:cellA (tidy (N + 1) X) k1 0=some (iv t):=by
     have:=hSB _ _ hk1
     rw [cellA_eq,hget_tidy.2 ⟨this,hXlt _ _ this,rfl⟩]; rfl
   have tk2:cellA (tidy (N + 1) X) k2 0=some (iv w):=by
     have:=hSB _ _ hk2
     rw [cellA_eq,hget_tidy.2 ⟨this,hXlt _ _ this,rfl⟩]; rfl
   have tkA:=cellsA_tidy (n:=N + 1) hXlt hcA
   have hRX:dR (frzH (tidy (N + 1) X)):=by
     show hget (frzH (tidy (N + 1) X)) 1=_
     have:=hSB _ _ hR
     rw [hget_frz,hget_tidy.2 ⟨this,hXlt _ _ this,rfl⟩]
     rfl
   have h170:∀ j,g170 [.agg ⟨T.hd.map iv ++ [.bool T.hole,.slice oq T.smp.length cq]⟩] (frzH (tidy (N + 1) X)) j=some (iv off,frzH (tidy (N + 1) X),j):=fun j=>by
     have:=decT_tidy _ (N + 1) _ _ hXlt (decT_mono _ _ _ _ hSB hdec)
     rw [← decT_frz] at this
     simp only [g170,this,hRX,hez,hoff,and_self,if_true]
   have h93:∀ Y j,g93 [iv t,iv off,iv w] Y j=some (iv m,Y,j):=fun Y j=>by
     simp only [g93,hin,hm,if_true]
   have hwts:IntKind.i64.wrap (t + st)=t + st:=W_in (by omega) (by omega)
   have hlN:∀ k b,hget B k=some b → k < N + 1:=fun k b hk=>namesOk_iff.1 hnmX (k,b) (hget_mem _ _ _ (hSB _ _ hk))
   have k1N:=hlN _ _ hk1
   have k2N:=hlN _ _ hk2
   have k3N:=hlN _ _ hk3
   have kbN:=hlN _ _ hbox
   refine E.skip (E.seq ?_)
   refine E.block (E.seq ?_)
   rw [hhd] at hX hld
   simp only [List.map_cons,List.map_nil,List.cons_append,List.nil_append] at hX hld
   refine E.reg hr (by simp [-loadA,-flat,hil,hf,hld]; rfl) ?_
   rw [hX]
   refine E.seq (E.seq (E.reg hr (by simp [-cellA,hc8]; rfl) ?_))
   by_cases hho:T.hole=true
   · refine E.cond (t:=true) (by simp [hho]) (fun _=>?_) (fun h=>by cases h)
     refine E.exit ?_
     refine E.reg hr (by simp [hw]; rfl) ?_
     rw [hho,Bool.not_true,Bool.false_and] at hlv
     have:=hsk [iv a0,iv a1,iv a2,iv a3,iv a4,iv a5,iv a6,iv a7,.bool T.hole,.slice oq T.smp.length cq] hlv
     rw [hX] at this
     exact ⟨(i + 1,X,N + 1),.keep rfl rfl rfl (by simp) (Sub.refl _),⟨hil,this⟩,by dsimp only; omega⟩
   have hho:T.hole=false:=by simpa using hho
   refine E.cond (t:=false) (by simp [hho]) (fun h=>by cases h) (fun _=>?_)
   refine E.skip (E.seq ?_)
   refine E.part (fun k b hk=>namesOk_iff.1 hnmX (k,b) (hget_mem _ _ _ hk)) (E.drawU mixed hr [4] [2,4] [0,1,2,4] (by kernel_rfl) (by simp [-cellA,-cellsA,-readA,cellA_read,cellsA_read,k1N,k2N,tk1,tk2,tkA,h170,h93]; exact ⟨rfl,rfl,rfl,rfl,rfl⟩) ⟨rfl,rfl⟩) ?_
   refine E.seq ?_
   rw [hho,Bool.not_false,Bool.true_and] at hlv
   by_cases h1:(m:Int) < W
   case' pos=>
     by_cases h2:(m:Int) ≤ t + st
     case' pos=>
       rw [decide_eq_true h1,decide_eq_true h2] at hlv
       have hmL:m < T.smp.length:=by have:=hwid hho; omega
       obtain ⟨b,hb⟩:∃ b,T.smp[m]=b:=⟨_,rfl⟩
       have hgb:good32 b=true:=by rw [← hb]; exact hgood _ (List.getElem_mem hmL)
       obtain ⟨aq,haq,hfq,hcq⟩:=hqr m hmL
       rw [hb] at hcq
       subst haq
       have hcq':=hSB.cell hcq
       obtain ⟨p,bb,H',N',hp,hyd,hbb⟩:=hyy [iv a0,iv a1,iv a2,iv a3,iv a4,iv a5,iv a6,iv a7,.bool T.hole,.slice (some aq) T.smp.length cq] b hlv hho (by
         rw [Int.toNat_natCast,List.getElem?_eq_getElem hmL,hb])
       rw [hX] at hyd
       obtain ⟨r,_,m2,m3,_⟩:=Gn.six_run (b:=b) (by
         unfold good32 at hgb; simp only [Bool.and_eq_true,decide_eq_true_eq] at hgb; exact hgb.1.1) (by
         unfold good32 at hgb; simp only [Bool.and_eq_true,decide_eq_true_eq] at hgb; exact hgb.1.2)
       refine E.reg hp (by simp [-cellA,-flat,ckW,ck1,ck3,hwts,h1,h2,hc9,hmL,hfq,hcq',opConvert,bin_fmul (k:=.f32) m2,m3,run_vcall_tmp,vcallF,target,hyd]; rfl) ?_
       cases bb with
       | true=>
         refine E.cond (t:=false) (by simp) (fun h=>by cases h) (fun _=>?_)
         refine E.skip (E.reg hr (by simp [hw]; rfl) ?_)
         exact ⟨(i + 1,H',N'),.keep rfl rfl rfl (by simp) (Sub.refl _),⟨hil,hbb⟩,by dsimp only; omega⟩
       | false=>
         refine E.cond (t:=true) (by simp) (fun _=>?_) (fun h=>by cases h)
         refine E.ret ?_
         exact ⟨.inr rfl,_,_,_,by simp [leaveF,shutA,resultsA,Tryz.results169,dropOk]; first | exact ⟨rfl,rfl,rfl⟩ | rfl,.inr hbb⟩
     case' neg=>
       rw [decide_eq_false h2,Bool.and_false] at hlv
       refine E.reg hr (by simp [-cellA,ckW,ck1,ck3,hwts,h1,h2]; rfl) ?_
   case' neg=>
     rw [decide_eq_false h1,Bool.false_and] at hlv
     refine E.reg hr (by simp [-cellA,ckW,h1]; rfl) ?_
   all_goals
     refine E.cond (t:=false) (by simp) (fun h=>by cases h) (fun _=>?_)
     refine E.skip (E.reg hr (by simp [hw]; rfl) ?_)
     have:=hsk [iv a0,iv a1,iv a2,iv a3,iv a4,iv a5,iv a6,iv a7,.bool T.hole,.slice oq T.smp.length cq] hlv
     rw [hX] at this
     exact ⟨(i + 1,X,N + 1),.keep rfl rfl rfl (by simp) (Sub.refl _),⟨hil,this⟩,by dsimp only; omega⟩
 · have hil':i=ts.length:=by omega
   subst hil'
   refine E.cond (t:=false) (by simp) (fun h=>by cases h) (fun _=>?_)
   refine E.exit ?_
   exact ⟨.inl rfl,_,_,_,by simp [leaveF,shutA,resultsA,Tryz.results169,dropOk]; first | exact ⟨rfl,rfl,rfl⟩ | rfl,.inl hG⟩
theorem within_zero {a lo hi:Int} (h:withinV a lo hi=0):lo ≤ a ∧ a ≤ hi:=by
 unfold withinV at h
 split at h
 · cases h
 · omega
theorem livL_live {ts:List Trc} {t w st:Int} {i:Nat} (h:livB ts t w st i=true):livL ts t w st (i + 1)=livL ts t w st i ++ [(i:Int)]:=by
 rw [livL,if_pos h]
theorem livL_dead {ts:List Trc} {t w st:Int} {i:Nat} (h:livB ts t w st i=false):livL ts t w st (i + 1)=livL ts t w st i:=by
 rw [livL,if_neg (by rw [h]; decide)]
end Go.Proofs.YtkongcnmkiihjaaGreatDoor
namespace Go.Ab
section
open Go
theorem shut_all:∀ (ms:List Nat) {H:Heap},ms.Nodup → (∀ m ∈ ms,hget H m=some .defd) → ∃ H2,shutA ms H=some H2 ∧ ∀ k,k ∉ ms → hget H2 k=hget H k
 | [],H,_,_=>⟨H,rfl,fun _ _=>rfl⟩
 | m :: ms,H,hn,hm=>by
   obtain ⟨h1,h2⟩:=List.nodup_cons.1 hn
   obtain ⟨H2,e1,e2⟩:=shut_all ms (H:=hdel H m) h2 fun k hk=>by
     rw [hget_hdel,if_neg (show ¬ k=m from fun e=>h1 (by rw [← e]; exact hk))]
     exact hm k (List.mem_cons_of_mem _ hk)
   refine ⟨H2,?_,fun k hk=>?_⟩
   · unfold shutA
     rw [hm m (List.mem_cons_self ..)]
     exact e1
   · rw [e2 k fun h=>hk (List.mem_cons_of_mem _ h),hget_hdel,if_neg (show ¬ k=m from fun e=>hk (by rw [e]; exact List.mem_cons_self ..))]
def sumI {α:Type} (f:α → Int):List α → Int
 | []=>0
 | x :: l=>f x + sumI f l
theorem sumI_snoc {α:Type} {f:α → Int} {x:α}:∀ l:List α,sumI f (l ++ [x])=sumI f l + f x
 | []=>by simp [sumI]
 | y :: l=>by
   rw [List.cons_append,sumI,sumI,sumI_snoc l]
   omega
theorem sumI_abs {α:Type} {f:α → Int} {M:Nat}:∀ (l:List α),(∀ x ∈ l,(f x).natAbs ≤ M) → (sumI f l).natAbs ≤ M * l.length
 | [],_=>Nat.le_refl _
 | y :: l,h=>by
   have h1:=h y (List.mem_cons_self ..)
   have h2:=sumI_abs l fun x hx=>h x (List.mem_cons_of_mem _ hx)
   rw [sumI,List.length_cons,Nat.mul_succ]
   omega
theorem sumI_nonneg {α:Type} {f:α → Int}:∀ (l:List α),(∀ x ∈ l,0 ≤ f x) → 0 ≤ sumI f l
 | [],_=>Int.le_refl _
 | y :: l,h=>by
   have h1:=h y (List.mem_cons_self ..)
   have h2:=sumI_nonneg l fun x hx=>h x (List.mem_cons_of_mem _ hx)
   rw [sumI]
   omega
theorem sq_abs {x:Int} {M:Nat} (h:x.natAbs ≤ M):0 ≤ x * x ∧ x * x ≤ (M * M:Nat):=by
 have h1:x * x=((x.natAbs * x.natAbs:Nat):Int):=by
   rw [Int.natCast_mul]
   exact (Int.natAbs_mul_self' x).symm
 have h2:x.natAbs * x.natAbs ≤ M * M:=Nat.mul_le_mul h h
 rw [h1]
 exact ⟨Int.natCast_nonneg _,by exact_mod_cast h2⟩
end
section
open Go Ieee
def smp (b:Nat) (n:Int):Prop:=fin32 b=true ∧ 16 * val32 b=n * UV
theorem abs16 {x y:Int} {u:Nat} (e:16 * x=y * u):16 * x.natAbs=y.natAbs * u:=by
 have h:=congrArg Int.natAbs e
 rw [Int.natAbs_mul,Int.natAbs_mul,Int.natAbs_natCast] at h
 exact h
theorem UVZ:(0:Int) < (UV:Int):=by exact_mod_cast UV_pos
theorem smp_ord {a b:Nat} {m n:Int} (ha:smp a m) (hb:smp b n):single.order a b=some (compare m n):=by
 rw [ord32 ha.1 hb.1,← compare_mul (a:=m) (c:=UV) UVZ,← ha.2,← hb.2,Int.mul_comm 16,Int.mul_comm 16,compare_mul (by decide)]
theorem smp_zero:smp 0 0:=by
 obtain ⟨h1,h2⟩:=fin0
 exact ⟨h1,by rw [h2]; simp⟩
theorem smp_told {n:Int} (hn:n.natAbs < 2 ^ 24):∃ r,single.div (FloatKind.f32.nearest n) 1098907648=some r ∧ smp r n:=by
 obtain ⟨r,h1,h2,h3⟩:=div16 hn
 exact ⟨r,h1,h2,h3⟩
theorem smp_abs {b:Nat} {n:Int} (h:smp b n) (hn:n.natAbs ≤ 16384):(val32 b).natAbs ≤ 2 ^ 10 * UV:=by
 have e2:=abs16 h.2
 have:n.natAbs * UV ≤ 16384 * UV:=Nat.mul_le_mul_right _ hn
 generalize UV=u at e2 this ⊢
 omega
theorem smp_good {b:Nat} {n:Int} (h:smp b n) (hn:n.natAbs ≤ 16384):good32 b=true ∧ six32 b=n:=by
 refine ⟨?_,?_⟩
 · unfold good32
   have hd:UV ∣ (16 * val32 b).natAbs:=by
     rw [Int.natAbs_mul,show (16:Int).natAbs=16 from rfl,abs16 h.2]
     exact Nat.dvd_mul_left _ _
   rw [h.1,decide_eq_true (smp_abs h hn),decide_eq_true hd]
   rfl
 · unfold six32
   rw [h.2,Int.mul_tdiv_cancel _ (Int.ne_of_gt UVZ)]
end
end Go.Ab
namespace Go.Proofs.YtkongcnmkiihjaaGreatDoor
open Go Go.Ab Go.Proofs
abbrev setA (sl:Value) (w s e:Int):Value:=.agg ⟨[sl,iv w,iv s,iv e]⟩
theorem set_den {w s e:Int}:∀ (φ φ0:Vl) (a a0:Value),den φ0 a0=den φ a → denL φ0 [setA a0 w s e]=denL φ [setA a w s e]:=fun φ φ0 a a0 h=>by simp [denL,den,h]
theorem set_sc {w s e:Int}:∀ (p:Nat → Prop) (a:Value),sc p a → scL p [setA a w s e]:=fun _ _ h=>⟨⟨h,trivial,trivial,trivial,trivial⟩,trivial⟩
def headE (n:Nat):Int:=firstV [whenV (decide (n=0)) 12,whenV (decide (16 < n)) 5]
def stepE (last v:Int):Int:=firstV [velV v,whenV (decide (v ≤ last)) 11]
def fanE:Int → List Int → Int
 | _,[]=>0
 | last,v :: l=>if stepE last v=0 then fanE v l else stepE last v
def tailE (w s e:Int):Int:=firstV [withinV w 0 16,withinV s 0 1024,withinV e 1 1024]
def setE (l:List Int) (w s e:Int):Int:=if headE l.length=0 then (if fanE 0 l=0 then tailE w s e else fanE 0 l) else headE l.length
theorem headE_int (k:Nat):firstV [whenV (decide (k=0)) 12,whenV (decide ((16:Int) < (k:Int))) 5]=headE k:=by
 have:decide ((16:Int) < (k:Int))=decide (16 < k):=by rw [decide_eq_decide]; omega
 rw [this]; rfl
theorem max33 (a b:Int) (c:Array Bool):runP Tryz.prog (builtin .max #[3,3] 3 c #[iv a,iv b])=some (.value (iv (max a b))):=by
 have h:runP Tryz.prog (builtin .max #[3,3] 3 c #[iv a,iv b])=some (.value (.int .i64 (if b > a then b else a))):=rfl
 rw [h]
 congr 3
 split <;> omega
attribute [simp] Tryz.t160 Tryz.t96
structure Pk where
 t:Int
 q:Int
 e:Int
end Go.Proofs.YtkongcnmkiihjaaGreatDoor
namespace Go.Ab
open Go
end Go.Ab
namespace Go.Proofs.YtkongcnmkiihjaaGreatDoor
open Go Go.Ab Go.Proofs
end Go.Proofs.YtkongcnmkiihjaaGreatDoor
namespace Go.Ab
open Go
end Go.Ab
namespace Go.Proofs.YtkongcnmkiihjaaGreatDoor
open Go Go.Ab Go.Proofs
end Go.Proofs.YtkongcnmkiihjaaGreatDoor
namespace Go.Ab
open Go
end Go.Ab
namespace Go.Proofs.YtkongcnmkiihjaaGreatDoor
open Go Go.Ab Go.Proofs
def gcdI (a b:Int):Int:=(Nat.gcd a.natAbs b.natAbs:Nat)
theorem build96 {fr:Fr} {H:Heap} {n:Nat} {x y:Operand} {a b:Int} (hx:evO Tryz.prog fr x=some (iv a)) (hy:evO Tryz.prog fr y=some (iv b)):opBuild Tryz.prog 96 #[(0,x),(1,y)] fr H n=some (.agg #[iv a,iv b],H,n):=by
 unfold opBuild
 simp only [evPs_cons,evPs_nil,hx,hy]
 kernel_rfl
theorem gcd_pos {a b:Int} (hb:1 ≤ b):1 ≤ gcdI a b:=by
 unfold gcdI
 have:0 < Nat.gcd a.natAbs b.natAbs:=Nat.gcd_pos_of_pos_right _ (by omega)
 omega
theorem tdiv_bound {a g:Int} (_hg:1 ≤ g) (h:-4611686018427387904 ≤ a ∧ a ≤ 4611686018427387904):IntKind.i64.wrap (a.tdiv g)=a.tdiv g:=by
 have h1:(a.tdiv g).natAbs ≤ a.natAbs:=by rw [Int.natAbs_tdiv]; exact Nat.div_le_self _ _
 exact W_in (by omega) (by omega)
abbrev ratV (a b:Int):Value:=.agg ⟨[iv (a.tdiv (gcdI a b)),iv (b.tdiv (gcdI a b))]⟩
set_option maxRecDepth 100000 in
theorem w124 (a b:Int) (ha:-4611686018427387904 ≤ a ∧ a ≤ 4611686018427387904) (hb:1 ≤ b ∧ b ≤ 4611686018427387904):AC Tryz.prog 124 [iv a,iv b] [] 9 (ratV a b) [] 9:=by
 have hr:=recT_ok (P:=Tryz.prog) (l:=[]) (by simp)
 have hn:IntKind.i64.wrap (-a) = -a:=W_in (by omega) (by omega)
 have hm:max a (-a)=(a.natAbs:Int):=by omega
 have hbn:b=(b.natAbs:Int):=by omega
 have hg:=gcd_pos (a:=a) hb.1
 refine AC.pure Tryz.func124 rfl (by kernel_rfl) rfl [0,1,4,5,6] rfl ?_
 refine E.seq (E.reg hr (by simp; rfl) ?_)
 refine E.seq (E.reg hr (by simp [max33,hn,hm]; rfl) ?_)
 refine E.seq (E.block ?_)
 refine E.loop ?_
 refine EL.ind (fun x:Nat × Nat=>{ fr:=[(0,iv a),(1,iv b),(4,.pointer (some ⟨9,0,none⟩)),(5,iv x.1),(6,iv x.2)],sz:=25,H:=[(9,.cells [iv 0,iv 0] 96)],n:=10,marks:=[],vs:=[0,1,4,5,6] }) (fun x=>x.2) (fun x=>(Nat.gcd x.1 x.2:Int)=gcdI a b) (a.natAbs,b.natAbs) (.less rfl rfl rfl (by simp [← hbn]) (by simp)) rfl (fun _=>rfl) ?_
 intro ⟨p,q⟩ hgood
 dsimp only at hgood
 refine E.seq (E.seq (E.reg hr (by simp; rfl) ?_))
 refine E.cond (by rfl) (fun h=>?_) (fun h=>?_)
 · simp at h
   have hq:(q:Int) ≠ 0:=by omega
   have hmod:(p:Int).tmod (q:Int)=((p % q:Nat):Int):=by
     rw [Int.tmod_eq_emod_of_nonneg (by omega)]
     exact (Int.natCast_emod p q).symm
   refine E.skip (E.block ?_)
   refine E.drawC mixed hr [] [] [] (by kernel_rfl) (by simp [bin_rem hq,hmod]; rfl) ?_
   refine ⟨(q,p % q),.less rfl rfl rfl (by simp) (by simp),?_,?_⟩
   · dsimp only
     rw [← hgood,Nat.gcd_comm q,← Nat.gcd_rec,Nat.gcd_comm]
   · exact Nat.mod_lt _ (by omega)
 · simp at h
   subst h
   have hp:(p:Int)=gcdI a b:=by simpa using hgood
   have hp0:(p:Int) ≠ 0:=by omega
   have e1:IntKind.i64.wrap (a.tdiv (p:Int))=a.tdiv (p:Int):=tdiv_bound (by omega) ha
   have e2:IntKind.i64.wrap (b.tdiv (p:Int))=b.tdiv (p:Int):=tdiv_bound (by omega) (by omega)
   refine E.exit ?_
   refine E.seq (E.drawC mixed hr [7] [7] [7] (by kernel_rfl) (by simp [bin_quo hp0,e1,e2,build96]; rfl) ?_)
   refine E.ret ?_
   exact pureK.ret rfl rfl (by simp [← hp]; kernel_rfl) (by repeat first | exact sub_refl _ | refine sub_cons rfl ?_)
def ratB (a b:Int):Prop:=(-4611686018427387904 ≤ a ∧ a ≤ 4611686018427387904) ∧ (1 ≤ b ∧ b ≤ 4611686018427387904)
instance (a b:Int):Decidable (ratB a b):=by unfold ratB; infer_instance
def gRat (F:Int → Int → Value) (args:List Value) (H:Heap) (n:Nat):R:=match args with
 | [.int .i64 a,.int .i64 b]=>if ratB a b then some (F a b,H,n) else none
 | _=>none
theorem okRat {f:FuncId} {F:Int → Int → Value} (hF:∀ a b,af (F a b)=true) (h:∀ a b,(-4611686018427387904 ≤ a ∧ a ≤ 4611686018427387904) → (1 ≤ b ∧ b ≤ 4611686018427387904) → AC Tryz.prog f [iv a,iv b] [] 9 (F a b) [] 9):EntOk Tryz.prog (f,gRat F):=by
 intro args H n v H' n' h'
 simp only [gRat] at h'
 split at h'
 · split at h'
   · rename_i hc
     injection h' with h'; injection h' with e1 e2; injection e2 with e2 e3; subst e1 e2 e3
     exact AC.liftP (hF _ _) (Part.plain (by simp) [] (by simp [Seen]) gsz ⟨_,_,h _ _ hc.1 hc.2⟩)
   · cases h'
 · cases h'
theorem ok124:EntOk Tryz.prog (124,gRat ratV):=okRat (fun _ _=>rfl) w124
theorem min33 (a b:Int) (c:Array Bool):runP Tryz.prog (builtin .min #[3,3] 3 c #[iv a,iv b])=some (.value (iv (min a b))):=by
 have h:runP Tryz.prog (builtin .min #[3,3] 3 c #[iv a,iv b])=some (.value (.int .i64 (if b < a then b else a))):=rfl
 rw [h]
 congr 3
 split <;> omega
def smpN (ts:List Trc) (t w:Int) (i:Int):Int:=match ts[i.toNat]? with
 | some x=>six32 (x.smp.getD (movV t (offV x.hd) w).toNat 0)
 | none=>0
theorem six_zero:(six32 0).natAbs ≤ 16384:=by
 have h:good32 0=true:=(smp_good smp_zero (by decide)).1
 exact (good_six h).2
theorem smpN_abs {ts:List Trc} (hok:OkS ts) (t w i:Int):(smpN ts t w i).natAbs ≤ 16384:=by
 unfold smpN
 split
 · rename_i x hx
   rw [List.getD_eq_getElem?_getD]
   cases hb:x.smp[(movV t (offV x.hd) w).toNat]? with
   | none=>exact six_zero
   | some b=>exact (good_six (hok.good x (List.mem_of_getElem? hx) b (List.mem_of_getElem? hb))).2
 · exact Nat.zero_le _
abbrev livA (ts:List Trc) (t w st:Int):List Int:=livL ts t w st ts.length
def nuT (ts:List Trc) (t w st:Int):Int:=sumI (smpN ts t w) (livA ts t w st) * sumI (smpN ts t w) (livA ts t w st)
def deT (ts:List Trc) (t w st:Int):Int:=(livA ts t w st).length * sumI (fun i=>smpN ts t w i * smpN ts t w i) (livA ts t w st)
def accN (f:Int → Int) (a:Int):Nat → Int
 | 0=>0
 | k + 1=>accN f a k + f (a + k)
theorem accN_bound {f:Int → Int} {a:Int} {M:Int} (hf:∀ x,0 ≤ f x ∧ f x ≤ M):∀ k:Nat,0 ≤ accN f a k ∧ accN f a k ≤ M * k
 | 0=>by simp [accN]
 | k + 1=>by
   have h1:=accN_bound (a:=a) hf k
   have h2:=hf (a + k)
   rw [accN,Int.natCast_succ,Int.mul_add,Int.mul_one]
   omega
theorem nd_bound {ts:List Trc} (hok:OkS ts) (t w st:Int):(0 ≤ nuT ts t w st ∧ nuT ts t w st ≤ 1099511627776) ∧ (0 ≤ deT ts t w st ∧ deT ts t w st ≤ 1099511627776):=by
 have hl:(livA ts t w st).length ≤ ts.length:=livL_len ts t w st ts.length
 have h64:=hok.len.2
 have hs:=sumI_abs (f:=smpN ts t w) (M:=16384) (livA ts t w st) fun x _=>smpN_abs hok t w x
 have hs2:(sumI (smpN ts t w) (livA ts t w st)).natAbs ≤ 1048576:=by
   have:16384 * (livA ts t w st).length ≤ 16384 * 64:=Nat.mul_le_mul_left _ (by omega)
   omega
 have hq0:=sumI_nonneg (f:=fun i=>smpN ts t w i * smpN ts t w i) (livA ts t w st) fun x _=>(sq_abs (smpN_abs hok t w x)).1
 have hq:=sumI_abs (f:=fun i=>smpN ts t w i * smpN ts t w i) (M:=268435456) (livA ts t w st) fun x _=>by
   have:=sq_abs (smpN_abs hok t w x)
   omega
 refine ⟨?_,?_⟩
 · have:=sq_abs hs2
   unfold nuT
   omega
 · unfold deT
   have e1:268435456 * (livA ts t w st).length ≤ 268435456 * 64:=Nat.mul_le_mul_left _ (by omega)
   have e2:(sumI (fun i=>smpN ts t w i * smpN ts t w i) (livA ts t w st)) ≤ 17179869184:=by omega
   have e3:(((livA ts t w st).length:Nat):Int) ≤ 64:=by omega
   refine ⟨Int.mul_nonneg (by omega) hq0,?_⟩
   have:=Int.mul_le_mul e3 e2 hq0 (by decide)
   omega
def semA (t win:Int):Int:=max 0 (t - win)
def semC (ts:List Trc) (t win:Int):Nat:=(min ((widF ts).1 - 1) (t + win) - semA t win + 1).toNat
def semU (ts:List Trc) (t w win st:Int):Int:=accN (fun x=>nuT ts x w st) (semA t win) (semC ts t win)
def semD (ts:List Trc) (t w win st:Int):Int:=accN (fun x=>deT ts x w st) (semA t win) (semC ts t win)
def semV (ts:List Trc) (t w win st:Int):Value:=if semD ts t w win st=0 then .agg ⟨[iv 0,iv 1]⟩ else ratV (semU ts t w win st) (semD ts t w win st)
noncomputable def asg135:Code:=match rfOf (bodyOf' Tryz.f135) with
 | some x=>x.1
 | none=>.skip
noncomputable def bdy135:Code:=match rfOf (bodyOf' Tryz.f135) with
 | some x=>x.2
 | none=>.skip
abbrev fr135 (n N:Nat) (t w win st num den a:Int):Fr:=[(38,fn169 (N + 3)),(1,iv t),(2,iv w),(3,iv win),(4,iv st),(5,ptA n),(10,ptA (n + 1)),(11,iv num),(12,iv den),(13,iv a),(14,ptA N),(15,ptA (N + 1)),(16,ptA (N + 2))]
abbrev vs135:List Nat:=[1,2,3,4,5,10,11,12,13,14,15,16]
noncomputable abbrev lb135 (fr:Fr) (N:Nat) (ls:LoopState) (pe:Option Code):Blk:=.loop ls pe fr 67 vs135 #[39,40] asg135 bdy135 (N + 7)
noncomputable abbrev fs135 (fr:Fr) (N:Nat) (ls:LoopState) (pe:Option Code) (m s q:Int):List (Nat × Blk):=[(N + 7,.defd),(N + 8,lb135 fr N ls pe),(N,.cells [iv m] 3),(N + 1,.cells [iv s] 3),(N + 2,.cells [iv q] 3)]
set_option maxHeartbeats 1600000 in
set_option maxRecDepth 100000 in
theorem yield135 {B : Heap} {fr : Fr} {N0 N : Nat} {m s q x i : Int} {cs : List Value} {Hx : Heap} (hfr : lk fr 14 = some (ptA N0) ∧ lk fr 15 = some (ptA (N0 + 1)) ∧ lk fr 16 = some (ptA (N0 + 2))) (hI : Kp B (N0 + 9) (fs135 fr N0 .ready none m s q) Hx N) (hm : IntKind.i64.wrap (m + 1) = m + 1) (hs : IntKind.i64.wrap (s + x) = s + x) (hx : IntKind.i64.wrap (x * x) = x * x) (hq : IntKind.i64.wrap (q + x * x) = q + x * x) :
   ∃ r b H' N',RecOk Tryz.prog r 0 ∧ yieldF r (N0 + 8) [iv i,iv x] ((N,.cells cs 159) :: Hx) (N + 1)=some (.bool b,H',N') ∧ (b=true ∧ Kp B (N0 + 9) (fs135 fr N0 .ready none (m + 1) (s + x) (q + x * x)) H' N'):=by
 have hr0:=recT_ok (P:=Tryz.prog) (l:=[]) (by simp)
 have hS1:=hI.skip (.cells cs 159)
 obtain ⟨f1,f2,f3⟩:=hfr
 refine (yieldF_ex (K:=fun b H' N'=>b=true ∧ Kp B (N0 + 9) (fs135 fr N0 .ready none (m + 1) (s + x) (q + x * x)) H' N') (hS1.at' 1 _ rfl) rfl (fun c h=>by cases h) (fun c h=>by cases h) ?_)
 refine E.lead { fr:=[(40,iv x),(14,ptA N0),(15,ptA (N0 + 1)),(16,ptA (N0 + 2))],sz:=67,H:=(N,.cells cs 159) :: Hx,n:=N + 1,marks:=[],vs:=vs135 } (.keep rfl rfl rfl (by simp [f1,f2,f3]) (Sub.refl _)) ?_
 refine E.reg hr0 (by simp; rfl) ?_
 refine ⟨rfl,hS1.at' 1 _ rfl,?_⟩
 have hY:=hS1.put 1 rfl (lb135 fr N0 .busy none)
 obtain ⟨Y,hYe⟩:∃ Y,hset ((N,Blk.cells cs 159) :: Hx) (N0 + 8) (lb135 fr N0 .busy none)=Y:=⟨_,rfl⟩
 rw [hYe] at hY ⊢
 have c1:cellA Y N0 0=some (iv m):=hY.cell 2 rfl 0
 have s1:=hY.store 2 (v:=iv (m + 1)) rfl
 have hY2:=hY.put 2 rfl (.cells [iv (m + 1)] 3)
 obtain ⟨Y2,hY2e⟩:∃ Y2,hset Y N0 (.cells [iv (m + 1)] 3)=Y2:=⟨_,rfl⟩
 rw [hY2e] at hY2 s1
 have c2:cellA Y2 (N0 + 1) 0=some (iv s):=hY2.cell 3 rfl 0
 have s2:=hY2.store 3 (v:=iv (s + x)) rfl
 have hY3:=hY2.put 3 rfl (.cells [iv (s + x)] 3)
 obtain ⟨Y3,hY3e⟩:∃ Y3,hset Y2 (N0 + 1) (.cells [iv (s + x)] 3)=Y3:=⟨_,rfl⟩
 rw [hY3e] at hY3 s2
 have c3:cellA Y3 (N0 + 2) 0=some (iv q):=hY3.cell 4 rfl 0
 have s3:=hY3.store 4 (v:=iv (q + x * x)) rfl
 have hY4:=hY3.put 4 rfl (.cells [iv (q + x * x)] 3)
 refine E.block (E.seq (E.reg hr0 (by simp [-cellA,-storeA,c1,hm,s1]; rfl) ?_))
 refine E.seq (E.reg hr0 (by simp [-cellA,-storeA,c2,hs,s2]; rfl) ?_)
 refine E.reg hr0 (by simp [-cellA,-storeA,c3,hx,hq,s3]; rfl) ?_
 exact ⟨hY4.at' 1 _ rfl,.inl ⟨rfl,rfl,hY4.put 1 rfl (lb135 fr N0 .ready none)⟩⟩
theorem build96a {fr:Fr} {H:Heap} {n:Nat}:opBuild Tryz.prog 96 #[(1,.const (.int .i64 1))] fr H n=some (.agg ⟨[iv 0,iv 1]⟩,H,n):=by kernel_rfl
theorem load96 {H:Heap} {n:Nat} {a b:Value} (h:hget H n=some (.cells [a,b] 96)):loadA Tryz.prog 96 H (.pointer (some ⟨n,0,none⟩))=some (.agg ⟨[a,b]⟩):=by
 have:cellsA H n 0 2=some [a,b]:=by rw [cellsA_eq,h]; rfl
 simp only [loadA,ag96,sz96,this,Option.map_some]
set_option maxHeartbeats 6400000 in
set_option maxRecDepth 100000 in
theorem w135 {H:Heap} {n:Nat} {s:ByteArray} {u:Value} {ts:List Trc} {t w win st:Int} (hR:dR H) (hv:trcV H u=some ts) (hok:OkS ts) (htr:0 ≤ t ∧ t ≤ (widF ts).1 - 1) (hwr:1 ≤ w ∧ w ≤ 1000000000) (hnr:0 ≤ win ∧ win ≤ 16) (hsr:0 ≤ st ∧ st ≤ 1024):AC Tryz.prog 135 [.agg ⟨[.string s,u,iv (widF ts).1]⟩,iv t,iv w,iv win,iv st] H n (semV ts t w win st) H n:=by
 refine AC.given fun hold hsc hgn=>AC.tidied (B:=[]) (by simp) ?_
 replace hv:trcV (tidy n H) u=some ts:=listV_tidy decT_tidy (fun k b h=>(hold k b h).1) hv
 have h1n:1 < n:=by rw [gsz] at hgn; omega
 replace hR:hget (tidy n H) 1=some (.inp 0 rangesV):=hget_tidy.2 ⟨hR,h1n,rfl⟩
 have hr:=recT_ok (P:=Tryz.prog) (l:=[(133,g133),(124,gRat ratV)]) (by simp only [List.forall_mem_cons]; exact ⟨ok133,ok124,by simp⟩)
 have hr0:=recT_ok (P:=Tryz.prog) (l:=[]) (by simp)
 obtain ⟨oa,c,rfl,hlt,_,_⟩:=trcV_form hv
 have hT:∀ j,n ≤ j → hget (tidy n H) j=none:=fun j hj=>by
   cases hc:hget (tidy n H) j with
   | none=>rfl
   | some b=>exact absurd (tidy_lt _ _ hc) (by omega)
 have hw0:=hok.w0
 have hndb:=fun x=>nd_bound hok x w st
 obtain ⟨A,hA⟩:∃ A,semA t win=A:=⟨_,rfl⟩
 obtain ⟨C,hC⟩:∃ C,semC ts t win=C:=⟨_,rfl⟩
 have hAd:A=max 0 (t - win):=by rw [← hA]; rfl
 have hU:semU ts t w win st=accN (fun x=>nuT ts x w st) A C:=by rw [← hA,← hC]; rfl
 have hD:semD ts t w win st=accN (fun x=>deT ts x w st) A C:=by rw [← hA,← hC]; rfl
 have hCd:C=(min ((widF ts).1 - 1) (t + win) - A + 1).toNat:=by rw [← hA,← hC]; rfl
 have hV:semV ts t w win st=if accN (fun x=>deT ts x w st) A C=0 then .agg ⟨[iv 0,iv 1]⟩ else ratV (accN (fun x=>nuT ts x w st) A C) (accN (fun x=>deT ts x w st) A C):=by rw [← hU,← hD]; rfl
 obtain ⟨V,hVV⟩:∃ V,semV ts t w win st=V:=⟨_,rfl⟩
 rw [hVV] at hV ⊢
 have haf:af V=true:=by rw [hV]; split <;> rfl
 have hub:∀ k:Nat,0 ≤ accN (fun x=>nuT ts x w st) A k ∧ accN (fun x=>nuT ts x w st) A k ≤ 1099511627776 * k:=accN_bound fun x=>(hndb x).1
 have hdb:∀ k:Nat,0 ≤ accN (fun x=>deT ts x w st) A k ∧ accN (fun x=>deT ts x w st) A k ≤ 1099511627776 * k:=accN_bound fun x=>(hndb x).2
 obtain ⟨W,hW⟩:∃ W,(widF ts).1=W:=⟨_,rfl⟩
 rw [hW] at htr hw0 hCd ⊢
 have hC33:C ≤ 33:=by omega
 obtain ⟨X,hX⟩:∃ X,(n + 1,Blk.cells [iv 0,iv 0] 96) :: (n,Blk.cells [.string s,.slice oa ts.length c,iv W] 196) :: tidy n H=X:=⟨_,rfl⟩
 have hS:Sub (tidy n H) X:=by rw [← hX]; exact (Sub.cons (hT _ (Nat.le_refl _)) (Sub.refl _)).trans (Sub.cons (by rw [hget_cons,if_neg (by omega)]; exact hT _ (by omega)) (Sub.refl _))
 have hnm:namesOk (n + 2) X=true:=by rw [← hX]; exact namesOk_put (by omega) (namesOk_put (by omega) (by simp))
 have hbx:hget X n=some (.cells [.string s,.slice oa ts.length c,iv W] 196):=by rw [← hX,hget_cons,if_neg (by omega),hget_cons,if_pos rfl]
 have hbr:hget X (n + 1)=some (.cells [iv 0,iv 0] 96):=by rw [← hX,hget_cons,if_pos rfl]
 have hXlt:∀ k b,hget X k=some b → k < n + 2:=fun k b hk=>namesOk_iff.1 hnm (k,b) (hget_mem _ _ _ hk)
 have hws:IntKind.i64.wrap (t - win)=t - win:=W_in (by omega) (by omega)
 have hwa:IntKind.i64.wrap (t + win)=t + win:=W_in (by omega) (by omega)
 have hwW:IntKind.i64.wrap (W - 1)=W - 1:=W_in (by omega) (by omega)
 refine AC.pureM Tryz.func135 rfl (by kernel_rfl) rfl vs135 haf ?_
 refine E.seq (E.reg hr (by simp; rfl) ?_)
 rw [hX]
 refine E.seq (E.reg hr (by simp; rfl) ?_)
 refine E.seq (E.seq (E.reg hr (by simp [hws,max33,← hAd]; rfl) ?_))
 refine E.block (E.loop ?_)
 refine EL.ind (fun x:Nat × Heap × Nat × List Nat=>{ fr:=[(1,iv t),(2,iv w),(3,iv win),(4,iv st),(5,ptA n),(10,ptA (n + 1)),(11,iv (accN (fun x=>nuT ts x w st) A x.1)),(12,iv (accN (fun x=>deT ts x w st) A x.1)),(13,iv (A + (x.1:Nat)))],sz:=67,H:=x.2.1,n:=x.2.2.1,marks:=x.2.2.2,vs:=vs135 }) (fun x=>C - x.1) (fun x=>x.1 ≤ C ∧ Sub X x.2.1 ∧ namesOk x.2.2.1 x.2.1=true ∧ n + 2 ≤ x.2.2.1 ∧ x.2.2.2.Nodup ∧ ∀ m ∈ x.2.2.2,n + 2 ≤ m ∧ hget x.2.1 m=some .defd) (0,X,n + 2,[]) (.keep rfl rfl rfl (by simp [accN]) (Sub.refl _)) ⟨Nat.zero_le _,Sub.refl _,hnm,Nat.le_refl _,List.nodup_nil,fun m hm=>by cases hm⟩ (fun _=>rfl) ?_
 rintro ⟨k,Hx,N,ms⟩ ⟨hk,hSx,hnx,hNn,hnd,hms⟩
 dsimp only at hk hSx hnx hNn hnd hms ⊢
 have hHlt:∀ k b,hget Hx k=some b → k < N:=fun k b hk=>namesOk_iff.1 hnx (k,b) (hget_mem _ _ _ hk)
 have hHn:∀ j,N ≤ j → hget Hx j=none:=fun j hj=>by
   cases hc:hget Hx j with
   | none=>rfl
   | some b=>have:=hHlt _ _ hc; omega
 have hcW:cellA Hx n 2=some (iv W):=by rw [cellA_eq,hSx _ _ hbx]; rfl
 refine E.seq (E.seq (E.reg hr0 (by simp [-cellA,hcW,hwW,hwa,min33]; rfl) ?_))
 by_cases hkC:k < C
 · have hle:A + (k:Int) ≤ min (W - 1) (t + win):=by omega
   have hat:0 ≤ A + (k:Int) ∧ A + (k:Int) ≤ W - 1:=by omega
   refine E.cond (t:=true) (by simp; omega) (fun _=>?_) (fun h=>by cases h)
   have hub1:=hub k
   have hdb1:=hdb k
   have hac1:accN (fun x=>nuT ts x w st) A (k + 1)=accN (fun x=>nuT ts x w st) A k + nuT ts (A + k) w st:=rfl
   have hac2:accN (fun x=>deT ts x w st) A (k + 1)=accN (fun x=>deT ts x w st) A k + deT ts (A + k) w st:=rfl
   obtain ⟨nu,hnu⟩:∃ x,accN (fun x=>nuT ts x w st) A k=x:=⟨_,rfl⟩
   obtain ⟨de,hde⟩:∃ x,accN (fun x=>deT ts x w st) A k=x:=⟨_,rfl⟩
   obtain ⟨at',hat'⟩:∃ x,A + (k:Int)=x:=⟨_,rfl⟩
   have hndb':=hndb at'
   have hk1:A + ((k + 1:Nat):Int)=at' + 1:=by omega
   rw [hat'] at hac1 hac2 hat
   rw [hnu] at hub1 hac1
   rw [hde] at hdb1 hac2
   rw [hnu,hde,hat']
   refine E.skip (E.seq ?_)
   refine E.block (E.seq (E.reg hr0 (by simp; rfl) ?_))
   refine E.seq (E.seq ?_)
   have hld:=load196 (H:=(N + 2,Blk.cells [iv 0] 3) :: (N + 1,.cells [iv 0] 3) :: (N,.cells [iv 0] 3) :: Hx) (n:=n) (s:=s) (u:=.slice oa ts.length c) (W:=W) (by rw [hget_cons,if_neg (by omega),hget_cons,if_neg (by omega),hget_cons,if_neg (by omega)]; exact hSx _ _ hbx)
   refine E.reg hr (by simp [-loadA,hld,g133]; rfl) ?_
   refine E.block ?_
   refine E.lead { fr:=fr135 n N t w win st nu de at',sz:=67,H:=(N + 6,.cells [iv st] 3) :: (N + 5,.cells [iv w] 3) :: (N + 4,.cells [iv at'] 3) :: (N + 3,.cells [.string s,.slice oa ts.length c,iv W] 196) :: (N + 2,Blk.cells [iv 0] 3) :: (N + 1,.cells [iv 0] 3) :: (N,.cells [iv 0] 3) :: Hx,n:=N + 7,marks:=ms,vs:=vs135 } (.keep rfl rfl rfl (by simp) (Sub.refl _)) ?_
   refine E.rangeX (x:=asg135) (y:=bdy135) rfl ent169 ?_
   obtain ⟨fr,hfr⟩:∃ fr,fr135 n N t w win st nu de at'=fr:=⟨_,rfl⟩
   have hfl:lk fr 14=some (ptA N) ∧ lk fr 15=some (ptA (N + 1)) ∧ lk fr 16=some (ptA (N + 2)):=by rw [← hfr]; exact ⟨rfl,rfl,rfl⟩
   obtain ⟨B,hB⟩:∃ B,(N + 6,Blk.cells [iv st] 3) :: (N + 5,.cells [iv w] 3) :: (N + 4,.cells [iv at'] 3) :: (N + 3,.cells [.string s,.slice oa ts.length c,iv W] 196) :: Hx=B:=⟨_,rfl⟩
   have hHB:Sub Hx B:=by
     intro j b hj
     have:=hHlt _ _ hj
     rw [← hB,hget_cons,if_neg (by omega),hget_cons,if_neg (by omega),hget_cons,if_neg (by omega),hget_cons,if_neg (by omega)]
     exact hj
   have htB:trcV B (.slice oa ts.length c)=some ts:=listV_mono decT_mono (hS.trans (hSx.trans hHB)) hv
   have hBlt:∀ j b,hget B j=some b → j < N + 9:=fun j b hj=>by
     rw [← hB,hget_cons,hget_cons,hget_cons,hget_cons] at hj
     split at hj
     · omega
     split at hj
     · omega
     split at hj
     · omega
     split at hj
     · omega
     · have:=hHlt _ _ hj; omega
   have hBn:∀ j,N ≤ j → (j < N + 3 ∨ N + 6 < j) → hget B j=none:=fun j h1 h2=>by
     rw [← hB,hget_cons,if_neg (by omega),hget_cons,if_neg (by omega),hget_cons,if_neg (by omega),hget_cons,if_neg (by omega)]
     exact hHn j h1
   obtain ⟨Z,hZ⟩:∃ Z,(N + 6,Blk.cells [iv st] 3) :: (N + 5,.cells [iv w] 3) :: (N + 4,.cells [iv at'] 3) :: (N + 3,.cells [.string s,.slice oa ts.length c,iv W] 196) :: (N + 2,Blk.cells [iv 0] 3) :: (N + 1,.cells [iv 0] 3) :: (N,.cells [iv 0] 3) :: Hx=Z:=⟨_,rfl⟩
   have hZ0:hget Z N=some (.cells [iv 0] 3):=by rw [← hZ]; simp
   have hZ1:hget Z (N + 1)=some (.cells [iv 0] 3):=by rw [← hZ]; simp
   have hZ2:hget Z (N + 2)=some (.cells [iv 0] 3):=by rw [← hZ]; simp
   have hBZ:Sub B Z:=by
     intro j b hj
     rw [← hB,hget_cons,hget_cons,hget_cons,hget_cons] at hj
     rw [← hZ,hget_cons,hget_cons,hget_cons,hget_cons]
     split
     · rename_i e; rw [if_pos e] at hj; exact hj
     rename_i e1; rw [if_neg e1] at hj
     split
     · rename_i e; rw [if_pos e] at hj; exact hj
     rename_i e2; rw [if_neg e2] at hj
     split
     · rename_i e; rw [if_pos e] at hj; exact hj
     rename_i e3; rw [if_neg e3] at hj
     split
     · rename_i e; rw [if_pos e] at hj; exact hj
     rename_i e4; rw [if_neg e4] at hj
     have:=hHlt _ _ hj
     rw [hget_cons,if_neg (by omega),hget_cons,if_neg (by omega),hget_cons,if_neg (by omega)]
     exact hj
   have hZn:namesOk (N + 7) Z=true:=by rw [← hZ]; exact namesOk_put (by omega) (namesOk_put (by omega) (namesOk_put (by omega) (namesOk_put (by omega) (namesOk_put (by omega) (namesOk_put (by omega) (namesOk_put (by omega) (namesOk_mono (by omega) _ hnx)))))))
   have hZlt:∀ j b,hget Z j=some b → j < N + 7:=fun j b hj=>namesOk_iff.1 hZn (j,b) (hget_mem _ _ _ hj)
   let I:Nat → Heap → Nat → Prop:=fun i H N'=>Kp B (N + 9) (fs135 fr N .ready none (livL ts at' w st i).length (sumI (smpN ts at' w) (livL ts at' w st i)) (sumI (fun i=>smpN ts at' w i * smpN ts at' w i) (livL ts at' w st i))) H N'
   have hstart:I 0 ((N + 8,lb135 fr N .ready none) :: (N + 7,.defd) :: Z) (N + 9):=by
     have hs0:Sub B ((N + 8,lb135 fr N .ready none) :: (N + 7,.defd) :: Z):=fun j b hj=>by
       have:=hZlt _ _ (hBZ _ _ hj)
       rw [hget_cons,if_neg (by omega),hget_cons,if_neg (by omega)]
       exact hBZ _ _ hj
     refine (((((Kp.start hBlt hs0 (namesOk_put (by omega) (namesOk_put (by omega) (namesOk_mono (by omega) _ hZn))) (Nat.le_refl _)).more (l:=N + 2) (c:=.cells [iv 0] 3) ?_ (by omega) (hBn _ (by omega) (by omega)) (by simp)).more (l:=N + 1) (c:=.cells [iv 0] 3) ?_ (by omega) (hBn _ (by omega) (by omega)) (by simp)).more (l:=N) (c:=.cells [iv 0] 3) ?_ (by omega) (hBn _ (by omega) (by omega)) (by simp)).more (l:=N + 8) (c:=lb135 fr N .ready none) (by simp) (by omega) (hBn _ (by omega) (by omega)) (by simp)).more (l:=N + 7) (c:=.defd) (by simp) (by omega) (hBn _ (by omega) (by omega)) (by simp)
     · rw [hget_cons,if_neg (by omega),hget_cons,if_neg (by omega)]; exact hZ2
     · rw [hget_cons,if_neg (by omega),hget_cons,if_neg (by omega)]; exact hZ1
     · rw [hget_cons,if_neg (by omega),hget_cons,if_neg (by omega)]; exact hZ0
   obtain ⟨v',H',n',hAC,hend⟩:=it169 (B:=B) (l:=N + 8) (kb:=N + 3) (k1:=N + 4) (k2:=N + 5) (k3:=N + 6) (s:=s) (t:=at') (w:=w) (st:=st) (by rw [← hB,hW]; simp) (by rw [← hB]; simp) (by rw [← hB]; simp) (by rw [← hB]; simp) ((hS.trans (hSx.trans hHB)) _ _ hR) htB hok (by omega) hwr hsr I (fun _ _=>False) (fun i H N h=>h.sub) (fun i H N h=>h.nm)
     (fun i H N cs hi h hd=>by
       show Kp B _ (fs135 fr _ .ready none (livL ts at' w st (i + 1)).length _ _) _ _
       rw [livL_dead hd]; exact h.skip _)
     (fun i Hy N' cs b hi hI hlv hh hb=>by
       have hlen:=livL_len ts at' w st i
       have h64:=hok.len.2
       have hsa:=sumI_abs (f:=smpN ts at' w) (M:=16384) (livL ts at' w st i) fun x _=>smpN_abs hok at' w x
       have hqa:=sumI_abs (f:=fun i=>smpN ts at' w i * smpN ts at' w i) (M:=268435456) (livL ts at' w st i) fun x _=>by
         have:=sq_abs (smpN_abs hok at' w x)
         omega
       have hx:six32 b=smpN ts at' w (i:Int):=by
         unfold smpN
         rw [Int.toNat_natCast,List.getElem?_eq_getElem hi]
         dsimp only
         rw [List.getD_eq_getElem?_getD,hb]
         rfl
       have hxa:=smpN_abs hok at' w (i:Int)
       have hxs:=sq_abs hxa
       rw [hx]
       have e1:16384 * (livL ts at' w st i).length ≤ 16384 * 64:=Nat.mul_le_mul_left _ (by omega)
       have e2:268435456 * (livL ts at' w st i).length ≤ 268435456 * 64:=Nat.mul_le_mul_left _ (by omega)
       obtain ⟨r,bb,H2,N2,h1,h2,h3,h4⟩:=yield135 (cs:=cs) (i:=(i:Int)) (x:=smpN ts at' w (i:Int)) hfl hI (W_in (by omega) (by omega)) (W_in (by omega) (by omega)) (W_in (by omega) (by omega)) (W_in (by omega) (by omega))
       subst h3
       refine ⟨r,true,H2,N2,h1,h2,?_⟩
       rw [if_pos rfl]
       show Kp B _ (fs135 fr _ .ready none (livL ts at' w st (i + 1)).length _ _) _ _
       rw [livL_live hlv,sumI_snoc,sumI_snoc,List.length_append]
       exact h4)
     (H:=(N + 8,lb135 fr N .ready none) :: (N + 7,.defd) :: Z) (n:=N + 9) hstart
   rw [hZ,hfr]
   refine ⟨v',H',n',hAC,?_⟩
   rcases hend with hI | hI
   rotate_left
   · exact hI.elim
   refine .inl ⟨hI.at' 1 _ rfl,?_⟩
   have hY:=hI.put 1 rfl (lb135 fr N .exhausted none)
   have hYb:=hI.big
   show E Tryz.prog n none _ { fr:=fr,sz:=67,H:=hset H' (N + 8) (lb135 fr N .exhausted none),n:=n',marks:=(N + 7) :: ms,vs:=vs135 } _
   obtain ⟨Y,hYe⟩:∃ Y,hset H' (N + 8) (lb135 fr N .exhausted none)=Y:=⟨_,rfl⟩
   rw [hYe] at hY ⊢
   rw [← hfr]
   have c0:cellA Y N 0=_:=hY.cell 2 rfl 0
   have c1:cellA Y (N + 1) 0=_:=hY.cell 3 rfl 0
   have c2:cellA Y (N + 2) 0=_:=hY.cell 4 rfl 0
   simp only [List.getElem?_cons_zero] at c0 c1 c2
   have hn1:nuT ts at' w st=sumI (smpN ts at' w) (livL ts at' w st ts.length) * sumI (smpN ts at' w) (livL ts at' w st ts.length):=rfl
   have hd1:deT ts at' w st=(livL ts at' w st ts.length).length * sumI (fun i=>smpN ts at' w i * smpN ts at' w i) (livL ts at' w st ts.length):=rfl
   have hNY:Sub Hx Y:=hHB.trans hY.sub
   obtain ⟨S1,hS1⟩:∃ x,sumI (smpN ts at' w) (livL ts at' w st ts.length)=x:=⟨_,rfl⟩
   obtain ⟨S2,hS2⟩:∃ x,sumI (fun i=>smpN ts at' w i * smpN ts at' w i) (livL ts at' w st ts.length)=x:=⟨_,rfl⟩
   obtain ⟨S0,hS0⟩:∃ x:Int,((livL ts at' w st ts.length).length:Int)=x:=⟨_,rfl⟩
   rw [hS1] at c1 hn1
   rw [hS2] at c2 hd1
   rw [hS0] at c0 hd1
   rw [hn1] at hac1 hndb'
   rw [hd1] at hac2 hndb'
   have hkb:(1099511627776:Int) * k ≤ 1099511627776 * 33:=by omega
   have w1:IntKind.i64.wrap (S1 * S1)=S1 * S1:=W_in (by omega) (by omega)
   have w2:IntKind.i64.wrap (nu + S1 * S1)=nu + S1 * S1:=W_in (by omega) (by omega)
   have w3:IntKind.i64.wrap (S0 * S2)=S0 * S2:=W_in (by omega) (by omega)
   have w4:IntKind.i64.wrap (de + S0 * S2)=de + S0 * S2:=W_in (by omega) (by omega)
   have w5:IntKind.i64.wrap (at' + 1)=at' + 1:=W_in (by omega) (by omega)
   refine E.seq (E.reg hr0 (by simp [-cellA,c1,w1,w2]; rfl) ?_)
   refine E.reg hr0 (by simp [-cellA,c0,c2,w3,w4]; rfl) ?_
   refine E.reg hr0 (by simp [w5]; rfl) ?_
   refine ⟨(k + 1,Y,n',(N + 7) :: ms),.keep rfl rfl rfl (by simp [hac1,hac2]; omega) (Sub.refl _),⟨by omega,hSx.trans hNY,hY.nm,(by show n + 2 ≤ n'; omega),List.nodup_cons.2 ⟨fun h=>?_,hnd⟩,fun m hm=>?_⟩,by dsimp only; omega⟩
   · have:=hHlt _ _ (hms _ h).2
     omega
   · rcases List.mem_cons.1 hm with rfl | hm
     · exact ⟨by omega,hY.at' 0 _ rfl⟩
     · exact ⟨(hms m hm).1,hNY _ _ (hms m hm).2⟩
 · have hkC':k=C:=by omega
   subst hkC'
   refine E.cond (t:=false) (by simp; omega) (fun h=>by cases h) (fun _=>?_)
   refine E.exit ?_
   have hub1:=hub k
   have hdb1:=hdb k
   obtain ⟨nu,hnu⟩:∃ x,accN (fun x=>nuT ts x w st) A k=x:=⟨_,rfl⟩
   obtain ⟨de,hde⟩:∃ x,accN (fun x=>deT ts x w st) A k=x:=⟨_,rfl⟩
   rw [hnu,hde] at hV ⊢
   rw [hnu] at hub1
   rw [hde] at hdb1
   have hbr':=hSx _ _ hbr
   have hst:∀ a b:Value,storeA Hx (n + 1) 0 [a,b]=some (hset Hx (n + 1) (.cells [a,b] 96)):=fun a b=>store_all hbr' rfl
   have hfin:∀ a b:Int,∃ H2,shutA ms (hset Hx (n + 1) (.cells [iv a,iv b] 96))=some H2 ∧ loadA Tryz.prog 96 H2 (.pointer (some ⟨n + 1,0,none⟩))=some (.agg ⟨[iv a,iv b]⟩) ∧ Sub (tidy n H) H2:=fun a b=>by
     obtain ⟨H2,e1,e2⟩:=shut_all ms (H:=hset Hx (n + 1) (.cells [iv a,iv b] 96)) hnd fun m hm=>by
       have:=(hms m hm).1
       rw [hget_hset,if_neg (by omega)]
       exact (hms m hm).2
     refine ⟨H2,e1,load96 ?_,fun j x hj=>?_⟩
     · rw [e2 _ fun h=>by have:=(hms _ h).1; omega,hget_hset,if_pos rfl,hbr']
       rfl
     · have hjn:=tidy_lt _ _ hj
       rw [e2 _ fun h=>by have:=(hms _ h).1; omega,hget_hset,if_neg (by omega)]
       exact hSx _ _ (hS _ _ hj)
   refine E.seq (E.seq (E.reg hr0 (by simp; rfl) ?_))
   by_cases hz:de=0
   · rw [if_pos hz] at hV
     refine E.cond (t:=true) (by simp [hz]) (fun _=>?_) (fun h=>by cases h)
     refine E.seq (E.reg hr0 (by simp [-storeA,build96a,hst]; rfl) ?_)
     refine E.ret ?_
     obtain ⟨H2,e1,e2,e3⟩:=hfin 0 1
     show Ab.outM Tryz.prog Tryz.f135 (fun u H2 _=>u=V ∧ Ab.Sub (tidy n H) H2) .ret _
     exact outM.ret H2 e1 (vs:=[.agg ⟨[iv 0,iv 1]⟩]) (by simp [-loadA,resultsA,resultA,Tryz.results135,e2]) ⟨by rw [hV]; rfl,e3⟩
   · rw [if_neg hz] at hV
     refine E.cond (t:=false) (by simp [hz]) (fun h=>by cases h) (fun _=>?_)
     refine E.skip (E.seq ?_)
     have h124:gRat ratV [iv nu,iv de] Hx N=some (ratV nu de,Hx,N):=if_pos ⟨⟨by omega,by omega⟩,by omega,by omega⟩
     refine E.reg hr (by simp [-storeA,h124,hst]; rfl) ?_
     refine E.ret ?_
     obtain ⟨H2,e1,e2,e3⟩:=hfin (nu.tdiv (gcdI nu de)) (de.tdiv (gcdI nu de))
     show Ab.outM Tryz.prog Tryz.f135 (fun u H2 _=>u=V ∧ Ab.Sub (tidy n H) H2) .ret _
     exact outM.ret H2 e1 (vs:=[ratV nu de]) (by simp [-loadA,resultsA,resultA,Tryz.results135,e2]) ⟨by rw [hV]; rfl,e3⟩
def semOk (H:Heap) (u:Value) (ts:List Trc) (W t w win st:Int):Prop:=dR H ∧ trcV H u=some ts ∧ OkS ts ∧ W=(widF ts).1 ∧ (0 ≤ t ∧ t ≤ W - 1) ∧ (1 ≤ w ∧ w ≤ 1000000000) ∧ (0 ≤ win ∧ win ≤ 16) ∧ 0 ≤ st ∧ st ≤ 1024
open Classical in
noncomputable def g135 (args:List Value) (H:Heap) (n:Nat):R:=match args with
 | [.agg ⟨[.string _,u,.int .i64 W]⟩,.int .i64 t,.int .i64 w,.int .i64 win,.int .i64 st]=>match trcV H u with
   | some ts=>if semOk H u ts W t w win st then some (semV ts t w win st,H,n) else none
   | none=>none
 | _=>none
theorem ok135:EntOk Tryz.prog (135,g135):=by
 intro args H n v H' n' h
 simp only [g135] at h
 split at h
 · split at h
   · split at h
     · rename_i hc
       injection h with h; injection h with e1 e2; injection e2 with e2 e3; subst e1 e2 e3
       obtain ⟨h1,h2,h3,rfl,h5,h6,h7,h8⟩:=hc
       exact w135 h1 h2 h3 h5 h6 h7 h8
     · cases h
   · cases h
 · cases h
def semE (s:ByteArray) (ts:List Trc) (t w win st:Int):Int:=firstV [shtE s ts,withinV t 0 (widE s ts - 1),velV w,withinV win 0 16,withinV st 0 1024]
def semR (s:ByteArray) (ts:List Trc) (t w win st:Int):Value:=if semE s ts t w win st=0 then semV ts t w win st else .agg ⟨[iv 0,iv 0]⟩
theorem first5 {a b c d e:Int} (h:firstV [a,b,c,d,e]=0):a=0 ∧ b=0 ∧ c=0 ∧ d=0 ∧ e=0:=
 ⟨first_zero h a (by simp),first_zero h b (by simp),first_zero h c (by simp),first_zero h d (by simp),first_zero h e (by simp)⟩
theorem semV_form (ts:List Trc) (t w win st:Int):∃ a b,semV ts t w win st = .agg ⟨[iv a,iv b]⟩:=by
 unfold semV
 split
 · exact ⟨_,_,rfl⟩
 · exact ⟨_,_,rfl⟩
theorem build96z {fr:Fr} {H:Heap} {n:Nat}:opBuild Tryz.prog 96 #[] fr H n=some (.agg ⟨[iv 0,iv 0]⟩,H,n):=by kernel_rfl
set_option maxHeartbeats 3200000 in
set_option maxRecDepth 100000 in
theorem w61 {H:Heap} {n:Nat} {v:Value} {s:ByteArray} {ts:List Trc} {t w win st:Int} (hR:dR H) (hv:shtV H v=some (s,ts)):AC Tryz.prog 61 [v,iv t,iv w,iv win,iv st] H n (.tuple #[semR s ts t w win st,iv (semE s ts t w win st)]) H n:=by
 refine AC.given fun hold hsc hgn=>AC.tidied (B:=[]) (by simp) ?_
 replace hv:=shtV_tidy (fun k b h=>(hold k b h).1) hv
 replace hold:=tidy_old hold
 have h1n:1 < n:=by rw [gsz] at hgn; omega
 replace hR:hget (tidy n H) 1=some (.inp 0 rangesV):=hget_tidy.2 ⟨hR,h1n,rfl⟩
 have hr:=recT_ok (P:=Tryz.prog) (l:=[(131,g131),(132,g132),(92,g92),(97,g97),(98,g98),(90,g90),(135,g135)]) (by simp only [List.forall_mem_cons]; exact ⟨ok131,ok132,ok92,ok97,ok98,ok90,ok135,by simp⟩)
 have hr0:=recT_ok (P:=Tryz.prog) (l:=[]) (by simp)
 have hv0:=hv
 obtain ⟨u,rfl,ht⟩:=shtV_form hv
 obtain ⟨oa,c,rfl,hlt,_,_⟩:=trcV_form ht
 have hT:∀ j,n ≤ j → hget (tidy n H) j=none:=fun j hj=>by
   cases hc:hget (tidy n H) j with
   | none=>rfl
   | some b=>exact absurd (tidy_lt _ _ hc) (by omega)
 obtain ⟨X,hX⟩:∃ X,(n + 1,Blk.cells [iv 0,iv 0] 96) :: (n,Blk.cells [.string s,.slice oa ts.length c] 110) :: tidy n H=X:=⟨_,rfl⟩
 have hS:Sub (tidy n H) X:=by rw [← hX]; exact (Sub.cons (hT _ (Nat.le_refl _)) (Sub.refl _)).trans (Sub.cons (by rw [hget_cons,if_neg (by omega)]; exact hT _ (by omega)) (Sub.refl _))
 have hnm:namesOk (n + 2) X=true:=by rw [← hX]; exact namesOk_put (by omega) (namesOk_put (by omega) (by simp))
 have hbx:hget X n=some (.cells [.string s,.slice oa ts.length c] 110):=by rw [← hX,hget_cons,if_neg (by omega),hget_cons,if_pos rfl]
 have hbr:hget X (n + 1)=some (.cells [iv 0,iv 0] 96):=by rw [← hX,hget_cons,if_pos rfl]
 have hXlt:∀ k b,hget X k=some b → k < n + 2:=fun k b hk=>namesOk_iff.1 hnm (k,b) (hget_mem _ _ _ hk)
 have hXn:∀ j,n + 2 ≤ j → hget X j=none:=fun j hj=>by
   cases hc:hget X j with
   | none=>rfl
   | some b=>exact absurd (hXlt _ _ hc) (by omega)
 have hld:=load110 hbx
 have hRX:dR X:=hS _ _ hR
 have hE:semE s ts t w win st=firstV [shtE s ts,withinV t 0 (widE s ts - 1),velV w,withinV win 0 16,withinV st 0 1024]:=rfl
 have hRL:semR s ts t w win st=if semE s ts t w win st=0 then semV ts t w win st else .agg ⟨[iv 0,iv 0]⟩:=rfl
 obtain ⟨r0,hr0'⟩:∃ r,semR s ts t w win st=r:=⟨_,rfl⟩
 rw [hr0'] at hRL ⊢
 have hwd:-1000000 ≤ widE s ts ∧ widE s ts ≤ 1000000:=by
   unfold widE
   split
   · rename_i h
     have:=(shtE_ok h).w0
     omega
   · omega
 have hWd:widE s ts=if shtE s ts=0 then (widF ts).1 else 0:=rfl
 have h131:∀ m,g131 [.agg ⟨[.string s,.slice oa ts.length c]⟩] X m=some (.tuple #[.agg ⟨[.string s,.slice oa ts.length c,iv (widE s ts)]⟩,iv (shtE s ts)],X,m):=fun m=>by
   simp only [g131,shtV_mono hS hv0,hRX,and_self,if_true]
 have hsh:shtE s ts=0 → OkS ts:=shtE_ok
 obtain ⟨W,hW⟩:∃ W,widE s ts=W:=⟨_,rfl⟩
 obtain ⟨e0,he0⟩:∃ e,shtE s ts=e:=⟨_,rfl⟩
 obtain ⟨el,hel⟩:∃ e,semE s ts t w win st=e:=⟨_,rfl⟩
 rw [hW] at h131 hE hwd hWd
 rw [he0] at h131 hE hsh hWd
 rw [hel] at hE hRL ⊢
 have h132:∀ Y m,g132 [.agg ⟨[.string s,.slice oa ts.length c,iv W]⟩,iv t] Y m=some (iv (withinV t 0 (W - 1)),Y,m):=fun Y m=>by
   simp only [g132,hwd,and_self,if_true]
 have hI5:∀ (N:Nat) (Y:Heap) m,g90 [.slice (some ⟨N,0,none⟩) 5 5] ((N,.cells [iv e0,iv (withinV t 0 (W - 1)),iv (velV w),iv (withinV win 0 16),iv (withinV st 0 1024)] 29) :: Y) m=some (iv el,(N,.cells [iv e0,iv (withinV t 0 (W - 1)),iv (velV w),iv (withinV win 0 16),iv (withinV st 0 1024)] 29) :: Y,m):=fun N Y m=>by
   simp [g90,intsAt,intsOf,hE]
 have haf:af (.tuple #[r0,iv el])=true:=by
   rw [hRL]
   split
   · obtain ⟨a,b,e⟩:=semV_form ts t w win st
     rw [e]
     rfl
   · rfl
 refine AC.pure Tryz.func61 rfl (by kernel_rfl) rfl [1,2,3,4,5,10,11,12] haf ?_
 refine E.seq (E.reg hr (by simp; rfl) ?_)
 rw [hX]
 refine E.seq (E.reg hr (by simp [-loadA,hld,h131]; rfl) ?_)
 refine E.seq (E.seq ?_)
 have hld2:=load196 (H:=(n + 2,Blk.cells [.string s,.slice oa ts.length c,iv W] 196) :: X) (n:=n + 2) (s:=s) (u:=.slice oa ts.length c) (W:=W) (by rw [hget_cons,if_pos rfl])
 have h92:∀ Y m,g92 [iv w] Y m=some (iv (velV w),Y,m):=fun _ _=>rfl
 have h97:∀ Y m,g97 [iv win] Y m=some (iv (withinV win 0 16),Y,m):=fun _ _=>rfl
 have h98:∀ Y m,g98 [iv st] Y m=some (iv (withinV st 0 1024),Y,m):=fun _ _=>rfl
 refine E.reg hr (by simp [-loadA,hld2,h132,h92,h97,h98,hI5]; rfl) ?_
 obtain ⟨G,hG⟩:∃ G,(n + 2,Blk.cells [.string s,.slice oa ts.length c,iv W] 196) :: X=G:=⟨_,rfl⟩
 have hXG:Sub X G:=by rw [← hG]; exact Sub.cons (hXn _ (Nat.le_refl _)) (Sub.refl _)
 have hSG:=hS.trans hXG
 have hGb:hget G (n + 2)=some (.cells [.string s,.slice oa ts.length c,iv W] 196):=by rw [← hG,hget_cons,if_pos rfl]
 have hGr:=hXG _ _ hbr
 refine E.lead { fr:=[(1,iv t),(2,iv w),(3,iv win),(4,iv st),(10,ptA (n + 1)),(12,ptA (n + 2)),(14,iv el)],sz:=42,H:=G,n:=n + 4,marks:=[],vs:=[1,2,3,4,5,10,11,12] } (.keep rfl rfl rfl (by simp) (by rw [← hG]; exact Sub.cons (by rw [hget_cons,if_neg (by omega)]; exact hXn _ (by omega)) (Sub.refl _))) ?_
 have hst:∀ a b:Value,storeA G (n + 1) 0 [a,b]=some (hset G (n + 1) (.cells [a,b] 96)):=fun a b=>store_all hGr rfl
 have hfin:∀ a b:Value,loadA Tryz.prog 96 (hset G (n + 1) (.cells [a,b] 96)) (.pointer (some ⟨n + 1,0,none⟩))=some (.agg ⟨[a,b]⟩):=fun a b=>load96 (by rw [hget_hset,if_pos rfl,hGr]; rfl)
 have hsb:∀ b,Sub (tidy n H) (hset G (n + 1) b):=fun b=>sub_hset hSG (hT _ (by omega))
 refine E.seq (E.reg hr0 (by simp; rfl) ?_)
 by_cases hz:el=0
 · rw [if_pos hz] at hRL
   rw [hz] at hE
   obtain ⟨f1,f2,f3,f4,f5⟩:=first5 hE.symm
   rw [if_pos f1] at hWd
   have hok:=hsh f1
   have g2:=within_zero f2
   have g3:1 ≤ w ∧ w ≤ 1000000000:=within_zero f3
   have g4:=within_zero f4
   have g5:=within_zero f5
   refine E.cond (t:=false) (by simp [hz]) (fun h=>by cases h) (fun _=>?_)
   refine E.skip (E.seq ?_)
   have hld3:=load196 hGb
   obtain ⟨a,b,hab⟩:=semV_form ts t w win st
   have h135:∀ m,g135 [.agg ⟨[.string s,.slice oa ts.length c,iv W]⟩,iv t,iv w,iv win,iv st] G m=some (.agg ⟨[iv a,iv b]⟩,G,m):=fun m=>by
     have h1:=listV_mono decT_mono hSG ht
     have h2:semOk G (.slice oa ts.length c) ts W t w win st:=⟨hSG _ _ hR,h1,hok,hWd,g2,g3,g4,g5⟩
     simp only [g135,h1,h2,if_true,hab]
   refine E.reg hr (by simp [-loadA,-storeA,hld3,h135,hst]; rfl) ?_
   refine E.ret ?_
   exact pureK.ret rfl (vs:=[.agg ⟨[iv a,iv b]⟩,iv 0]) (by simp [-loadA,resultsA,resultA,Tryz.results61,hfin]) (by rw [hRL,hab,hz]; rfl) (hsb _)
 · rw [if_neg hz] at hRL
   refine E.cond (t:=true) (by simp [hz]) (fun _=>?_) (fun h=>by cases h)
   refine E.seq (E.reg hr (by simp [-storeA,build96z,hst]; rfl) ?_)
   refine E.ret ?_
   exact pureK.ret rfl (vs:=[.agg ⟨[iv 0,iv 0]⟩,iv el]) (by simp [-loadA,resultsA,resultA,Tryz.results61,hfin]) (by rw [hRL]; rfl) (hsb _)
open Classical in
noncomputable def g61 (args:List Value) (H:Heap) (n:Nat):R:=match args with
 | [v,.int .i64 t,.int .i64 w,.int .i64 win,.int .i64 st]=>match shtV H v with
   | some x=>if dR H then some (.tuple #[semR x.1 x.2 t w win st,iv (semE x.1 x.2 t w win st)],H,n) else none
   | none=>none
 | _=>none
theorem ok61:EntOk Tryz.prog (61,g61):=by
 intro args H n v H' n' h
 simp only [g61] at h
 split at h
 · split at h
   · rename_i x hx
     split at h
     · rename_i hR
       injection h with h; injection h with e1 e2; injection e2 with e2 e3; subst e1 e2 e3
       exact w61 (s:=x.1) (ts:=x.2) hR hx
     · cases h
   · cases h
 · cases h
theorem tcs_set:∀ {ts:List Trc} {rs:List Value} (i:Nat) {v:Value},ts.length=rs.length → (∀ x ∈ ts,x.hd.length=8) → i < ts.length → (tcs ts rs).set (i * 10 + 9) v=tcs ts (rs.set i v)
 | x :: ts,r :: rs,0,v,_,h8,_=>by
   have h:=h8 x (List.mem_cons_self ..)
   rw [Nat.zero_mul,Nat.zero_add,tcs,List.set_cons_zero,tcs,List.set_append_left _ _ (by rw [tc_len h]; omega)]
   congr 1
   rw [tc,tc,List.set_append_right _ _ (by rw [List.length_map,h]; omega),List.length_map,h]
   rfl
 | x :: ts,r :: rs,i + 1,v,hl,h8,hi=>by
   have h:=h8 x (List.mem_cons_self ..)
   rw [tcs,List.set_cons_succ,tcs,List.set_append_right _ _ (by rw [tc_len h]; omega),tc_len h,show (i + 1) * 10 + 9 - 10=i * 10 + 9 by omega,tcs_set i (by simpa using hl) (fun y hy=>h8 y (List.mem_cons_of_mem _ hy)) (by simpa using hi)]
 | [],_,_,_,_,_,hi=>by simp at hi
 | _ :: _,[],_,_,hl,_,_=>by simp at hl
theorem tcs_of {H:Heap}:∀ (ts:List Trc) (cs:List Value),cs.length=ts.length * 10 → mapO (decT H) (chunks 10 ts.length cs)=some ts → ∃ rs:List Value,ts.length=rs.length ∧ cs=tcs ts rs ∧ (∀ x ∈ ts,x.hd.length=8) ∧ ∀ (i:Nat) r x,rs[i]? = some r → ts[i]? = some x → reaV H r=some x.smp
 | [],cs,hl,_=>⟨[],rfl,List.eq_nil_of_length_eq_zero (by simpa using hl),fun x hx=>(by cases hx),fun i r x h=>by simp at h⟩
 | x :: ts,cs,hl,h=>by
   rw [List.length_cons,chunks] at h
   simp only [mapO] at h
   split at h
   · rename_i y ys h1 h2
     injection h with h
     injection h with h3 h4
     subst h3 h4
     obtain ⟨s,e,h8,hs⟩:=decT_form h1
     obtain ⟨rs,e1,e2,e3,e4⟩:=tcs_of ys (cs.drop 10) (by rw [List.length_drop,hl,List.length_cons]; omega) h2
     refine ⟨s :: rs,by simp [e1],?_,fun z hz=>?_,fun i r z hr hz=>?_⟩
     · rw [tcs,← e2,show tc y s=List.take 10 cs from e.symm,List.take_append_drop]
     · rcases List.mem_cons.1 hz with rfl | hz
       · exact h8
       · exact e3 z hz
     · cases i with
       | zero=>simp at hr hz; subst hr hz; exact hs
       | succ i=>exact e4 i r z (by simpa using hr) (by simpa using hz)
   · cases h
theorem trc_cells_all {H:Heap} {a:Addr} {c:Nat} {ts:List Trc} (h:trcV H (.slice (some a) ts.length c)=some ts) (hne:ts ≠ []):flat a=true ∧ ∃ rs:List Value,ts.length=rs.length ∧ cellsA H a.block a.off (ts.length * 10)=some (tcs ts rs) ∧ (∀ x ∈ ts,x.hd.length=8) ∧ ∀ (i:Nat) r x,rs[i]? = some r → ts[i]? = some x → reaV H r=some x.smp:=by
 have h:(if ts.length < 2147483648 then (if ts.length=0 then some [] else if flat a=true then (cellsA H a.block a.off (ts.length * 10)).bind fun cs=>mapO (decT H) (chunks 10 ts.length cs) else none) else none)=some ts:=h
 split at h
 · rw [if_neg fun e=>hne (List.length_eq_zero_iff.1 e)] at h
   split at h
   · rename_i hf
     rw [Option.bind_eq_some_iff] at h
     obtain ⟨cs,h1,h2⟩:=h
     obtain ⟨rs,e1,e2,e3,e4⟩:=tcs_of ts cs (cellsA_at h1).1 h2
     exact ⟨hf,rs,e1,by rw [h1,e2],e3,e4⟩
   · cases h
 · cases h
theorem inf159:Tryz.prog.info? 159=some Tryz.t159:=by kernel_rfl
theorem inf145:Tryz.prog.info? 145=some Tryz.t145:=by kernel_rfl
theorem rep_rv (w:Nat):((Array.range (w * 1)).map ((if w * 1=0 then #[] else #[rv 0])[· % (if w * 1=0 then #[] else #[rv 0]).size]!)).toList=(List.replicate w 0).map rv:=by
 rw [List.map_replicate]
 refine List.eq_replicate_iff.2 ⟨by simp,fun x hx=>?_⟩
 simp only [Array.toList_map,List.mem_map,Array.toList_range,List.mem_range] at hx
 obtain ⟨i,hi,rfl⟩:=hx
 rw [if_neg (by omega)]
 simp [Nat.mod_one]
theorem mk126 {fr:Fr} {H:Heap} {n:Nat} {x y:Operand} {w:Nat} (h1:w ≤ 1024) (hx:evO Tryz.prog fr x=some (iv w)) (hy:evO Tryz.prog fr y=some (iv w)):opMakeslice Tryz.prog 126 x y fr H n=some (.slice (some ⟨n,0,none⟩) w w,(n,.cells ((List.replicate w 0).map rv) 145) :: H,n + 1):=by
 unfold opMakeslice
 rw [hx,hy,Tryz.underlying126]
 have hz:Tryz.t145.zero=some (rv 0):=by kernel_rfl
 have hb:Tryz.t145.bytes=4:=by kernel_rfl
 have hs:Tryz.t145.size=1:=by kernel_rfl
 simp only [inf145,hz,hb,hs]
 have hc:(0 ≤ (w:Int) ∧ (w:Int) ≤ w ∧ (smallA 4 (w:Int).toNat && afL (rv 0).cells.toList)=true):=⟨by omega,Int.le_refl _,by simp [smallA]; omega⟩
 rw [if_pos hc]
 unfold newA
 rw [Int.toNat_natCast,show (rv 0).cells=#[rv 0] from rfl,rep_rv]
theorem w134 {n':Int} (h:n'.natAbs < 16777216):AC Tryz.prog 134 [iv n'] [] 9 (rv (sampB n')) [] 9:=by
 have hr:=recT_ok (P:=Tryz.prog) (l:=[]) (by simp)
 obtain ⟨r,h1,h2⟩:=smp_told (n:=n') h
 have h3:sampB n'=r:=by
   unfold sampB sampQ
   rw [show FloatKind.f32.format=Ieee.single from rfl,h1]
   rfl
 have hcv:runP Tryz.prog (convert 3 145 (iv n'))=some (rv (FloatKind.f32.nearest n')):=by kernel_rfl
 refine AC.pure Tryz.func134 rfl (by kernel_rfl) rfl [] rfl ?_
 refine E.seq (E.reg hr (by simp; rfl) ?_)
 refine E.seq (E.reg hr (by simp [opConvert,hcv,bin_fdiv (k:=.f32) h1]; rfl) ?_)
 refine E.ret ?_
 exact pureK.ret rfl rfl (by rw [h3]; rfl) (sub_refl _)
def g134 (args:List Value) (H:Heap) (n:Nat):R:=match args with
 | [.int .i64 a]=>if a.natAbs < 16777216 then some (rv (sampB a),H,n) else none
 | _=>none
theorem ok134:EntOk Tryz.prog (134,g134):=by
 intro args H n v H' n' h
 simp only [g134] at h
 split at h
 · split at h
   · rename_i hc
     injection h with h; injection h with e1 e2; injection e2 with e2 e3; subst e1 e2 e3
     exact AC.liftP rfl (Part.plain (by simp) [] (by simp [Seen]) gsz ⟨_,_,w134 hc⟩)
   · cases h
 · cases h
def corB (ts:List Trc) (w st:Int) (t i:Nat):Nat:=if livB ts t w st i then sampB (smpN ts t w i) else 0
def corG (ts:List Trc) (w st:Int) (W:Nat) (d:Nat → Nat → Bool):List Trc:=ts.mapIdx fun i x=>⟨x.hd,x.hole,if x.hole then [] else (List.range W).map fun t=>if d i t then corB ts w st t i else 0⟩
theorem corG_at {ts:List Trc} {w st:Int} {W:Nat} {d:Nat → Nat → Bool} {i:Nat} {x:Trc} (h:ts[i]? = some x):(corG ts w st W d)[i]? = some ⟨x.hd,x.hole,if x.hole then [] else (List.range W).map fun t=>if d i t then corB ts w st t i else 0⟩:=by
 unfold corG
 rw [List.getElem?_mapIdx,h]
 rfl
theorem corG_len {ts:List Trc} {w st:Int} {W:Nat} {d:Nat → Nat → Bool}:(corG ts w st W d).length=ts.length:=List.length_mapIdx
theorem corG_congr {ts:List Trc} {w st:Int} {W:Nat} {d e:Nat → Nat → Bool} (h:∀ i t,i < ts.length → t < W → (if d i t then corB ts w st t i else 0)=(if e i t then corB ts w st t i else 0)):corG ts w st W d=corG ts w st W e:=by
 apply List.ext_getElem?
 intro i
 by_cases hi:i < ts.length
 · rw [corG_at (List.getElem?_eq_getElem hi),corG_at (List.getElem?_eq_getElem hi)]
   congr 2
   split
   · rfl
   · refine List.map_congr_left fun t ht=>?_
     exact h i t hi (List.mem_range.1 ht)
 · rw [List.getElem?_eq_none (by rw [corG_len]; omega),List.getElem?_eq_none (by rw [corG_len]; omega)]
theorem range_set {W k b:Nat} {f:Nat → Nat}:((List.range W).map f).set k b=(List.range W).map fun t=>if t=k then b else f t:=by
 apply List.ext_getElem?
 intro j
 rw [List.getElem?_set,List.getElem?_map,List.getElem?_map]
 by_cases hj:j < W
 · rw [List.getElem?_range hj]
   by_cases e:k=j
   · subst e
     rw [if_pos rfl,if_pos (by simpa using hj)]
     simp
   · rw [if_neg e]
     have hne:¬ j=k:=fun h=>e h.symm
     simp [hne]
 · have:(List.range W)[j]? = none:=List.getElem?_eq_none (by simp; omega)
   rw [this]
   split
   · rw [if_neg (by simp; omega)]; rfl
   · rfl
theorem corG_put {ts:List Trc} {w st:Int} {W:Nat} {d:Nat → Nat → Bool} {i k:Nat} (hi:i < ts.length) (hh:ts[i].hole=false):putT (corG ts w st W d) i k (corB ts w st k i)=corG ts w st W fun j t=>d j t || (decide (j=i) && decide (t=k)):=by
 apply List.ext_getElem?
 intro j
 by_cases hj:j < ts.length
 · rw [putT_at (corG_at (List.getElem?_eq_getElem hj)),corG_at (List.getElem?_eq_getElem hj)]
   congr 1
   by_cases e:i=j
   · subst e
     rw [if_pos rfl]
     rw [hh]
     simp only [Bool.false_eq_true,if_false]
     rw [range_set]
     congr 1
     refine List.map_congr_left fun t _=>?_
     by_cases ht:t=k
     · subst ht; simp
     · simp [ht]
   · rw [if_neg e]
     congr 1
     split
     · rfl
     · refine List.map_congr_left fun t _=>?_
       have hne:¬ j=i:=fun h=>e h.symm
       simp [hne]
 · rw [List.getElem?_eq_none (by rw [putT_len,corG_len]; omega),List.getElem?_eq_none (by rw [corG_len]; omega)]
def dn (k i:Nat):Nat → Nat → Bool:=fun j t=>decide (t < k) || (decide (t=k) && decide (j < i))
theorem corG_live {ts:List Trc} {w st:Int} {W k i:Nat} (hi:i < ts.length) (hh:ts[i].hole=false):putT (corG ts w st W (dn k i)) i k (corB ts w st k i)=corG ts w st W (dn k (i + 1)):=by
 rw [corG_put hi hh]
 refine corG_congr fun j t _ _=>?_
 congr 1
 unfold dn
 by_cases h1:t < k
 · simp [h1]
 · by_cases h2:t=k
   · by_cases h3:j < i
     · simp [h2,h3,show j < i + 1 by omega]
     · by_cases h4:j=i
       · simp [h2,h4]
       · simp [h2,h3,h4,show ¬ j < i + 1 by omega]
   · simp [h1,h2]
theorem corG_dead {ts:List Trc} {w st:Int} {W k i:Nat} (hd:livB ts k w st i=false):corG ts w st W (dn k i)=corG ts w st W (dn k (i + 1)):=by
 refine corG_congr fun j t _ _=>?_
 by_cases h:j=i ∧ t=k
 · obtain ⟨rfl,rfl⟩:=h
   have:corB ts w st t j=0:=by unfold corB; rw [hd]; rfl
   rw [this]; simp
 · congr 1
   unfold dn
   by_cases h1:t < k
   · simp [h1]
   · by_cases h2:t=k
     · have h4:j ≠ i:=fun e=>h ⟨e,h2⟩
       by_cases h3:j < i
       · simp [h2,h3,show j < i + 1 by omega]
       · simp [h2,h3,show ¬ j < i + 1 by omega]
     · simp [h1,h2]
theorem corG_next {ts:List Trc} {w st:Int} {W k:Nat}:corG ts w st W (dn k ts.length)=corG ts w st W (dn (k + 1) 0):=by
 refine corG_congr fun j t hj _=>?_
 congr 1
 unfold dn
 by_cases h1:t < k
 · simp [h1,show t < k + 1 by omega]
 · by_cases h2:t=k
   · simp [h2,hj]
   · simp [h1,h2,show ¬ t < k + 1 by omega]
end Go.Proofs.YtkongcnmkiihjaaGreatDoor
namespace Go.Ab
open Go
structure MadeS (H:Heap) (n:Nat) (H':Heap) (n':Nat) (u:Value) (x:ByteArray × List Trc):Prop where
 app:∃ B,H'=B ++ H ∧ (∀ b ∈ B,n ≤ b.1 ∧ b.1 < n') ∧ plainH B=true
 le:n ≤ n'
 view:shtV H' u=some x
theorem shtV_mk {H:Heap} {s:ByteArray} {l:Value} {ts:List Trc} (h:trcV H l=some ts):shtV H (.agg ⟨[.string s,l]⟩)=some (s,ts):=by
 show (trcV H l).map (fun ts=>(s,ts))=_
 rw [h]
 rfl
theorem made_sht {P : Program} {f : FuncId} {fn : Func} {c : Code} {args : List Value} {H : Heap} {n : Nat} {vf : Value → Value} {s : ByteArray} {ts : List Trc} (hf : P.funcs[f]? = some fn) (hb : fn.body = some c) (he : enterable P f = true) (hlen : Nat.ble args.length fn.ntmps = true) (vs : List Nat) (hlt : ∀ k b, hget H k = some b → k < n) (hvf : ∀ u, af (vf u) = af u) (hl : ts.length < 2147483648) (hls : ∀ x ∈ ts, x.smp.length < 2147483648)
   (h:E P n none c { fr:=argsFr args 0,sz:=fn.ntmps,H:=tidy n H,n,marks:=[],vs } (Ab.outM P fn fun v Z N=>∃ F t tb tf kb rs o,v=vf (.agg ⟨[.string s,outrV F o ts.length]⟩) ∧ (ts=[] → F=true) ∧ MS F (tidy n H) n t tb tf kb s ts rs Z N o)):∃ u H' n',AC P f args H n (vf u) H' n' ∧ MadeS H n H' n' u (s,ts):=by
 obtain ⟨v,H1,n1,Z,hAC,⟨F,t,tb,tf,kb,rs,o,rfl,hF,hM⟩,h1,h2⟩:=AC.outM hf hb he hlen vs h
 have hTlt:∀ k b,hget (tidy n H) k=some b → k < n:=fun k b hk=>tidy_lt _ _ hk
 by_cases h0:ts=[]
 · subst h0
   have hF:=hF rfl
   subst hF
   have ha:af (vf (.agg ⟨[.string s,outrV true o 0]⟩))=true:=by rw [hvf]; rfl
   have h3:AC P f args (tidy n H) n (vf (.agg ⟨[.string s,outrV true o 0]⟩)) (tidy n H) n:=hAC.tidy ha fun k b hk=>h2 k b hTlt hk (hM.sub k b hk)
   exact ⟨_,H,n,AC.tidied (B:=[]) (by simp) h3,⟨[],rfl,by simp,rfl⟩,Nat.le_refl _,rfl⟩
 · have ha:af (vf (.agg ⟨[.string s,outrV F o ts.length]⟩))=false:=by
     rw [hvf]
     have hne:ts.length ≠ 0:=fun e=>h0 (List.length_eq_zero_iff.1 e)
     cases F with
     | true=>
       show af (.agg ⟨[.string s,outS o ts.length]⟩)=false
       rw [outS_ne hne]
       rfl
     | false=>rfl
   obtain rfl:=h1 ha
   have h3:=AC.canon hlt hAC hM.sub
   obtain ⟨N,hN⟩:∃ N,n1=N:=⟨_,rfl⟩
   refine ⟨_,_,_,h3,⟨news n H1,rfl,fun b hb=>?_,plainH_mem fun x hx=>(news_mem hx).2.1⟩,hM.big,?_⟩
   · obtain ⟨g1,_,g3⟩:=news_mem hb
     exact ⟨g1,namesOk_iff.1 hM.nm _ (hget_mem _ _ _ g3)⟩
   · refine shtV_mk (hM.view (fun k b hk hp hg=>?_) hl hls)
     rw [hget_app,news_get hg hk hp]
theorem made_shtM {P : Program} {f : FuncId} {fn : Func} {c : Code} {args : List Value} {H : Heap} {n t tb tf : Nat} {F : Bool} {s : ByteArray} {ts : List Trc} (hf : P.funcs[f]? = some fn) (hb : fn.body = some c) (he : enterable P f = true) (hlen : Nat.ble args.length fn.ntmps = true) (vs : List Nat) (hlt : ∀ k b, hget H k = some b → k < n) (hl : ts.length < 2147483648) (hls : ∀ x ∈ ts, x.smp.length < 2147483648) (hne : ts ≠ [])
   (h:E P n none c { fr:=argsFr args 0,sz:=fn.ntmps,H:=tidy n H,n,marks:=[],vs } (Ab.outM P fn fun v Z N=>∃ kb rs o,v = .agg ⟨[.string s,outrV F o ts.length]⟩ ∧ MS F (tidy n H) n t tb tf kb s ts rs Z N o)):∃ u H' n',AC P f args H n u H' n' ∧ MadeS H n H' n' u (s,ts) ∧ ∃ kb rs o,u = .agg ⟨[.string s,outrV F o ts.length]⟩ ∧ MS F (tidy n H) n t tb tf kb s ts rs H' n' o:=by
 obtain ⟨v,H1,n1,Z,hAC,⟨kb,rs,o,rfl,hM⟩,h1,h2⟩:=AC.outM hf hb he hlen vs h
 have hn0:ts.length ≠ 0:=fun e=>hne (List.length_eq_zero_iff.1 e)
 have ha:af (.agg ⟨[.string s,outrV F o ts.length]⟩)=false:=by
   cases F with
   | true=>
     show af (.agg ⟨[.string s,outS o ts.length]⟩)=false
     rw [outS_ne hn0]
     rfl
   | false=>rfl
 obtain rfl:=h1 ha
 have h3:=AC.canon hlt hAC hM.sub
 have hup:∀ k b,n ≤ k → plainB2 b=true → hget H1 k=some b → hget (news n H1 ++ H) k=some b:=fun k b hk hp hg=>by
   rw [hget_app,news_get hg hk hp]
 have hnm:namesOk n1 (news n H1 ++ H)=true:=namesOk_iff.2 fun x hx=>by
   rcases List.mem_append.1 hx with hx | hx
   · exact namesOk_iff.1 hM.nm _ (hget_mem _ _ _ (news_mem hx).2.2)
   · have hb:=hM.big
     cases hg:hget H x.1 with
     | none=>
       exfalso
       have:∀ (H:Heap),x ∈ H → hget H x.1 ≠ none:=fun H=>by
         induction H with
         | nil=>intro h; cases h
         | cons y H ih=>
           intro h
           obtain ⟨j,b⟩:=y
           rw [hget_cons]
           split
           · intro e; cases e
           · rename_i hj
             rcases List.mem_cons.1 h with e | h
             · exact absurd (by rw [e]) hj
             · exact ih h
       exact this H hx hg
     | some b=>have:=hlt _ _ hg; omega
 refine ⟨_,_,_,h3,⟨⟨news n H1,rfl,fun b hb=>?_,plainH_mem fun x hx=>(news_mem hx).2.1⟩,hM.big,?_⟩,kb,rs,o,rfl,?_⟩
 · obtain ⟨g1,_,g3⟩:=news_mem hb
   exact ⟨g1,namesOk_iff.1 hM.nm _ (hget_mem _ _ _ g3)⟩
 · exact shtV_mk (hM.view hup hl hls)
 · refine ⟨fun k b hk=>?_,hnm,hM.big,hM.len,hM.h8,fun h0=>?_,hup _ _ hM.kbn.1 rfl hM.box,hM.kbn,fun i x r hx hr=>?_,hM.sep⟩
   · rw [hget_app]
     cases hc:hget (news n H1) k with
     | none=>exact (hget_tidy.1 hk).1
     | some c=>
       have:=(news_mem (hget_mem _ _ _ hc)).1
       have:=(hget_tidy.1 hk).2.1
       dsimp only at *
       omega
   · obtain ⟨g1,g2,g3,g4⟩:=hM.out h0
     exact ⟨hup _ _ g2 outrB_pl g1,g2,g3,g4⟩
   · obtain ⟨g1,g2,g3⟩:=hM.row i x r hx hr
     refine ⟨?_,g2,g3⟩
     rcases g1 with ⟨rfl,e⟩ | ⟨m,mk,k1,k2,rfl,k3⟩
     · exact .inl ⟨rfl,e⟩
     · exact .inr ⟨m,mk,k1,k2,rfl,hup _ _ k1 rowV_pl k3⟩
theorem E.partW {P : Program} {n0 : Nat} {ro : Option Nat} {c : Code} {K : Ex → St → Prop} {st : St} {fr : Fr} {sz n : Nat} {marks vs : List Nat} {H1 H2 : Heap}
   (h:E P st.n ro c { st with H:=tidy st.n st.H } fun e s=>e = .normal ∧ s=⟨fr,sz,H1,n,marks,vs⟩) (h2:∀ k b,hget H2 k=some b → hget H1 k=some b ∨ (hget st.H k=some b ∧ hget (tidy st.n st.H) k=none)) (k:K .normal ⟨fr,sz,H2,n,marks,vs⟩):E P n0 ro c st K:=by
 obtain ⟨e,s',hat,rfl,rfl⟩:=E.toEx (s:={ st with H:=tidy st.n st.H }) h
 have hf:=AT.frameP (st:={ st with H:=tidy st.n st.H }) (st':=⟨fr,sz,H1,n,marks,vs⟩) (H:=st.H) (H2:=H2) hat (fun k b hk=>(hget_tidy.1 hk).1) h2
 exact E.at hf k
theorem tidy_none {H:Heap} {n k:Nat} {b:Blk} (_hlt:∀ k b,hget H k=some b → k < n) (hk:hget H k=some b) (hp:plainB2 b=false):hget (tidy n H) k=none:=by
 cases hc:hget (tidy n H) k with
 | none=>rfl
 | some c=>
   have:=hget_tidy.1 hc
   rw [hk] at this
   obtain ⟨h1,_,h3⟩:=this
   injection h1 with h1
   subst h1
   rw [hp] at h3
   cases h3
theorem tidy_set {H:Heap} {n m:Nat} {x:Blk} (hlt:∀ k b,hget H k=some b → k < n):∀ k b,hget (hset H m x) k=some b → hget (hset (tidy n H) m x) k=some b ∨ (hget H k=some b ∧ hget (tidy n H) k=none) ∨ (k=m ∧ hget (tidy n H) m=none):=fun k b hk=>by
 rw [hget_hset] at hk
 by_cases e:m=k
 · subst e
   rw [if_pos rfl] at hk
   cases hc:hget (tidy n H) m with
   | none=>exact .inr (.inr ⟨rfl,rfl⟩)
   | some y=>
     rw [Option.map_eq_some_iff] at hk
     obtain ⟨z,_,rfl⟩:=hk
     exact .inl (by rw [hget_hset,if_pos rfl,hc]; rfl)
 · rw [if_neg e] at hk
   by_cases hp:plainB2 b=true
   · exact .inl (by rw [hget_hset,if_neg e]; exact hget_tidy.2 ⟨hk,hlt k b hk,hp⟩)
   · exact .inr (.inl ⟨hk,tidy_none hlt hk (by simpa using hp)⟩)
theorem Kp.write {B H:Heap} {b N:Nat} {fs:List (Nat × Blk)} (h:Kp B b fs H N) {m:Nat} {x:Blk} (hB:hget B m=none) (hf:∀ (i:Nat) y,fs[i]? = some y → y.1 ≠ m):Kp B b fs (hset H m x) N:=
 ⟨sub_hset h.sub hB,namesOk_hset h.nm,h.big,h.bl,h.low,h.nd,fun i y hy=>by
   rw [hget_hset,if_neg fun e=>hf i y hy e.symm]
   exact h.at' i y hy⟩
@[simp] theorem handA_nn:∀ H:Heap,handA [] [] H=[]
 | []=>rfl
 | (k,b) :: H=>by simp only [handA,memN,handA_nn H]
theorem storeA_form {H H':Heap} {b off:Nat} {vs:List Value} (h:storeA H b off vs=some H'):∃ x,H'=hset H b x:=by
 unfold storeA at h
 split at h
 · split at h
   · injection h with h; exact ⟨_,h.symm⟩
   · cases h
 · split at h
   · injection h with h; exact ⟨_,h.symm⟩
   · cases h
 · cases h
theorem RowOk.wide {tf:Nat} {H G:Heap} {n N N':Nat} {r:Value} {bs:List Nat} (h:RowOk tf H n N r bs) (hs:Sub H G) (hN:N ≤ N'):RowOk tf G n N' r bs:=by
 rcases h with ⟨rfl,rfl⟩ | ⟨m,mk,h1,h2,rfl,h3⟩
 · exact .inl ⟨rfl,rfl⟩
 · exact .inr ⟨m,mk,h1,by omega,rfl,hs _ _ h3⟩
theorem RowOk.low {tf:Nat} {H:Heap} {n n' N:Nat} {r:Value} {bs:List Nat} (h:RowOk tf H n N r bs) (hn:n' ≤ n):RowOk tf H n' N r bs:=by
 rcases h with ⟨rfl,rfl⟩ | ⟨m,mk,h1,h2,rfl,h3⟩
 · exact .inl ⟨rfl,rfl⟩
 · exact .inr ⟨m,mk,by omega,h2,rfl,h3⟩
section
variable {F:Bool} {L Hx G:Heap} {n t tb tf kb N N' o:Nat} {s:ByteArray} {ts:List Trc} {rs:List Value}
theorem MS.wide (h:MS F L n t tb tf kb s ts rs Hx N o) (hs:Sub Hx G) (hn:namesOk N' G=true) (hN:N ≤ N'):MS F L n t tb tf kb s ts rs G N' o:=by
 have hb:=h.big
 have hk:=h.kbn
 refine ⟨h.sub.trans hs,hn,by omega,h.len,h.h8,fun h0=>?_,hs _ _ h.box,by omega,fun i x r hx hr=>?_,h.sep⟩
 · obtain ⟨h1,h2,h3,h4⟩:=h.out h0
   exact ⟨hs _ _ h1,h2,by omega,h4⟩
 · obtain ⟨h1,h2,h3⟩:=h.row i x r hx hr
   exact ⟨h1.wide hs hN,h2,h3⟩
theorem MS.tidy (h:MS F L n t tb tf kb s ts rs Hx N o) (hL:∀ k b,hget L k=some b → k < N ∧ plainB2 b=true):MS F L n t tb tf kb s ts rs (Ab.tidy N Hx) N o:=by
 have hb:=h.big
 have hk:=h.kbn
 refine ⟨fun k b hk=>hget_tidy.2 ⟨h.sub k b hk,(hL k b hk).1,(hL k b hk).2⟩,namesOk_tidy,hb,h.len,h.h8,fun h0=>?_,hget_tidy.2 ⟨h.box,hk.2,rfl⟩,hk,fun i x r hx hr=>?_,h.sep⟩
 · obtain ⟨h1,h2,h3,h4⟩:=h.out h0
   exact ⟨hget_tidy.2 ⟨h1,h3,outrB_pl⟩,h2,h3,h4⟩
 · obtain ⟨h1,h2,h3⟩:=h.row i x r hx hr
   refine ⟨?_,h2,h3⟩
   rcases h1 with ⟨rfl,e⟩ | ⟨m,mk,g1,g2,rfl,g3⟩
   · exact .inl ⟨rfl,e⟩
   · exact .inr ⟨m,mk,g1,g2,rfl,hget_tidy.2 ⟨g3,g2,rowV_pl⟩⟩
theorem MS.at9 (h:MS F L n t tb tf kb s ts rs Hx N o) {i:Nat} {x:Trc} {r:Value} (hx:ts[i]? = some x) (hr:rs[i]? = some r):cellA Hx o (i * 10 + 9)=some r ∧ cellA Hx o (i * 10 + 8)=some (.bool x.hole):=by
 have hne:ts ≠ []:=fun e=>by rw [e] at hx; cases hx
 obtain ⟨h1,_⟩:=h.out hne
 have h8:=h.h8 x (List.mem_of_getElem? hx)
 have h2:=tcs_at i hx hr h.h8
 have one:∀ j,j < 10 → (tcs ts rs)[i * 10 + j]? = (tc x r)[j]?:=fun j hj=>by
   rw [← h2,List.getElem?_take,if_pos hj,List.getElem?_drop]
 have c:∀ j,cellA Hx o j=(tcs ts rs)[j]?:=fun j=>by
   rw [cellA_eq,h1]
   cases F <;> rfl
 rw [c,c,one 9 (by decide),one 8 (by decide),tc,List.getElem?_append_right (by rw [List.length_map]; omega),List.getElem?_append_right (by rw [List.length_map]; omega),List.length_map,h8]
 exact ⟨rfl,rfl⟩
end
end Go.Ab
namespace Go.Proofs.YtkongcnmkiihjaaGreatDoor
open Go Go.Ab Go.Proofs
def corE (s:ByteArray) (ts:List Trc) (w st:Int):Int:=firstV [shtE s ts,velV w,withinV st 0 1024]
def widN (ts:List Trc):Nat:=(widF ts).1.toNat
def corR (s:ByteArray) (ts:List Trc) (w st:Int):ByteArray × List Trc:=if corE s ts w st=0 then (s,corG ts w st (widN ts) (dn (widN ts) 0)) else (⟨#[]⟩,[])
theorem build110 {fr:Fr} {H:Heap} {n:Nat} {x y:Operand} {s:ByteArray} {a:Option Addr} {l c:Nat} (hx:evO Tryz.prog fr x=some (.string s)) (hy:evO Tryz.prog fr y=some (.slice a l c)):opBuild Tryz.prog 110 #[(0,x),(1,y)] fr H n=some (.agg #[.string s,.slice a l c],H,n):=by
 unfold opBuild
 simp only [evPs_cons,evPs_nil,hx,hy]
 kernel_rfl
theorem build110z {fr:Fr} {H:Heap} {n:Nat}:opBuild Tryz.prog 110 #[] fr H n=some (.agg ⟨[.string ⟨#[]⟩,.slice none 0 0]⟩,H,n):=by kernel_rfl
theorem oneL_app:∀ (a b:List Value),oneL a=true → oneL b=true → oneL (a ++ b)=true
 | [],_,_,h=>h
 | x :: a,b,h1,h2=>by
   cases x <;> first | exact oneL_app a b h1 h2 | cases h1
theorem oneL_tcs:∀ (ts:List Trc) (rs:List Value),(∀ r ∈ rs,isS r=true) → oneL (tcs ts rs)=true
 | [],_,_=>by unfold tcs; rfl
 | _ :: _,[],_=>rfl
 | x :: ts,r :: rs,h=>by
   rw [tcs]
   exact oneL_app _ _ (oneL_tc (h r (List.mem_cons_self ..))) (oneL_tcs ts rs fun q hq=>h q (List.mem_cons_of_mem _ hq))
theorem copy108 {Y : Heap} {o m c : Nat} {a : Addr} {ts : List Trc} {rs zs : List Value} (hf : flat a = true) (hne : ts ≠ []) (ho : hget Y o = some (.cells zs 159)) (hz : zs.length = ts.length * 10) (hl : ts.length = rs.length) (h8 : ∀ x ∈ ts, x.hd.length = 8) (hc : cellsA Y a.block a.off (ts.length * 10) = some (tcs ts rs)) (hrs : ∀ r ∈ rs, isS r = true) :
   builtinA Tryz.prog .copy #[108,108] Y m [.slice (some ⟨o,0,none⟩) ts.length ts.length,.slice (some a) ts.length c]=some (iv ts.length,hset Y o (.cells (tcs ts rs) 159),m):=by
 have hsz:szA Tryz.prog 159=some 10:=sz159
 have hlen:=tcs_len hl h8
 have hst:=store_all (cs:=tcs ts rs) ho (by rw [hlen,hz])
 have hone:=oneL_tcs ts rs hrs
 have h0:¬ ts.length * 10=0:=by
   have:ts.length ≠ 0:=fun e=>hne (List.length_eq_zero_iff.1 e)
   omega
 have hnb:tcs ts rs ≠ []:=fun e=>by
   rw [e,List.length_nil] at hlen
   omega
 have hsrc:srcA Y 10 ts.length (.slice (some a) ts.length c)=some (tcs ts rs):=by
   unfold srcA
   simp only
   rw [if_neg h0,if_pos hf,hc]
 have hmin:Nat.min ts.length ts.length=ts.length:=Nat.min_self _
 obtain ⟨x,xs,hx⟩:∃ x xs,tcs ts rs=x :: xs:=by
   cases hcs:tcs ts rs with
   | nil=>exact absurd hcs hnb
   | cons x xs=>exact ⟨x,xs,rfl⟩
 unfold builtinA
 simp only [List.getElem?_toArray,List.getElem?_cons_zero,Tryz.underlying108,hsz,lenV,hmin,hsrc]
 rw [hx] at hst hone ⊢
 simp only [flat_n,hone,Bool.and_self,if_true,hst]
theorem firstc {a b c:Int} (h:firstV [a,b,c]=0):a=0 ∧ b=0 ∧ c=0:=
 ⟨first_zero h a (by simp),first_zero h b (by simp),first_zero h c (by simp)⟩
def zs108 (L:Nat):List Value:=((Array.range (L * 10)).map ((if L * 10=0 then #[] else (Value.agg #[iv 0,iv 0,iv 0,iv 0,iv 0,iv 0,iv 0,iv 0,.bool false,.slice none 0 0]).cells)[· % (if L * 10=0 then #[] else (Value.agg #[iv 0,iv 0,iv 0,iv 0,iv 0,iv 0,iv 0,iv 0,.bool false,.slice none 0 0]).cells).size]!)).toList
theorem zs108_len (L:Nat):(zs108 L).length=L * 10:=by simp [zs108]
theorem mk108' {fr:Fr} {H:Heap} {n:Nat} {x y:Operand} {L:Nat} (h1:L ≤ 64) (hx:evO Tryz.prog fr x=some (iv L)) (hy:evO Tryz.prog fr y=some (iv L)):opMakeslice Tryz.prog 108 x y fr H n=some (.slice (some ⟨n,0,none⟩) L L,(n,.cells (zs108 L) 159) :: H,n + 1):=by
 unfold opMakeslice
 rw [hx,hy,Tryz.underlying108]
 have hz1:Tryz.t159.zero=some (.agg #[iv 0,iv 0,iv 0,iv 0,iv 0,iv 0,iv 0,iv 0,.bool false,.slice none 0 0]):=by kernel_rfl
 have hz2:afL (Value.agg #[iv 0,iv 0,iv 0,iv 0,iv 0,iv 0,iv 0,iv 0,.bool false,.slice none 0 0]).cells.toList=true:=rfl
 have hb:Tryz.t159.bytes=96:=by kernel_rfl
 have hs:Tryz.t159.size=10:=by kernel_rfl
 simp only [inf159,hz1,hb,hs]
 have hc:(0 ≤ (L:Int) ∧ (L:Int) ≤ L ∧ (smallA 96 (L:Int).toNat && afL (Value.agg #[iv 0,iv 0,iv 0,iv 0,iv 0,iv 0,iv 0,iv 0,.bool false,.slice none 0 0]).cells.toList)=true):=⟨by omega,Int.le_refl _,by rw [hz2]; simp [smallA]; omega⟩
 rw [if_pos hc]
 unfold newA
 rw [Int.toNat_natCast]
 rfl
structure RP (n0:Nat) (ts:List Trc) (W:Nat) (i:Nat) (rs:List Value) (Hx:Heap) (N:Nat):Prop where
 len:ts.length=rs.length
 row:∀ (j:Nat) x r,j < i → ts[j]? = some x → rs[j]? = some r → RowOk 145 Hx n0 N r (if x.hole then [] else List.replicate W 0)
 sep:∀ (j k:Nat) r q,j < i → k < i → j ≠ k → rs[j]? = some r → rs[k]? = some q → nmO r=none ∨ nmO r ≠ nmO q
theorem RP.start {n0:Nat} {ts:List Trc} {W:Nat} {rs:List Value} {Hx:Heap} {N:Nat} (h:ts.length=rs.length):RP n0 ts W 0 rs Hx N:=
 ⟨h,fun j x r hj=>by omega,fun j k r q hj=>by omega⟩
theorem RP.next {n0:Nat} {ts:List Trc} {W i:Nat} {rs:List Value} {Hx Hy:Heap} {N N':Nat} {v:Value} {x:Trc} (h:RP n0 ts W i rs Hx N) (hx:ts[i]? = some x) (hN:N ≤ N') (hg:∀ m b,n0 ≤ m → m < N → hget Hx m=some b → hget Hy m=some b) (hv:RowOk 145 Hy n0 N' v (if x.hole then [] else List.replicate W 0)) (hn:∀ m,nmO v=some m → N ≤ m):RP n0 ts W (i + 1) (rs.set i v) Hy N':=by
 have hi:i < rs.length:=by rw [← h.len]; exact (List.getElem?_eq_some_iff.1 hx).1
 have hrow:∀ (j:Nat) y r,j < i → ts[j]? = some y → rs[j]? = some r → RowOk 145 Hy n0 N' r (if y.hole then [] else List.replicate W 0):=fun j y r hj hy hr=>by
   rcases h.row j y r hj hy hr with ⟨e1,e2⟩ | ⟨m,mk,h1,h2,e,h3⟩
   · exact .inl ⟨e1,e2⟩
   · exact .inr ⟨m,mk,h1,by omega,e,hg m _ h1 h2 h3⟩
 have hlt:∀ (j:Nat) r m,j < i → rs[j]? = some r → nmO r=some m → m < N:=fun j r m hj hr hm=>by
   have hjt:j < ts.length:=by have:=(List.getElem?_eq_some_iff.1 hr).1; rw [h.len]; exact this
   exact ((h.row j _ r hj (List.getElem?_eq_getElem hjt) hr).lt hm).2
 refine ⟨by rw [List.length_set]; exact h.len,fun j y r hj hy hr=>?_,fun j k r q hj hk hjk hr hq=>?_⟩
 · rw [List.getElem?_set] at hr
   by_cases e:i=j
   · subst e
     rw [if_pos rfl,if_pos hi] at hr
     injection hr with hr
     subst hr
     rw [hx] at hy
     injection hy with hy
     subst hy
     exact hv
   · rw [if_neg e] at hr
     exact hrow j y r (by omega) hy hr
 · rw [List.getElem?_set] at hr hq
   by_cases e1:i=j
   · subst e1
     rw [if_pos rfl,if_pos hi] at hr
     injection hr with hr
     subst hr
     rw [if_neg hjk] at hq
     cases hm:nmO v with
     | none=>exact .inl rfl
     | some m=>
       refine .inr fun e=>?_
       have:=hlt k q m (by omega) hq e.symm
       have:=hn m hm
       omega
   · rw [if_neg e1] at hr
     by_cases e2:i=k
     · subst e2
       rw [if_pos rfl,if_pos hi] at hq
       injection hq with hq
       subst hq
       cases hm:nmO r with
       | none=>exact .inl rfl
       | some m=>
         refine .inr fun e=>?_
         have:=hlt j r m (by omega) hr hm
         have:=hn m e.symm
         omega
     · rw [if_neg e2] at hq
       exact h.sep j k r q (by omega) (by omega) hjk hr hq
noncomputable def asg60:Code:=match rfOf (bodyOf' Tryz.f60) with
 | some x=>x.1
 | none=>.skip
noncomputable def bdy60:Code:=match rfOf (bodyOf' Tryz.f60) with
 | some x=>x.2
 | none=>.skip
abbrev vs60:List Nat:=[1,2,6,8,11,13,46,47,72,73]
abbrev fr60 (n N:Nat) (w st:Int) (W k:Nat):Fr:=[(80,fn169 (N + 1)),(1,iv w),(2,iv st),(6,ptA (n + 1)),(8,ptA (n + 2)),(11,ptA (n + 5)),(13,ptA N),(72,iv W),(73,iv k)]
noncomputable abbrev lb60 (fr:Fr) (N:Nat) (ls:LoopState) (pe:Option Code):Blk:=.loop ls pe fr 95 vs60 #[81,82] asg60 bdy60 (N + 5)
noncomputable abbrev fs60 (fr:Fr) (N k:Nat) (ls:LoopState) (pe:Option Code):List (Nat × Blk):=[(N + 5,.defd),(N + 6,lb60 fr N ls pe),(N,.cells [iv k] 3)]
abbrev marksB (ms:List Nat) (X:Heap):Heap:=ms.map (fun m=>(m,Blk.defd)) ++ X
theorem marksB_get:∀ {ms:List Nat} {X:Heap} {k:Nat} {b:Blk},hget (marksB ms X) k=some b → (k ∈ ms ∧ b = .defd) ∨ (k ∉ ms ∧ hget X k=some b)
 | [],X,k,b,h=>.inr ⟨List.not_mem_nil,h⟩
 | m :: ms,X,k,b,h=>by
   rw [marksB,List.map_cons,List.cons_append,hget_cons] at h
   split at h
   · rename_i e; subst e; injection h with h; exact .inl ⟨List.mem_cons_self ..,h.symm⟩
   · rename_i e
     rcases marksB_get h with ⟨h1,h2⟩ | ⟨h1,h2⟩
     · exact .inl ⟨List.mem_cons_of_mem _ h1,h2⟩
     · exact .inr ⟨fun hm=>by rcases List.mem_cons.1 hm with h | h; exact e h.symm; exact h1 h,h2⟩
set_option maxHeartbeats 3200000 in
set_option maxRecDepth 100000 in
theorem yield60 {B L : Heap} {fr : Fr} {n N0 N nr i k : Nat} {s : ByteArray} {_ts us : List Trc} {rs : List Value} {x : Int} {cs : List Value} {Hx : Heap} {T : Trc} {c : Nat}
   (hL:∀ k b,hget L k=some b → k < n ∧ plainB2 b=true) (hfr:lk fr 11=some (ptA (n + 5)) ∧ lk fr 13=some (ptA N0)) (hI:Kp B (N0 + 7) (fs60 fr N0 k .ready none) Hx N) (hM:MS false L n 159 110 145 (n + 5) s us rs Hx N (n + 4)) (hB:∀ m,n + 6 ≤ m → m < nr → hget B m=none) (hnr:n + 6 ≤ nr ∧ nr ≤ N0) (hrs:∀ r ∈ rs,∀ m,nmO r=some m → n + 6 ≤ m ∧ m < nr) (hus:us[i]? = some T) (hx:x.natAbs < 16777216) (hkT:k < T.smp.length) (hlen:us.length=c) (_hT:T.smp.length < 2147483648) (_hc:c < 2147483648) :
   ∃ r b H' N',RecOk Tryz.prog r 0 ∧ yieldF r (N0 + 6) [iv i,iv x] ((N,.cells cs 159) :: Hx) (N + 1)=some (.bool b,H',N') ∧ (b=true ∧ Kp B (N0 + 7) (fs60 fr N0 k .ready none) H' N' ∧ MS false L n 159 110 145 (n + 5) s (putT us i k (sampB x)) rs H' N' (n + 4)):=by
 have hr0:=recT_ok (P:=Tryz.prog) (l:=[]) (by simp)
 have hr:=recT_ok (P:=Tryz.prog) (l:=[(134,g134)]) (by simp [ok134])
 have hL':∀ k b,hget L k=some b → k < n:=fun k b h=>(hL k b h).1
 have hbig:=hI.big
 have hS1:=hI.skip (.cells cs 159)
 have hM1:=hM.skip hL' (.cells cs 159)
 obtain ⟨f1,f2⟩:=hfr
 refine (yieldF_ex (K:=fun b H' N'=>b=true ∧ Kp B (N0 + 7) (fs60 fr N0 k .ready none) H' N' ∧ MS false L n 159 110 145 (n + 5) s (putT us i k (sampB x)) rs H' N' (n + 4)) (hS1.at' 1 _ rfl) rfl (fun c h=>by cases h) (fun c h=>by cases h) ?_)
 refine E.lead { fr:=[(81,iv i),(82,iv x),(11,ptA (n + 5)),(13,ptA N0)],sz:=95,H:=(N,.cells cs 159) :: Hx,n:=N + 1,marks:=[],vs:=vs60 } (.keep rfl rfl rfl (by simp [f1,f2]) (Sub.refl _)) ?_
 refine E.seq (E.reg hr0 (by simp; rfl) ?_)
 refine E.reg hr0 (by simp; rfl) ?_
 refine ⟨rfl,hS1.at' 1 _ rfl,?_⟩
 have hother:∀ {l:Nat} {x:Blk} {us:List Trc} {Hy:Heap} {N':Nat},N0 ≤ l → MS false L n 159 110 145 (n + 5) s us rs Hy N' (n + 4) → MS false L n 159 110 145 (n + 5) s us rs (hset Hy l x) N' (n + 4):=fun {l x us Hy N'} hl h=>h.other (Nat.le_refl _) (namesOk_hset h.nm) (sub_hset h.sub (by
   cases hc:hget L l with
   | none=>rfl
   | some b=>have:=hL' _ _ hc; omega)) fun m _ _ hm=>by
     rw [hget_hset,if_neg]
     rcases hm with rfl | rfl | ⟨r,hr,hm⟩
     · omega
     · omega
     · have:=hrs r hr m hm; omega
 have hY:=hS1.put 1 rfl (lb60 fr N0 .busy none)
 have hMY:=hother (l:=N0 + 6) (x:=lb60 fr N0 .busy none) (by omega) hM1
 obtain ⟨Y,hYe⟩:∃ Y,hset ((N,Blk.cells cs 159) :: Hx) (N0 + 6) (lb60 fr N0 .busy none)=Y:=⟨_,rfl⟩
 rw [hYe] at hY hMY ⊢
 have hYlt:=hY.lt
 obtain ⟨r,hr'⟩:∃ r,rs[i]? = some r:=by
   have hi:i < us.length:=(List.getElem?_eq_some_iff.1 hus).1
   exact ⟨_,List.getElem?_eq_getElem (by rw [← hMY.len]; exact hi)⟩
 have hMT:=hMY.tidy fun k b h=>⟨by have:=(hL k b h).1; omega,(hL k b h).2⟩
 obtain ⟨a,ca,Hz,hra,ha0,haf,hst,hMz⟩:=hMT.put hL' (b:=sampB x) hus hr' hkT
 obtain ⟨X',hX'⟩:=storeA_form hst
 have hrow:=hrs r (List.mem_of_getElem? hr') a.block (by rw [hra]; rfl)
 have c9:=(hMT.at9 hus hr').1
 have c5:cellA (tidy (N + 1) Y) (n + 5) 1=some (.slice (some ⟨n + 4,0,none⟩) c c):=by
   rw [cellA_eq,hMT.box,← hlen]
   rfl
 have ck:cellA (tidy (N + 1) Y) N0 0=some (iv k):=by
   rw [cellA_eq,hget_tidy.2 ⟨hY.at' 2 _ rfl,by omega,rfl⟩]
   rfl
 have hil:i < c:=by rw [← hlen]; exact (List.getElem?_eq_some_iff.1 hus).1
 have h134:∀ j,g134 [iv x] (frzH (tidy (N + 1) Y)) j=some (rv (sampB x),frzH (tidy (N + 1) Y),j):=fun j=>if_pos hx
 rw [hra] at c9
 have hupS:Sub (hset (tidy (N + 1) Y) a.block X') (hset Y a.block X'):=fun j b hj=>by
   rw [hget_hset] at hj ⊢
   split
   · rename_i e
     rw [if_pos e] at hj
     rw [Option.map_eq_some_iff] at hj
     obtain ⟨z,hz1,hz2⟩:=hj
     rw [(hget_tidy.1 hz1).1]
     exact congrArg some hz2
   · rename_i e
     rw [if_neg e] at hj
     exact (hget_tidy.1 hj).1
 have hMw:=(hX' ▸ hMz).wide hupS (namesOk_hset hY.nm) (Nat.le_refl _)
 have hYw:=hY.write (m:=a.block) (x:=X') (hB _ hrow.1 hrow.2) (fun j y hy=>by
   match j,hy with
   | 0,hy=>simp at hy; subst hy; dsimp only; omega
   | 1,hy=>simp at hy; subst hy; dsimp only; omega
   | 2,hy=>simp at hy; subst hy; dsimp only; omega)
 have hNz:=hMz.nm
 have hkI:(k:Int) < T.smp.length:=by omega
 have l1:n + 5 < N + 1:=by omega
 have l2:n + 4 < N + 1:=by omega
 have l3:N0 < N + 1:=by omega
 refine E.block ?_
 refine E.partW (H2:=hset Y a.block X') (E.drawU mixed hr [10] [8,10] [1,5,6,8,10] (by kernel_rfl) (by simp [-cellA,-flat,-readA,-storeA,cellA_read,l1,l2,l3,c5,c9,ck,hil,hkT,haf,flat_n,ha0,h134,hst,hNz]; first | rfl | exact ⟨rfl,rfl,rfl,rfl,rfl,rfl⟩) ⟨rfl,rfl⟩) (fun j b hj=>?_) ?_
 · rw [hX']
   rcases tidy_set (n:=N + 1) hYlt j b hj with h | h | ⟨rfl,h⟩
   · exact .inl h
   · exact .inr h
   · exfalso
     have:=hMT.row i T r hus hr'
     rcases this.1 with ⟨e,_⟩ | ⟨m,mk,_,_,e,g⟩
     · rw [e] at hra; cases hra
     · rw [hra] at e
       have e2:a.block=m:=by
         have:=congrArg nmO e
         rw [rowV_nm] at this
         injection this
       rw [e2,g] at h
       cases h
 · exact ⟨hYw.at' 1 _ rfl,.inl ⟨rfl,rfl,hYw.put 1 rfl (lb60 fr N0 .ready none),hother (by omega) hMw⟩⟩
def blkIn:Code → Nat → Option Code
 | .block id b,k=>if id=k then some (.block id b) else blkIn b k
 | .seq a b,k=>match blkIn a k with
   | some x=>some x
   | none=>blkIn b k
 | .cond _ a b,k=>match blkIn a k with
   | some x=>some x
   | none=>blkIn b k
 | .loop b,k=>blkIn b k
 | _,_=>none
noncomputable def cBlk60:Code:=match blkIn (bodyOf' Tryz.f60) 2 with
 | some x=>x
 | none=>.skip
set_option maxHeartbeats 6400000 in
set_option maxRecDepth 100000 in
theorem t60 {L X0 : Heap} {n nr : Nat} {s : ByteArray} {oa : Option Addr} {c W : Nat} {ts : List Trc} {rs : List Value} {w st : Int} {Hx : Heap} {K : Ex → St → Prop}
   (hL:∀ k b,hget L k=some b → k < n ∧ plainB2 b=true) (hLX:Sub L X0) (hX0:∀ k b,hget X0 k=some b → k < n + 3) (hg:hget X0 (n + 2)=some (.cells [.string s,.slice oa ts.length c,iv W] 196)) (hR:dR L) (hv:trcV L (.slice oa ts.length c)=some ts) (hok:OkS ts) (hW:(widF ts).1=W) (hwr:1 ≤ w ∧ w ≤ 1000000000) (hsr:0 ≤ st ∧ st ≤ 1024)
   (hnr:n + 6 ≤ nr) (hrs:∀ r ∈ rs,∀ m,nmO r=some m → n + 6 ≤ m ∧ m < nr) (hXH:Sub X0 Hx) (hM:MS false L n 159 110 145 (n + 5) s (corG ts w st W (dn 0 0)) rs Hx nr (n + 4))
   (hK:∀ Hy N ms,Sub X0 Hy → MS false L n 159 110 145 (n + 5) s (corG ts w st W (dn W 0)) rs Hy N (n + 4) → ms.Nodup → (∀ m ∈ ms,nr ≤ m ∧ hget Hy m=some .defd) → K .normal { fr:=[(1,iv w),(2,iv st),(6,ptA (n + 1)),(8,ptA (n + 2)),(11,ptA (n + 5)),(72,iv W),(73,iv W)],sz:=95,H:=Hy,n:=N,marks:=ms,vs:=vs60 })
   : E Tryz.prog n none cBlk60 { fr:=[(1,iv w),(2,iv st),(6,ptA (n + 1)),(8,ptA (n + 2)),(11,ptA (n + 5)),(72,iv W),(73,iv 0)],sz:=95,H:=Hx,n:=nr,marks:=[],vs:=vs60 } K:=by
 have hr:=recT_ok (P:=Tryz.prog) (l:=[(133,g133)]) (by simp [ok133])
 have hr0:=recT_ok (P:=Tryz.prog) (l:=[]) (by simp)
 have hL':∀ k b,hget L k=some b → k < n:=fun k b h=>(hL k b h).1
 have hw0:=hok.w0
 have h64:=hok.len
 rw [hW] at hw0
 have hother:∀ {l N:Nat} {x:Blk} {us:List Trc} {Hy:Heap},nr ≤ l → MS false L n 159 110 145 (n + 5) s us rs Hy N (n + 4) → MS false L n 159 110 145 (n + 5) s us rs (hset Hy l x) N (n + 4):=fun {l N x us Hy} hl h=>h.other (Nat.le_refl _) (namesOk_hset h.nm) (sub_hset h.sub (by
   cases hc:hget L l with
   | none=>rfl
   | some b=>have:=hL' _ _ hc; omega)) fun m _ _ hm=>by
     rw [hget_hset,if_neg]
     rcases hm with rfl | rfl | ⟨r,hr,hm⟩
     · omega
     · omega
     · have:=hrs r hr m hm; omega
 refine E.block (E.loop ?_)
 refine EL.ind (fun x:Nat × Heap × Nat × List Nat=>{ fr:=[(1,iv w),(2,iv st),(6,ptA (n + 1)),(8,ptA (n + 2)),(11,ptA (n + 5)),(72,iv W),(73,iv x.1)],sz:=95,H:=x.2.1,n:=x.2.2.1,marks:=x.2.2.2,vs:=vs60 }) (fun x=>W - x.1) (fun x=>x.1 ≤ W ∧ Sub X0 x.2.1 ∧ MS false L n 159 110 145 (n + 5) s (corG ts w st W (dn x.1 0)) rs x.2.1 x.2.2.1 (n + 4) ∧ nr ≤ x.2.2.1 ∧ x.2.2.2.Nodup ∧ ∀ m ∈ x.2.2.2,nr ≤ m ∧ hget x.2.1 m=some .defd) (0,Hx,nr,[]) (.keep rfl rfl rfl (by simp) (Sub.refl _)) ⟨Nat.zero_le _,hXH,hM,Nat.le_refl _,List.nodup_nil,fun m hm=>by cases hm⟩ (fun _=>rfl) ?_
 rintro ⟨k,Hy,N,ms⟩ ⟨hk,hSx,hMk,hNn,hnd,hms⟩
 dsimp only at hk hSx hMk hNn hnd hms ⊢
 have hHlt:∀ k b,hget Hy k=some b → k < N:=fun k b hk=>namesOk_iff.1 hMk.nm (k,b) (hget_mem _ _ _ hk)
 have hHn:∀ j,N ≤ j → hget Hy j=none:=fun j hj=>by
   cases hc:hget Hy j with
   | none=>rfl
   | some b=>have:=hHlt _ _ hc; omega
 refine E.seq (E.reg hr0 (by simp; rfl) ?_)
 refine E.seq ?_
 by_cases hkW:k < W
 · refine E.cond (t:=true) (by simp [hkW]) (fun _=>?_) (fun h=>by cases h)
   have hw1:IntKind.i64.wrap ((k:Int) + 1)=(k:Int) + 1:=W_in (by omega) (by omega)
   refine E.skip (E.seq ?_)
   refine E.block (E.seq (E.reg hr0 (by simp; rfl) ?_))
   refine E.seq ?_
   have hld:=load196 (H:=(N,Blk.cells [iv k] 3) :: Hy) (n:=n + 2) (s:=s) (u:=.slice oa ts.length c) (W:=W) (by rw [hget_cons,if_neg (by omega)]; exact hSx _ _ hg)
   have hl3:loadA Tryz.prog 3 ((N,Blk.cells [iv k] 3) :: Hy) (.pointer (some ⟨N,0,none⟩))=some (iv k):=by simp
   refine E.reg hr (by simp [-loadA,hld,hl3,g133]; rfl) ?_
   refine E.block ?_
   refine E.lead { fr:=fr60 n N w st W k,sz:=95,H:=(N + 4,.cells [iv st] 3) :: (N + 3,.cells [iv w] 3) :: (N + 2,.cells [iv k] 3) :: (N + 1,.cells [.string s,.slice oa ts.length c,iv W] 196) :: (N,.cells [iv k] 3) :: Hy,n:=N + 5,marks:=ms,vs:=vs60 } (.keep rfl rfl rfl (by simp) (Sub.refl _)) ?_
   refine E.rangeX (x:=asg60) (y:=bdy60) rfl ent169 ?_
   obtain ⟨fr,hfr⟩:∃ fr,fr60 n N w st W k=fr:=⟨_,rfl⟩
   have hfl:lk fr 11=some (ptA (n + 5)) ∧ lk fr 13=some (ptA N):=by rw [← hfr]; exact ⟨rfl,rfl⟩
   obtain ⟨B,hB⟩:∃ B,(N + 4,Blk.cells [iv st] 3) :: (N + 3,.cells [iv w] 3) :: (N + 2,.cells [iv k] 3) :: (N + 1,.cells [.string s,.slice oa ts.length c,iv W] 196) :: marksB ms X0=B:=⟨_,rfl⟩
   have hX0B:Sub X0 B:=by
     intro j b hj
     have h1:=hX0 _ _ hj
     have h2:hget (marksB ms X0) j=some b:=by
       cases hc:hget (marksB ms X0) j with
       | none=>
         exfalso
         have:∀ (ms:List Nat),j ∉ ms → hget (marksB ms X0) j=hget X0 j:=fun ms=>by
           induction ms with
           | nil=>intro _; rfl
           | cons m ms ih=>
             intro hm
             rw [marksB,List.map_cons,List.cons_append,hget_cons,if_neg fun e=>hm (by rw [← e]; exact List.mem_cons_self ..)]
             exact ih fun h=>hm (List.mem_cons_of_mem _ h)
         rw [this ms fun h=>by have:=(hms _ h).1; omega,hj] at hc
         cases hc
       | some y=>
         rcases marksB_get hc with ⟨h,_⟩ | ⟨_,h⟩
         · have:=(hms _ h).1; omega
         · rw [hj] at h; exact h.symm ▸ rfl
     rw [← hB,hget_cons,if_neg (by omega),hget_cons,if_neg (by omega),hget_cons,if_neg (by omega),hget_cons,if_neg (by omega)]
     exact h2
   have hBcase:∀ j b,hget B j=some b → (N + 1 ≤ j ∧ j < N + 5) ∨ (j ∈ ms ∧ b = .defd) ∨ hget X0 j=some b:=fun j b hj=>by
     rw [← hB,hget_cons,hget_cons,hget_cons,hget_cons] at hj
     split at hj
     · exact .inl (by omega)
     split at hj
     · exact .inl (by omega)
     split at hj
     · exact .inl (by omega)
     split at hj
     · exact .inl (by omega)
     · rcases marksB_get hj with h | ⟨_,h⟩
       · exact .inr (.inl h)
       · exact .inr (.inr h)
   have hBlt:∀ j b,hget B j=some b → j < N + 7:=fun j b hj=>by
     rcases hBcase j b hj with h | ⟨h,_⟩ | h
     · omega
     · have:=hHlt _ _ (hms _ h).2; omega
     · have:=hX0 _ _ h; omega
   have hBn:∀ j,n + 3 ≤ j → j ∉ ms → (j < N + 1 ∨ N + 5 ≤ j) → hget B j=none:=fun j h1 h2 h3=>by
     cases hc:hget B j with
     | none=>rfl
     | some b=>
       rcases hBcase j b hc with h | ⟨h,_⟩ | h
       · omega
       · exact absurd h h2
       · have:=hX0 _ _ h; omega
   have hmN:∀ j,N ≤ j → j ∉ ms:=fun j hj h=>by have:=hHlt _ _ (hms _ h).2; omega
   obtain ⟨Z,hZ⟩:∃ Z,(N + 4,Blk.cells [iv st] 3) :: (N + 3,.cells [iv w] 3) :: (N + 2,.cells [iv k] 3) :: (N + 1,.cells [.string s,.slice oa ts.length c,iv W] 196) :: (N,.cells [iv k] 3) :: Hy=Z:=⟨_,rfl⟩
   have hMZ:MS false L n 159 110 145 (n + 5) s (corG ts w st W (dn k 0)) rs Z (N + 5) (n + 4):=by
     rw [← hZ]
     exact ((((hMk.skip hL' _).skip hL' _).skip hL' _).skip hL' _).skip hL' _
   have hZ0:hget Z N=some (.cells [iv k] 3):=by rw [← hZ]; simp
   have hHZ:Sub Hy Z:=by
     intro j b hj
     have:=hHlt _ _ hj
     rw [← hZ,hget_cons,if_neg (by omega),hget_cons,if_neg (by omega),hget_cons,if_neg (by omega),hget_cons,if_neg (by omega),hget_cons,if_neg (by omega)]
     exact hj
   have hBZ:Sub B Z:=by
     intro j b hj
     by_cases h1:N + 1 ≤ j
     · rw [← hB,hget_cons,hget_cons,hget_cons,hget_cons] at hj
       rw [← hZ,hget_cons,hget_cons,hget_cons,hget_cons]
       split
       · rename_i e; rw [if_pos e] at hj; exact hj
       rename_i e1; rw [if_neg e1] at hj
       split
       · rename_i e; rw [if_pos e] at hj; exact hj
       rename_i e2; rw [if_neg e2] at hj
       split
       · rename_i e; rw [if_pos e] at hj; exact hj
       rename_i e3; rw [if_neg e3] at hj
       split
       · rename_i e; rw [if_pos e] at hj; exact hj
       rename_i e4; rw [if_neg e4] at hj
       rcases marksB_get hj with ⟨h,_⟩ | ⟨_,h⟩
       · exact absurd h (hmN j (by omega))
       · have:=hX0 _ _ h; omega
     · rcases hBcase j b hj with h | ⟨h,rfl⟩ | h
       · omega
       · exact hHZ _ _ (hms _ h).2
       · exact hHZ _ _ (hSx _ _ h)
   have hZlt:∀ j b,hget Z j=some b → j < N + 5:=fun j b hj=>namesOk_iff.1 hMZ.nm (j,b) (hget_mem _ _ _ hj)
   let I:Nat → Heap → Nat → Prop:=fun i H N'=>Kp B (N + 7) (fs60 fr N k .ready none) H N' ∧ MS false L n 159 110 145 (n + 5) s (corG ts w st W (dn k i)) rs H N' (n + 4)
   have hstart:I 0 ((N + 6,lb60 fr N .ready none) :: (N + 5,.defd) :: Z) (N + 7):=by
     have hs0:Sub B ((N + 6,lb60 fr N .ready none) :: (N + 5,.defd) :: Z):=fun j b hj=>by
       have:=hZlt _ _ (hBZ _ _ hj)
       rw [hget_cons,if_neg (by omega),hget_cons,if_neg (by omega)]
       exact hBZ _ _ hj
     refine ⟨?_,(hMZ.skip hL' _).skip hL' _⟩
     refine (((Kp.start hBlt hs0 (namesOk_put (by omega) (namesOk_put (by omega) (namesOk_mono (by omega) _ hMZ.nm))) (Nat.le_refl _)).more (l:=N) (c:=.cells [iv k] 3) ?_ (by omega) (hBn _ (by omega) (hmN _ (by omega)) (by omega)) (by simp)).more (l:=N + 6) (c:=lb60 fr N .ready none) (by simp) (by omega) (hBn _ (by omega) (hmN _ (by omega)) (by omega)) (by simp)).more (l:=N + 5) (c:=.defd) (by simp) (by omega) (hBn _ (by omega) (hmN _ (by omega)) (by omega)) (by simp)
     rw [hget_cons,if_neg (by omega),hget_cons,if_neg (by omega)]
     exact hZ0
   obtain ⟨v',H',n',hAC,hend⟩:=it169 (B:=B) (l:=N + 6) (kb:=N + 1) (k1:=N + 2) (k2:=N + 3) (k3:=N + 4) (s:=s) (t:=(k:Int)) (w:=w) (st:=st) (by rw [← hB,hW]; simp) (by rw [← hB]; simp) (by rw [← hB]; simp) (by rw [← hB]; simp) (hX0B _ _ (hLX _ _ hR)) (listV_mono decT_mono (hLX.trans hX0B) hv) hok (by omega) hwr hsr I (fun _ _=>False) (fun i H N h=>h.1.sub) (fun i H N h=>h.1.nm)
     (fun i H N' cs hi h hd=>⟨h.1.skip _,by rw [← corG_dead hd]; exact h.2.skip hL' _⟩)
     (fun i Hq N' cs b hi hI hlv hh hb=>by
       have hx:six32 b=smpN ts k w (i:Int):=by
         unfold smpN
         rw [Int.toNat_natCast,List.getElem?_eq_getElem hi]
         dsimp only
         rw [List.getD_eq_getElem?_getD,hb]
         rfl
       have hxa:=smpN_abs hok (k:Int) w (i:Int)
       have hcb:sampB (six32 b)=corB ts w st k i:=by
         unfold corB
         rw [if_pos hlv,hx]
       have hcg:=corG_at (w:=w) (st:=st) (W:=W) (d:=dn k i) (List.getElem?_eq_getElem hi)
       rw [hh] at hcg
       obtain ⟨r,bb,H2,N2,h1,h2,h3,h4,h5⟩:=yield60 (_ts:=ts) (cs:=cs) (i:=i) (x:=six32 b) (c:=ts.length) hL hfl hI.1 hI.2 (fun m hm1 hm2=>hBn m (by omega) (fun h=>by have:=(hms _ h).1; omega) (by omega)) ⟨hnr,hNn⟩ hrs hcg (by rw [hx]; omega) (by simp; exact hkW) corG_len (by simp; omega) (by omega)
       subst h3
       rw [hcb,corG_live hi hh] at h5
       exact ⟨r,true,H2,N2,h1,h2,by rw [if_pos rfl]; exact ⟨h4,h5⟩⟩)
     (H:=(N + 6,lb60 fr N .ready none) :: (N + 5,.defd) :: Z) (n:=N + 7) hstart
   rw [hZ,hfr]
   refine ⟨v',H',n',hAC,?_⟩
   rcases hend with ⟨hI,hMe⟩ | hI
   rotate_left
   · exact hI.elim
   refine .inl ⟨hI.at' 1 _ rfl,?_⟩
   have hY:=hI.put 1 rfl (lb60 fr N .exhausted none)
   have hYb:=hI.big
   have hMY:=hother (l:=N + 6) (x:=lb60 fr N .exhausted none) (by omega) hMe
   show E Tryz.prog n none _ { fr:=fr,sz:=95,H:=hset H' (N + 6) (lb60 fr N .exhausted none),n:=n',marks:=(N + 5) :: ms,vs:=vs60 } _
   obtain ⟨Y,hYe⟩:∃ Y,hset H' (N + 6) (lb60 fr N .exhausted none)=Y:=⟨_,rfl⟩
   rw [hYe] at hY hMY ⊢
   rw [← hfr]
   refine E.reg hr0 (by simp [hw1]; rfl) ?_
   rw [corG_next] at hMY
   refine ⟨(k + 1,Y,n',(N + 5) :: ms),.keep rfl rfl rfl (by simp) (Sub.refl _),⟨by omega,hX0B.trans hY.sub,hMY,(by show nr ≤ n'; omega),List.nodup_cons.2 ⟨hmN _ (by omega),hnd⟩,fun m hm=>?_⟩,by dsimp only; omega⟩
   rcases List.mem_cons.1 hm with rfl | hm
   · exact ⟨by omega,hY.at' 0 _ rfl⟩
   · refine ⟨(hms m hm).1,hY.sub _ _ ?_⟩
     have h1:=hHlt _ _ (hms m hm).2
     rw [← hB,hget_cons,if_neg (by omega),hget_cons,if_neg (by omega),hget_cons,if_neg (by omega),hget_cons,if_neg (by omega)]
     have:∀ (ms:List Nat),m ∈ ms → hget (marksB ms X0) m=some .defd:=fun ms=>by
       induction ms with
       | nil=>intro h; cases h
       | cons j ms ih=>
         intro h
         rw [marksB,List.map_cons,List.cons_append,hget_cons]
         split
         · rfl
         · rename_i e
           rcases List.mem_cons.1 h with h | h
           · exact absurd h.symm e
           · exact ih h
     exact this ms hm
 · have hk':k=W:=by omega
   subst hk'
   refine E.cond (t:=false) (by simp) (fun h=>by cases h) (fun _=>?_)
   refine E.lead { fr:=[(1,iv w),(2,iv st),(6,ptA (n + 1)),(8,ptA (n + 2)),(11,ptA (n + 5)),(72,iv k),(73,iv k)],sz:=95,H:=Hy,n:=N,marks:=ms,vs:=vs60 } (.keep rfl rfl rfl (by simp) (Sub.refl _)) ?_
   refine E.exit ?_
   exact hK Hy N ms hSx hMk hnd hms
end Go.Proofs.YtkongcnmkiihjaaGreatDoor
