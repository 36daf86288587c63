/-
Contracts and plain reckonings behind the law VelocityPanels, part 5 of 8 (each under the conditions in its statement).
-/
import Derived.Test.YtkongcnmkiihjaaGreatDoorRd
import Derived.Test.YtkongcnmkiihjaaGreatDoorRa
import Derived.Test.YtkongcnmkiihjaaGreatDoorAf
import Derived.Test.YtkongcnmkiihjaaGreatDoorRc
namespace Go.Proofs.YtkongcnmkiihjaaGreatDoor
open Go Go.Ab Go.Proofs
def g137 (args:List Value) (H:Heap) (n:Nat):R:=match args with
 | [.agg a]=>match decT H a.toList with
   | some t=>some (iv (trcE t),H,n)
   | none=>none
 | _=>none
theorem ok137:EntOk Tryz.prog (137,g137):=by
 intro args H n v H' n' h
 simp only [g137] at h
 split at h
 · split at h
   · rename_i t ht
     injection h with h; injection h with e1 e2; injection e2 with e2 e3; subst e1 e2 e3
     exact w137 ht
   · cases h
 · cases h
set_option maxHeartbeats 1600000 in
set_option maxRecDepth 50000 in
theorem w62 {H:Heap} {n:Nat} {v:Value} {s:ByteArray} {ts:List Trc} (hv:shtV H v=some (s,ts)):AC Tryz.prog 62 [v] H n (iv (shtE s ts)) H n:=by
 refine AC.given fun hold hsc hgn=>AC.tidied (B:=[]) (by simp) ?_
 replace hv:=shtV_tidy (fun k b h=>(hold k b h).1) hv
 replace hold:=tidy_old hold
 have hr:=recT_ok (P:=Tryz.prog) (l:=[(136,Gn.gSB Gn.nameB),(137,g137),(138,g138)]) (by simp only [List.forall_mem_cons]; exact ⟨Gn.ok136,ok137,ok138,by simp⟩)
 have hr0:=recT_ok (P:=Tryz.prog) (l:=[]) (by simp)
 have hv2:=hv
 obtain ⟨u,rfl,ht⟩:=shtV_form hv
 obtain ⟨oa,c,rfl,hlt,_,hrow⟩:=trcV_form ht
 obtain ⟨X,hX⟩:∃ X,(n,Blk.cells [.string s,.slice oa ts.length c] 103) :: tidy n H=X:=⟨_,rfl⟩
 have hS:Sub (tidy n H) X:=by rw [← hX]; exact Sub.cons (by simp) (Sub.refl _)
 have hb:hget X n=some (.cells [.string s,.slice oa ts.length c] 103):=by rw [← hX,hget_cons,if_pos rfl]
 have hc0:cellA X n 0=some (.string s):=by rw [cellA_eq,hb]; rfl
 have hc1:cellA X n 1=some (.slice oa ts.length c):=by rw [cellA_eq,hb]; rfl
 have hl1:loadA Tryz.prog 101 X (.pointer (some ⟨n,1,none⟩))=some (.slice oa ts.length c):=by simp [-cellA,hc1]
 have hld:=load103 hb
 have h138:∀ m,g138 [.agg ⟨[.string s,.slice oa ts.length c]⟩] X m=some (.tuple #[iv (widF ts).1,.bool (widF ts).2],X,m):=fun m=>by
   simp only [g138,shtV_mono hS hv2]
 obtain ⟨b1,hb1⟩:∃ b1,Gn.nameB s=b1:=⟨_,rfl⟩
 have hw136:∀ X m,Gn.gSB Gn.nameB [.string s] X m=some (.bool b1,X,m):=fun X m=>by rw [← hb1]
 have hE : shtE s ts = (let e1 := firstV [whenV (!b1) 8, whenV (decide (ts.length = 0)) 12, whenV (decide (64 < ts.length)) 5]
     if e1=0 then (if firstV (ts.map trcE)=0 then (if ts.all (widB (widF ts).1) then 0 else 2) else firstV (ts.map trcE)) else e1):=by rw [← hb1]; rfl
 obtain ⟨W,hW⟩:∃ W,(widF ts).1=W:=⟨_,rfl⟩
 rw [hW] at hE h138
 dsimp only at hE
 obtain ⟨eR,heR⟩:∃ e,shtE s ts=e:=⟨_,rfl⟩
 rw [heR] at hE ⊢
 refine AC.pure Tryz.func62 rfl (by kernel_rfl) rfl [1,2,3,4,5,7] rfl ?_
 refine E.seq (E.reg hr (by simp; rfl) ?_)
 rw [hX]
 refine E.seq (E.seq (E.reg hr (by simp [-cellA,hc0,hw136]; rfl) ?_))
 cases b1 with
 | false=>
   refine E.cond (t:=true) (by simp) (fun _=>?_) (fun h=>by cases h)
   refine E.seq (E.reg hr0 (by simp; rfl) ?_)
   refine E.ret ?_
   exact pureK.ret rfl rfl (by rw [hE]; simp [whenV,firstV]) hS
 | true=>
 refine E.cond (t:=false) (by simp) (fun h=>by cases h) (fun _=>?_)
 refine E.skip (E.seq ?_)
 refine E.seq ?_
 by_cases h0:ts.length=0
 · have h0':ts=[]:=List.length_eq_zero_iff.1 h0
   refine E.reg hr0 (by simp [-loadA,hl1,h0']; rfl) ?_
   refine E.cond (t:=true) (by simp) (fun _=>?_) (fun h=>by cases h)
   refine E.seq (E.reg hr0 (by simp; rfl) ?_)
   refine E.ret ?_
   exact pureK.ret rfl rfl (by rw [hE,h0']; simp [whenV,firstV]) hS
 have h0':¬ ts=[]:=fun e=>h0 (by rw [e]; rfl)
 refine E.reg hr0 (by simp [-loadA,hl1,h0']; rfl) ?_
 refine E.cond (t:=false) (by simp) (fun h=>by cases h) (fun _=>?_)
 refine E.skip (E.seq ?_)
 refine E.seq ?_
 by_cases h6:64 < ts.length
 · have h6':(64:Int) < ts.length:=by omega
   refine E.reg hr0 (by simp [-loadA,hl1,h6']; rfl) ?_
   refine E.cond (t:=true) (by simp) (fun _=>?_) (fun h=>by cases h)
   refine E.seq (E.reg hr0 (by simp; rfl) ?_)
   refine E.ret ?_
   exact pureK.ret rfl rfl (by rw [hE,decide_eq_true h6,decide_eq_false h0]; simp [whenV,firstV]) hS
 have h6':¬ (64:Int) < ts.length:=by omega
 have h1e:firstV [whenV (!true) 8,whenV (decide (ts.length=0)) 12,whenV (decide (64 < ts.length)) 5]=0:=by rw [decide_eq_false h0,decide_eq_false h6]; rfl
 rw [h1e,if_pos rfl] at hE
 refine E.reg hr0 (by simp [-loadA,hl1,h6']; rfl) ?_
 refine E.cond (t:=false) (by simp) (fun h=>by cases h) (fun _=>?_)
 refine E.skip (E.seq ?_)
 refine E.seq (E.reg hr0 (by simp; rfl) ?_)
 refine E.block (E.loop ?_)
 refine EL.ind (fun i:Nat=>{ fr:=[(1,ptA n),(3,iv i)],sz:=66,H:=X,n:=n + 1,marks:=[],vs:=[1,2,3,4,5,7] }) (fun i=>ts.length - i) (fun i=>i ≤ ts.length ∧ firstV (ts.map trcE)=firstV ((ts.drop i).map trcE)) 0 (.keep rfl rfl rfl (by simp) (Sub.refl _)) ⟨Nat.zero_le _,by rw [List.drop_zero]⟩ (fun _=>rfl) ?_
 rintro i ⟨hi,hg⟩
 have hw:IntKind.i64.wrap ((i:Int) + 1)=(i:Int) + 1:=W_in (by omega) (by omega)
 refine E.seq (E.seq (E.reg hr0 (by simp [-loadA,hl1]; rfl) ?_))
 by_cases hil:i < ts.length
 · refine E.cond (t:=true) (by simp [hil]) (fun _=>?_) (fun h=>by cases h)
   obtain ⟨a,q,rfl,hf,hcs,h8,hq⟩:=hrow i hil
   have hldt:=load144 (hS.cells hcs)
   have h137:∀ m,g137 [.agg ⟨ts[i].hd.map iv ++ [.bool ts[i].hole,q]⟩] X m=some (iv (trcE ts[i]),X,m):=fun m=>by
     have:=decT_mk (H:=X) h8 (listV_mono decR_mono hS hq)
     simp only [g137,this]
   rw [List.drop_eq_getElem_cons hil,List.map_cons,firstV] at hg
   obtain ⟨e,he⟩:∃ e,trcE ts[i]=e:=⟨_,rfl⟩
   rw [he] at h137 hg
   refine E.skip (E.seq ?_)
   refine E.block (E.seq (E.reg hr (by simp [-loadA,-flat,hl1,hil,hf,hldt,h137]; rfl) ?_))
   refine E.seq (E.reg hr0 (by simp; rfl) ?_)
   by_cases hz:e=0
   · rw [if_pos hz] at hg
     refine E.cond (t:=false) (by simp [hz]) (fun h=>by cases h) (fun _=>?_)
     refine E.skip (E.reg hr0 (by simp [hw]; rfl) ?_)
     exact ⟨i + 1,.keep rfl rfl rfl (by simp) (Sub.refl _),⟨hil,hg⟩,by dsimp only; omega⟩
   · rw [if_neg hz] at hg
     rw [hg,if_neg hz] at hE
     refine E.cond (t:=true) (by simp [hz]) (fun _=>?_) (fun h=>by cases h)
     refine E.seq (E.reg hr0 (by simp; rfl) ?_)
     refine E.ret ?_
     exact pureK.ret rfl rfl (by rw [hE]; simp) hS
 refine E.cond (t:=false) (by simp [hil]) (fun h=>by cases h) (fun _=>?_)
 refine E.exit ?_
 rw [List.drop_of_length_le (by omega)] at hg
 rw [hg,show firstV (([]:List Trc).map trcE)=0 from rfl,if_pos rfl] at hE
 refine E.seq (E.reg hr (by simp [-loadA,hld,h138]; rfl) ?_)
 refine E.seq (E.seq (E.reg hr0 (by simp; rfl) ?_))
 refine E.block (E.loop ?_)
 refine EL.ind (fun i:Nat=>{ fr:=[(1,ptA n),(5,iv W),(7,iv i)],sz:=66,H:=X,n:=n + 1,marks:=[],vs:=[1,2,3,4,5,7] }) (fun i=>ts.length - i) (fun i=>i ≤ ts.length ∧ ts.all (widB W)=(ts.drop i).all (widB W)) 0 (.keep rfl rfl rfl (by simp) (Sub.refl _)) ⟨Nat.zero_le _,by rw [List.drop_zero]⟩ (fun _=>rfl) ?_
 rintro i ⟨hi,hg⟩
 have hw:IntKind.i64.wrap ((i:Int) + 1)=(i:Int) + 1:=W_in (by omega) (by omega)
 refine E.seq (E.seq (E.reg hr0 (by simp [-loadA,hl1]; rfl) ?_))
 by_cases hil:i < ts.length
 · refine E.cond (t:=true) (by simp [hil]) (fun _=>?_) (fun h=>by cases h)
   obtain ⟨a,q,rfl,hf,hcs,h8,hq⟩:=hrow i hil
   obtain ⟨oq,cq,rfl,hlq,_,_⟩:=reaV_form hq
   obtain ⟨hc8,hc9,_⟩:=trc_cells (hS.cells hcs) h8
   have hl8:loadA Tryz.prog 4 X (.pointer (some ⟨a.block,a.off + i * 10 + 8,none⟩))=some (.bool ts[i].hole):=by simp [-cellA,hc8]
   have hl9:loadA Tryz.prog 126 X (.pointer (some ⟨a.block,a.off + i * 10 + 9,none⟩))=some (.slice oq ts[i].smp.length cq):=by simp [-cellA,hc9]
   rw [List.drop_eq_getElem_cons hil,List.all_cons,widB] at hg
   refine E.skip (E.seq ?_)
   refine E.block (E.seq ?_)
   cases hho:ts[i].hole with
   | true=>
     rw [hho] at hl8
     rw [hho,Bool.true_or,Bool.true_and] at hg
     refine E.reg hr0 (by simp [-loadA,-flat,hl1,hl8,hil,hf]; rfl) ?_
     refine E.cond (t:=false) (by simp) (fun h=>by cases h) (fun _=>?_)
     refine E.skip (E.reg hr0 (by simp [hw]; rfl) ?_)
     exact ⟨i + 1,.keep rfl rfl rfl (by simp) (Sub.refl _),⟨hil,hg⟩,by dsimp only; omega⟩
   | false=>
     rw [hho] at hl8
     rw [hho,Bool.false_or] at hg
     by_cases hwd:(ts[i].smp.length:Int)=W
     · rw [decide_eq_true hwd,Bool.true_and] at hg
       refine E.reg hr0 (by simp [-loadA,-flat,hl1,hl8,hl9,hil,hf,hwd]; rfl) ?_
       refine E.cond (t:=false) (by simp) (fun h=>by cases h) (fun _=>?_)
       refine E.skip (E.reg hr0 (by simp [hw]; rfl) ?_)
       exact ⟨i + 1,.keep rfl rfl rfl (by simp) (Sub.refl _),⟨hil,hg⟩,by dsimp only; omega⟩
     · rw [decide_eq_false hwd,Bool.false_and] at hg
       rw [hg,if_neg (by decide)] at hE
       refine E.reg hr0 (by simp [-loadA,-flat,hl1,hl8,hl9,hil,hf,hwd]; rfl) ?_
       refine E.cond (t:=true) (by simp) (fun _=>?_) (fun h=>by cases h)
       refine E.seq (E.reg hr0 (by simp; rfl) ?_)
       refine E.ret ?_
       exact pureK.ret rfl rfl (by rw [hE]; simp) hS
 · refine E.cond (t:=false) (by simp [hil]) (fun h=>by cases h) (fun _=>?_)
   refine E.exit ?_
   rw [List.drop_of_length_le (by omega),List.all_nil] at hg
   rw [hg,if_pos rfl] at hE
   refine E.seq (E.reg hr0 (by simp; rfl) ?_)
   refine E.ret ?_
   exact pureK.ret rfl rfl (by rw [hE]; simp) hS
def g62 (args:List Value) (H:Heap) (n:Nat):R:=match args with
 | [v]=>match shtV H v with
   | some x=>some (iv (shtE x.1 x.2),H,n)
   | none=>none
 | _=>none
theorem ok62:EntOk Tryz.prog (62,g62):=by
 intro args H n v H' n' h
 simp only [g62] at h
 split at h
 · split at h
   · rename_i x hx
     injection h with h; injection h with e1 e2; injection e2 with e2 e3; subst e1 e2 e3
     exact w62 (s:=x.1) (ts:=x.2) hx
   · cases h
 · cases h
theorem w141 {b:Nat} (h:good32 b=true):AC Tryz.prog 141 [rv b] [] 9 (iv (six32 b)) [] 9:=by
 obtain ⟨r,_,m2,m3,_⟩:=Gn.six_run (b:=b) (by
   unfold good32 at h; simp only [Bool.and_eq_true,decide_eq_true_eq] at h; exact h.1.1) (by
   unfold good32 at h; simp only [Bool.and_eq_true,decide_eq_true_eq] at h; exact h.1.2)
 have hr:=recT_ok (P:=Tryz.prog) (l:=[]) (by simp)
 refine AC.pure Tryz.func141 rfl (by kernel_rfl) rfl [] rfl ?_
 refine E.seq (E.reg hr (by simp; rfl) ?_)
 refine E.seq (E.reg hr (by simp [opConvert,bin_fmul (k:=.f32) m2,m3]; rfl) ?_)
 refine E.ret ?_
 exact pureK.ret rfl rfl (by simp) (sub_refl _)
def g141 (args:List Value) (H:Heap) (n:Nat):R:=match args with
 | [.float .f32 b]=>if good32 b=true then some (iv (six32 b),H,n) else none
 | _=>none
theorem ok141:EntOk Tryz.prog (141,g141):=by
 intro args H n v H' n' h
 simp only [g141] at h
 split at h
 · split at h
   · rename_i hc
     injection h with h; injection h with e1 e2; injection e2 with e2 e3; subst e1 e2 e3
     exact AC.liftP rfl (Part.plain (by simp) [] (by simp [Seen]) gsz ⟨_,_,w141 hc⟩)
   · cases h
 · cases h
theorem MS.low {F:Bool} {L L' Hx:Heap} {n n' t tb tf kb N o:Nat} {s:ByteArray} {ts:List Trc} {rs:List Value} (h:Ab.MS F L' n' t tb tf kb s ts rs Hx N o) (hs:Sub L L') (hn:n ≤ n'):Ab.MS F L n t tb tf kb s ts rs Hx N o:=by
 have hb:=h.big
 have hk:=h.kbn
 refine ⟨hs.trans h.sub,h.nm,by omega,h.len,h.h8,fun h0=>?_,h.box,by omega,fun i x r hx hr=>?_,h.sep⟩
 · obtain ⟨h1,h2,h3,h4⟩:=h.out h0
   exact ⟨h1,by omega,h3,h4⟩
 · obtain ⟨h1,h2,h3⟩:=h.row i x r hx hr
   exact ⟨h1.low hn,h2,h3⟩
theorem rea_src {H:Heap} {v:Value} {l:List Nat} (h:reaV H v=some l) (hne:l.length ≠ 0):∃ a c,v = .slice (some a) l.length c ∧ flat a=true ∧ l.length < 2147483648 ∧ cellsA H a.block a.off l.length=some (l.map rv):=by
 obtain ⟨oa,c,e,hlt,_,hrow⟩:=reaV_form h
 obtain ⟨a,rfl,hf,_⟩:=hrow 0 (by omega)
 refine ⟨a,c,e,hf,hlt,?_⟩
 subst e
 unfold reaV listV at h
 simp only [if_pos hlt,if_neg hne,hf,if_true,Nat.mul_one] at h
 obtain ⟨cs,hc,hm⟩:=Option.bind_eq_some_iff.1 h
 rw [hc]
 have hcl:cs.length=l.length:=(cellsA_cell hc (i:=0) (by omega)).2
 congr 1
 refine List.ext_getElem? fun i=>?_
 by_cases hi:i < l.length
 · obtain ⟨a',e1,_,h3⟩:=hrow i hi
   injection e1 with e1
   subst e1
   have h4:=(cellsA_cell hc hi).1
   rw [← h4,h3,List.getElem?_map,List.getElem?_eq_getElem hi]
   rfl
 · rw [List.getElem?_eq_none (by omega),List.getElem?_eq_none (by simp; omega)]
theorem oneL_rv:∀ l:List Nat,oneL (l.map rv)=true
 | []=>rfl
 | _ :: l=>oneL_rv l
set_option maxRecDepth 20000 in
theorem app126 {X:Heap} {N M:Nat} {v:Value} {bs:List Nat} (hv:reaV X v=some bs) (hne:bs.length ≠ 0) (hN:hget X N=some (.cells [] 145)) (hs:bs.length ≤ 1048576):builtinA Tryz.prog .append #[126,126] X M [.slice (some ⟨N,0,none⟩) 0 0,v]=some (.slice (some ⟨M,0,some 0⟩) bs.length 0,(M,.ext (bs.map rv) 145 1) :: X,M + 1):=by
 obtain ⟨a,c,rfl,hf,hlt,hc⟩:=rea_src hv hne
 have hsz:Tryz.t145.size=1:=by kernel_rfl
 have hb:Tryz.t145.bytes=4:=by kernel_rfl
 have hz:zeroOk Tryz.t145=true:=by kernel_rfl
 have hsm:smallA 4 bs.length=true:=by
   unfold smallA
   rw [Bool.and_eq_true]
   exact ⟨decide_eq_true (by omega),decide_eq_true (by omega)⟩
 have hnb:Nat.beq (bs.map rv).length bs.length=true:=by rw [List.length_map,Nat.beq_refl]
 have h0:cellsA X N 0 0=some []:=by rw [cellsA_eq,hN]; rfl
 rw [show builtinA Tryz.prog .append #[126,126] X M [.slice (some ⟨N,0,none⟩) 0 0,.slice (some a) bs.length c]=appendA Tryz.prog #[126,126] X M (.slice (some ⟨N,0,none⟩) 0 0) (.slice (some a) bs.length c) from rfl]
 unfold appendA
 simp only [List.getElem?_toArray,List.getElem?_cons_zero,List.getElem?_cons_succ,Tryz.underlying126,inf145,lenX,lenV,srcX,srcA,hsz,Nat.mul_one,if_neg hne,hf,if_true,hc,hnb,oneL_rv,Bool.and_self]
 unfold appendTo
 simp only [Nat.zero_add,Nat.le_zero,hne,if_false,hsz,Nat.zero_mul,h0,hb,hsm,hz,Bool.and_self,if_true,List.nil_append]
 rfl
set_option maxRecDepth 20000 in
theorem app126e {X:Heap} {N M c:Nat} {oa:Option Addr}:builtinA Tryz.prog .append #[126,126] X M [.slice (some ⟨N,0,none⟩) 0 0,.slice oa 0 c]=some (.slice (some ⟨N,0,none⟩) 0 0,X,M):=by
 have hsz:Tryz.t145.size=1:=by kernel_rfl
 rw [show builtinA Tryz.prog .append #[126,126] X M [.slice (some ⟨N,0,none⟩) 0 0,.slice oa 0 c]=appendA Tryz.prog #[126,126] X M (.slice (some ⟨N,0,none⟩) 0 0) (.slice oa 0 c) from rfl]
 unfold appendA
 simp only [List.getElem?_toArray,List.getElem?_cons_zero,List.getElem?_cons_succ,Tryz.underlying126,inf145,lenX,lenV,srcX,srcA,hsz,Nat.zero_mul,if_true]
 cases oa <;> rfl
theorem inf144:Tryz.prog.info? 144=some Tryz.t144:=by kernel_rfl
theorem sz144i:Tryz.t144.size=10:=by kernel_rfl
theorem by144:Tryz.t144.bytes ≤ 128:=by decide +kernel
theorem zo144:zeroOk Tryz.t144=true:=by kernel_rfl
theorem build103a {fr:Fr} {H:Heap} {n:Nat} {x:Operand} {s:ByteArray} (hx:evO Tryz.prog fr x=some (.string s)):opBuild Tryz.prog 103 #[(0,x)] fr H n=some (.agg #[.string s,.slice none 0 0],H,n):=by
 unfold opBuild
 simp only [evPs_cons,evPs_nil,hx]
 kernel_rfl
abbrev fr82 (n i:Nat):Fr:=[(1,ptA n),(2,ptA (n + 1)),(3,ptA (n + 2)),(4,iv i)]
end Go.Proofs.YtkongcnmkiihjaaGreatDoor
namespace Go.Ab
open Go
def handX (P:Program) (r:Rec) (mk:List Nat) (i:Nat) (o:Oper) (see put:List Nat) (fr:Fr) (st:St):Option St:=
 match runOp P r o { st with fr:=fr,H:=handA see put st.H } with
 | some (v,H,k)=>match Nat.ble st.n k && namesOk k (takeNew st.n H) && (Nat.beq k st.n || memN mk i) with
   | true=>some { st with fr:=putA st.fr o.dst v,H:=takeNew st.n H ++ backA put H st.H,n:=k }
   | false=>none
 | none=>none
def doneX (P:Program) (r:Rec) (al mk late pt:List Nat) (n0 i:Nat) (o:Oper) (fr:Fr) (st:St):Option St:=
 match isPure o.op with
 | true=>pureS P o fr st
 | false=>match isRead o.op with
   | true=>match footA P fr o.op with
     | some f=>readT P late n0 i o fr st f.see
     | none=>none
   | false=>match memN al i with
     | true=>aloneT P r mk i o fr st
     | false=>match footA P fr o.op with
       | some f=>match f.put.isEmpty && visT late n0 i st.n f.see with
         | true=>handT P r mk i o f.see fr st
         | false=>match memN pt i && f.put.all (Nat.ble n0 ·) && f.put.all (memN f.see) && memN late i && f.see.all (Nat.blt · st.n) with
           | true=>handX P r mk i o f.see f.put fr st
           | false=>none
       | none=>match memN late i && plainH st.H with
         | true=>handU P r mk i o fr st
         | false=>none
def oneX (P:Program) (r:Rec) (ops:Array Oper) (al mk late pt:List Nat) (n0 i:Nat) (o:Oper) (st:St):Option St:=
 match dstOk st.sz o.dst with
 | false=>none
 | true=>match wantedA ops (trim (lookTmps ops o) st.fr) o with
   | none=>none
   | some false=>some { st with fr:=putA st.fr o.dst undefV }
   | some true=>doneX P r al mk late pt n0 i o (trim (lookTmps ops o) st.fr) st
def opsX (P:Program) (r:Rec) (ops:Array Oper) (al mk late pt:List Nat) (n0:Nat):List Oper → Nat → St → Option St
 | [],_,st=>some st
 | o :: os,i,st=>match oneX P r ops al mk late pt n0 i o st with
   | some st'=>opsX P r ops al mk late pt n0 os (i + 1) st'
   | none=>none
def runX (P:Program) (r:Rec) (ops:Array Oper) (al mk late pt:List Nat) (st:St):Option St:=
 match namesOk st.n st.H with
 | true=>opsX P r ops al mk late pt st.n ops.toList 0 st
 | false=>none
def ptOk (bef:Array Nat) (late pt:List Nat):Bool:=pt.all fun i=>memN late i && late.all fun j=>Nat.beq i j || (if Nat.blt j i then ahead bef j i else ahead bef i j)
structure InvX (mk late pt:List Nat) (n0 i:Nat) (ds:List Done) (st:St):Prop where
 put:∀ d ∈ ds,d.put=[] ∨ (memN pt d.i=true ∧ ∀ k ∈ d.put,n0 ≤ k)
 see:∀ d ∈ ds,memN late d.i=true ∨ ∀ k ∈ d.see,k < n0
 idx:∀ d ∈ ds,d.i < i
 cov:∀ k,n0 ≤ k → k < st.n → ∃ d ∈ ds,d.lo ≤ k ∧ k < d.hi ∧ memN mk d.i=true ∧ d.i < i
 nam:∀ x ∈ st.H,x.1 < st.n
theorem lateOk_visX {bef:Array Nat} {mk late pt:List Nat} (hl:lateOk bef mk late=true) {n0 i:Nat} (hi:memN late i=true) {ds:List Done} {st:St} (hI:InvX mk late pt n0 i ds st) {k:Nat} (hk:k < st.n):visA bef n0 i ds k=true:=by
 unfold visA
 rw [Bool.or_eq_true]
 rcases Nat.lt_or_ge k n0 with h | h
 · exact .inl ((blt_iff _ _).2 h)
 · obtain ⟨d,hd,h1,h2,h3,h4⟩:=hI.cov k h hk
   refine .inr (List.any_eq_true.2 ⟨d,hd,?_⟩)
   have:=List.all_eq_true.1 (List.all_eq_true.1 hl i ((memN_iff _ _).1 hi)) d.i ((memN_iff _ _).1 h3)
   rw [Bool.or_eq_true] at this
   rcases this with h | h
   · have:=Nat.le_of_ble_eq_true h
     omega
   · simp only [Bool.and_eq_true]
     exact ⟨⟨Nat.ble_eq_true_of_le h1,(blt_iff _ _).2 h2⟩,h⟩
theorem ptOk_ahead {bef:Array Nat} {late pt:List Nat} (hp:ptOk bef late pt=true) {a c:Nat} (hac:a < c) (h:(memN pt a=true ∧ memN late c=true) ∨ (memN late a=true ∧ memN pt c=true)):ahead bef a c=true:=by
 unfold ptOk at hp
 rcases h with ⟨h1,h2⟩ | ⟨h1,h2⟩
 · have:=List.all_eq_true.1 hp a ((memN_iff _ _).1 h1)
   rw [Bool.and_eq_true] at this
   have:=List.all_eq_true.1 this.2 c ((memN_iff _ _).1 h2)
   rw [Bool.or_eq_true] at this
   rcases this with h | h
   · have:=Nat.eq_of_beq_eq_true h; omega
   · rw [if_neg (fun h=>by have:=(blt_iff _ _).1 h; omega)] at h
     exact h
 · have:=List.all_eq_true.1 hp c ((memN_iff _ _).1 h2)
   rw [Bool.and_eq_true] at this
   have:=List.all_eq_true.1 this.2 a ((memN_iff _ _).1 h1)
   rw [Bool.or_eq_true] at this
   rcases this with h | h
   · have:=Nat.eq_of_beq_eq_true h; omega
   · rw [if_pos ((blt_iff _ _).2 hac)] at h
     exact h
theorem ptOk_late {bef:Array Nat} {late pt:List Nat} (hp:ptOk bef late pt=true) {a:Nat} (h:memN pt a=true):memN late a=true:=by
 have:=List.all_eq_true.1 hp a ((memN_iff _ _).1 h)
 rw [Bool.and_eq_true] at this
 exact this.1
theorem disj_of {xs ys:List Nat} {n0:Nat} (h1:∀ k ∈ xs,n0 ≤ k) (h2:∀ k ∈ ys,k < n0):disj xs ys=true:=by
 unfold disj
 refine List.all_eq_true.2 fun x hx=>?_
 cases hm:memN ys x with
 | false=>rfl
 | true=>
   have:=h2 x ((memN_iff _ _).1 hm)
   have:=h1 x hx
   omega
theorem footX {bef:Array Nat} {mk late pt:List Nat} (hl:lateOk bef mk late=true) (hp:ptOk bef late pt=true) {n0 i:Nat} {ds:List Done} {st:St} (hI:InvX mk late pt n0 i ds st) {see:List Nat} (h:visT late n0 i st.n see=true):footOk bef n0 i ds see []=true:=by
 have hv:=h
 unfold visT at h
 rw [Bool.or_eq_true] at h
 unfold footOk
 simp only [Bool.and_eq_true]
 refine ⟨⟨List.all_eq_true.2 fun d hd=>?_,List.all_eq_true.2 fun k hk=>?_⟩,rfl⟩
 · rw [Bool.or_eq_true]
   rcases hI.put d hd with h0 | ⟨h1,h2⟩
   · right; simp [disj,h0]
   · rcases h with h | h
     · rw [Bool.and_eq_true] at h
       exact .inl (ptOk_ahead hp (hI.idx d hd) (.inl ⟨h1,h.1⟩))
     · right
       rw [Bool.and_eq_true]
       exact ⟨rfl,disj_of h2 fun k hk=>(blt_iff _ _).1 (List.all_eq_true.1 h k hk)⟩
 · rcases h with h | h
   · rw [Bool.and_eq_true] at h
     exact lateOk_visX hl h.1 hI ((blt_iff _ _).1 (List.all_eq_true.1 h.2 k hk))
   · have:=List.all_eq_true.1 h k hk
     unfold visA
     rw [this,Bool.true_or]
theorem footXp {bef:Array Nat} {mk late pt:List Nat} (hl:lateOk bef mk late=true) (hp:ptOk bef late pt=true) {n0 i:Nat} {ds:List Done} {st:St} (hI:InvX mk late pt n0 i ds st) {see put:List Nat} (h:(memN pt i && put.all (Nat.ble n0 ·) && put.all (memN see) && memN late i && see.all (Nat.blt · st.n))=true):footOk bef n0 i ds see put=true:=by
 simp only [Bool.and_eq_true] at h
 obtain ⟨⟨⟨⟨h1,h2⟩,h3⟩,h4⟩,h5⟩:=h
 unfold footOk
 simp only [Bool.and_eq_true]
 refine ⟨⟨List.all_eq_true.2 fun d hd=>?_,List.all_eq_true.2 fun k hk=>?_⟩,h3⟩
 · rw [Bool.or_eq_true]
   rcases hI.see d hd with hs | hs
   · exact .inl (ptOk_ahead hp (hI.idx d hd) (.inr ⟨hs,h1⟩))
   · rcases hI.put d hd with h0 | ⟨g1,_⟩
     · right
       rw [Bool.and_eq_true]
       exact ⟨disj_of (fun k hk=>Nat.le_of_ble_eq_true (List.all_eq_true.1 h2 k hk)) hs,by simp [disj,h0]⟩
     · exact .inl (ptOk_ahead hp (hI.idx d hd) (.inr ⟨ptOk_late hp g1,h1⟩))
 · exact lateOk_visX hl h4 hI ((blt_iff _ _).1 (List.all_eq_true.1 h5 k hk))
theorem seeCall_dnamesX {bef:Array Nat} {n0 i:Nat} {ds:List Done} (hp:∀ d ∈ ds,d.put=[] ∨ ahead bef d.i i=true):∀ H:Heap,(∀ x ∈ H,visA bef n0 i ds x.1=true) → seeCall bef n0 i ds H=dnames H
 | [],_=>rfl
 | (k,b) :: H,hv=>by
   have ih:=seeCall_dnamesX hp H fun x hx=>hv x (List.mem_cons_of_mem _ hx)
   have h1:=hv _ (List.mem_cons_self ..)
   have h2:(ds.all fun d=>ahead bef d.i i || !memN d.put k)=true:=List.all_eq_true.2 fun d hd=>by
     rcases hp d hd with h | h
     · rw [h]; simp [memN]
     · rw [h,Bool.true_or]
   cases b <;> simp only [seeCall,dnames,h1,h2,ih,Bool.and_self,if_true]
theorem InvX.same {mk late pt:List Nat} {n0 i:Nat} {ds:List Done} {st:St} (hI:InvX mk late pt n0 i ds st) {fr:Fr}:InvX mk late pt n0 (i + 1) ds { st with fr:=fr }:=
 ⟨hI.put,hI.see,fun d hd=>Nat.lt_succ_of_lt (hI.idx d hd),fun k h1 h2=>by obtain ⟨d,a,b,c,e,f⟩:=hI.cov k h1 h2; exact ⟨d,a,b,c,e,by omega⟩,hI.nam⟩
theorem InvX.next {mk late pt:List Nat} {n0 i:Nat} {ds:List Done} {st:St} (hI:InvX mk late pt n0 i ds st) {fr:Fr} {see put:List Nat} {H:Heap} {k:Nat} (hput:put=[] ∨ (memN pt i=true ∧ ∀ k ∈ put,n0 ≤ k)) (hsee:memN late i=true ∨ ∀ k ∈ see,k < n0) (hn:∀ x ∈ H,x.1 < k) (hm:(Nat.beq k st.n || memN mk i)=true):InvX mk late pt n0 (i + 1) (⟨i,see,put,st.n,k⟩ :: ds) { st with fr:=fr,H:=H,n:=k }:=by
 refine ⟨fun d hd=>?_,fun d hd=>?_,fun d hd=>?_,fun j h1 h2=>?_,hn⟩
 · rcases List.mem_cons.1 hd with rfl | hd
   · exact hput
   · exact hI.put d hd
 · rcases List.mem_cons.1 hd with rfl | hd
   · exact hsee
   · exact hI.see d hd
 · rcases List.mem_cons.1 hd with rfl | hd
   · exact Nat.lt_succ_self _
   · exact Nat.lt_succ_of_lt (hI.idx d hd)
 · rcases Nat.lt_or_ge j st.n with h | h
   · obtain ⟨d,a,b,c,e,f⟩:=hI.cov j h1 h
     exact ⟨d,List.mem_cons_of_mem _ a,b,c,e,by omega⟩
   · rw [Bool.or_eq_true] at hm
     have h2:j < k:=h2
     rcases hm with hm | hm
     · have:=Nat.eq_of_beq_eq_true hm
       omega
     · exact ⟨_,List.mem_cons_self ..,h,h2,hm,Nat.lt_succ_self _⟩
theorem visT_see {late:List Nat} {n0 i n:Nat} {see:List Nat} (h:visT late n0 i n see=true):memN late i=true ∨ ∀ k ∈ see,k < n0:=by
 unfold visT at h
 rw [Bool.or_eq_true] at h
 rcases h with h | h
 · rw [Bool.and_eq_true] at h; exact .inl h.1
 · exact .inr fun k hk=>(blt_iff _ _).1 (List.all_eq_true.1 h k hk)
theorem backA_memX {put:List Nat} {H':Heap}:∀ {H:Heap} {x:Nat × Blk},x ∈ backA put H' H → ∃ y ∈ H,y.1=x.1
 | [],x,h=>by cases h
 | (k,b) :: H,x,h=>by
   rw [backA] at h
   have go:x ∈ backA put H' H → ∃ y ∈ (k,b) :: H,y.1=x.1:=fun h=>by
     obtain ⟨y,hy,e⟩:=backA_memX h
     exact ⟨y,List.mem_cons_of_mem _ hy,e⟩
   split at h
   · rcases List.mem_cons.1 h with rfl | h
     · exact ⟨_,List.mem_cons_self ..,rfl⟩
     · exact go h
   · split at h
     · rcases List.mem_cons.1 h with rfl | h
       · exact ⟨_,List.mem_cons_self ..,rfl⟩
       · exact go h
     · exact go h
theorem handX_ok {P:Program} {r:Rec} {bef:Array Nat} {mk late pt:List Nat} {n0 i:Nat} {ds:List Done} {o:Oper} {fr:Fr} {st st':St} (hI:InvX mk late pt n0 i ds st) {see put:List Nat} (hf:footOk bef n0 i ds see put=true) (hput:put=[] ∨ (memN pt i=true ∧ ∀ k ∈ put,n0 ≤ k)) (hsee:memN late i=true ∨ ∀ k ∈ see,k < n0) (h:handX P r mk i o see put fr st=some st'):∃ ds',handOp P r bef n0 i ds o see put fr st=some (st',ds') ∧ InvX mk late pt n0 (i + 1) ds' st':=by
 unfold handX at h
 unfold handOp
 rw [hf]
 simp only
 split at h
 · rename_i v H k hv
   rw [hv]
   simp only
   split at h
   · rename_i hc
     simp only [Bool.and_eq_true] at hc
     injection h with h; subst h
     rw [hc.1.1,hc.1.2]
     simp only [Bool.and_self]
     have hle:=Nat.le_of_ble_eq_true hc.1.1
     refine ⟨_,rfl,hI.next hput hsee (fun x hx=>?_) hc.2⟩
     rcases List.mem_append.1 hx with hx | hx
     · exact namesOk_mem _ _ hc.1.2 x hx
     · obtain ⟨y,hy,e⟩:=backA_memX hx
       exact Nat.lt_of_lt_of_le (by rw [← e]; exact hI.nam y hy) hle
   · cases h
 · cases h
theorem backA_nil (H':Heap):∀ H:Heap,backA [] H' H=H
 | []=>rfl
 | (k,b) :: H=>by simp only [backA,memN,backA_nil H' H]
theorem handT_X {P:Program} {r:Rec} {mk:List Nat} {i:Nat} {o:Oper} {see:List Nat} {fr:Fr} {st:St}:handT P r mk i o see fr st=handX P r mk i o see [] fr st:=by
 unfold handT handX
 simp only [backA_nil]
 rfl
theorem opsX_ok {P:Program} {r:Rec} {ops:Array Oper} {bef:Array Nat} {al mk late pt:List Nat} (hl:lateOk bef mk late=true) (hpt:ptOk bef late pt=true) {n0:Nat}:∀ (os:List Oper) (i:Nat) (st st':St) (ds:List Done),alEq ops bef al os i=true → InvX mk late pt n0 i ds st → opsX P r ops al mk late pt n0 os i st=some st' → opsD P r ops bef n0 os i ds st=some st'
 | [],_,st,st',ds,_,_,h=>h
 | o :: os,i,st,st',ds,hal,hI,h=>by
   simp only [alEq,Bool.and_eq_true,Bool.or_eq_true,beq_iff_eq] at hal
   have halo:isPure o.op=false → isRead o.op=false → memN al i=aloneA bef i ops.toList 0:=fun h1 h2=>by
     rcases hal.1 with (h | h) | h
     · rw [h1] at h; cases h
     · rw [h2] at h; cases h
     · exact h
   simp only [opsX] at h
   split at h
   · rename_i st1 h1
     have key:∃ ds',oneD P r ops bef n0 i ds o st=some (st1,ds') ∧ InvX mk late pt n0 (i + 1) ds' st1:=by
       unfold oneX at h1
       unfold oneD
       split at h1
       · cases h1
       · rename_i hd
         rw [hd]
         simp only
         split at h1
         · cases h1
         · rename_i hw
           rw [hw]
           injection h1 with h1; subst h1
           exact ⟨ds,rfl,hI.same⟩
         · rename_i hw
           rw [hw]
           simp only
           unfold doneX at h1
           unfold doneD
           split at h1
           · rename_i hp
             rw [hp]
             simp only
             unfold pureS at h1
             unfold pureOp
             split at h1
             · rename_i v a k hv
               rw [hv]
               simp only
               split at h1
               · rename_i hk
                 rw [hk]
                 injection h1 with h1; subst h1
                 exact ⟨ds,rfl,hI.same⟩
               · cases h1
             · cases h1
           · rename_i hp
             rw [hp]
             simp only
             split at h1
             · rename_i hrd
               rw [hrd]
               simp only
               split at h1
               · rename_i f hf
                 rw [hf]
                 simp only
                 unfold readT at h1
                 split at h1
                 · rename_i hv
                   have hvt:=hv
                   unfold readOp
                   rw [footX hl hpt hI hv]
                   simp only
                   split at h1
                   · rename_i v a b hv
                     rw [hv]
                     injection h1 with h1; subst h1
                     exact ⟨_,rfl,hI.next (.inl rfl) (visT_see hvt) hI.nam (by simp)⟩
                   · cases h1
                 · cases h1
               · cases h1
             · rename_i hrd
               rw [hrd]
               simp only
               split at h1
               · rename_i hm
                 have ha:aloneA bef i ops.toList 0=true:=by rw [← halo hp hrd,hm]
                 rw [ha]
                 simp only
                 unfold aloneT at h1
                 unfold aloneOp
                 split at h1
                 · rename_i v H k hv
                   rw [hv]
                   simp only
                   split at h1
                   · rename_i hk
                     simp only [Bool.and_eq_true] at hk
                     rw [hk.1.1,hk.1.2]
                     injection h1 with h1; subst h1
                     exact ⟨_,rfl,hI.next (.inl rfl) (.inr fun k hk=>by cases hk) (namesOk_mem _ _ hk.1.2) hk.2⟩
                   · cases h1
                 · cases h1
               · rename_i hm
                 have ha:aloneA bef i ops.toList 0=false:=by rw [← halo hp hrd,hm]
                 rw [ha]
                 simp only
                 split at h1
                 · rename_i f hf
                   rw [hf]
                   simp only
                   split at h1
                   · rename_i hv
                     rw [Bool.and_eq_true] at hv
                     rw [List.isEmpty_iff.1 hv.1]
                     rw [handT_X] at h1
                     exact handX_ok hI (footX hl hpt hI hv.2) (.inl rfl) (visT_see hv.2) h1
                   · split at h1
                     · rename_i hv
                       have hv2:=hv
                       simp only [Bool.and_eq_true] at hv2
                       exact handX_ok hI (footXp hl hpt hI hv) (.inr ⟨hv2.1.1.1.1,fun k hk=>Nat.le_of_ble_eq_true (List.all_eq_true.1 hv2.1.1.1.2 k hk)⟩) (.inl hv2.1.2) h1
                     · cases h1
                 · rename_i hf
                   rw [hf]
                   simp only
                   split at h1
                   · rename_i hv
                     rw [Bool.and_eq_true] at hv
                     have hvis:∀ k,k < st.n → visA bef n0 i ds k=true:=fun k hk=>lateOk_visX hl hv.1 hI hk
                     rw [seeCall_dnamesX (fun d hd=>by
                       rcases hI.put d hd with h | ⟨h,_⟩
                       · exact .inl h
                       · exact .inr (ptOk_ahead hpt (hI.idx d hd) (.inl ⟨h,hv.1⟩))) st.H fun x hx=>hvis _ (hI.nam x hx)]
                     have hvt:visT late n0 i st.n (dnames st.H)=true:=by
                       unfold visT
                       rw [hv.1]
                       simp only [Bool.true_and,Bool.or_eq_true]
                       refine .inl (List.all_eq_true.2 fun k hk=>?_)
                       obtain ⟨b,hb⟩:=dnames_mem _ _ hk
                       exact (blt_iff _ _).2 (hI.nam _ hb)
                     have h2:handT P r mk i o (dnames st.H) (trim (lookTmps ops o) st.fr) st=some st1:=by
                       unfold handT
                       rw [handA_dnames hv.2]
                       exact h1
                     rw [handT_X] at h2
                     exact handX_ok hI (footX hl hpt hI hvt) (.inl rfl) (.inl hv.1) h2
                   · cases h1
     obtain ⟨ds',h2,hI'⟩:=key
     simp only [opsD,h2]
     exact opsX_ok hl hpt os (i + 1) st1 st' ds' hal.2 hI' h
   · cases h
def drawX (ops:Array Oper) (bef:Array Nat) (al mk late pt:List Nat):Bool:=drawOk ops bef && alEq ops bef al ops.toList 0 && lateOk bef mk late && ptOk bef late pt
section
variable {P:Program} {n0:Nat} {ro:Option Nat} {st st':St} {K:Ex → St → Prop} {r:Rec} {m:Nat}
theorem E.drawX (hm:P.follows .mixedOrders=true) (hr:RecOk P r m) (al mk late pt:List Nat) {id:Nat} {ops:Array Oper} (hd:Ab.drawX ops (Region.before ops) al mk late pt=true) (h:runX P r ops al mk late pt st=some st') (k:K .normal st'):E P n0 ro (.region id ops true) st K:=by
 unfold Ab.drawX at hd
 simp only [Bool.and_eq_true] at hd
 unfold runX at h
 split at h
 · rename_i hn
   exact E.draw hm hr hd.1.1.1 (opsX_ok hd.1.2 hd.2 _ _ _ _ [] hd.1.1.2 ⟨by simp,by simp,by simp,fun k h1 h2=>by omega,namesOk_mem _ _ hn⟩ h) k
 · cases h
end
attribute [simp] runX opsX oneX doneX
theorem hgetHand {see put:List Nat}:∀ {H:Heap},plainH H=true → ∀ k,hget (handA see put H) k=if memN put k=true then hget H k else if memN see k=true then (hget H k).map frz else none
 | [],_,k=>by simp [handA,hget]
 | (j,b) :: H,hp,k=>by
   simp only [plainH,Bool.and_eq_true] at hp
   have ih:=hgetHand (see:=see) (put:=put) hp.2 k
   have key:handA see put ((j,b) :: H)=match memN put j with
     | true=>(j,b) :: handA see put H
     | false=>match memN see j with
       | false=>handA see put H
       | true=>(j,frz b) :: handA see put H:=by
     have hp1:=hp.1
     cases b <;> first | rfl | cases hp1
   rw [key]
   by_cases e:j=k
   · subst e
     cases h1:memN put j with
     | true=>simp [hget_cons]
     | false=>
       cases h2:memN see j with
       | false=>
         simp only [Bool.false_eq_true,if_false]
         rw [ih,h1,h2]; simp
       | true=>simp [hget_cons]
   · cases h1:memN put j with
     | true=>simp only [hget_cons,if_neg e]; exact ih
     | false=>
       cases h2:memN see j with
       | false=>simp only [hget_cons,if_neg e]; exact ih
       | true=>simp only [hget_cons,if_neg e]; exact ih
theorem backLow {put:List Nat} {H':Heap} {N:Nat} (hp:∀ k ∈ put,N ≤ k):∀ {H:Heap},namesOk N H=true → backA put H' H=H
 | [],_=>rfl
 | (j,b) :: H,h=>by
   have hj:=namesOk_mem _ _ h (j,b) (List.mem_cons_self ..)
   have hm:memN put j=false:=by
     cases hm:memN put j with
     | false=>rfl
     | true=>have:=hp j ((memN_iff _ _).1 hm); omega
   rw [backA,hm]
   simp only
   rw [backLow hp (namesOk_iff.2 fun x hx=>namesOk_mem _ _ h x (List.mem_cons_of_mem _ hx))]
end Go.Ab
namespace Go.Proofs.YtkongcnmkiihjaaGreatDoor
open Go Go.Ab Go.Proofs
set_option maxRecDepth 20000 in
theorem app126z {X:Heap} {N M:Nat} {v:Value} {bs:List Nat} (hv:reaV X v=some bs) (hne:bs.length ≠ 0) (h0:cellsA X N 0 0=some []) (hs:bs.length ≤ 1048576):builtinA Tryz.prog .append #[126,126] X M [.slice (some ⟨N,0,none⟩) 0 0,v]=some (.slice (some ⟨M,0,some 0⟩) bs.length 0,(M,.ext (bs.map rv) 145 1) :: X,M + 1):=by
 obtain ⟨a,c,rfl,hf,hlt,hc⟩:=rea_src hv hne
 have hsz:Tryz.t145.size=1:=by kernel_rfl
 have hb:Tryz.t145.bytes=4:=by kernel_rfl
 have hz:zeroOk Tryz.t145=true:=by kernel_rfl
 have hsm:smallA 4 bs.length=true:=by
   unfold smallA
   rw [Bool.and_eq_true]
   exact ⟨decide_eq_true (by omega),decide_eq_true (by omega)⟩
 have hnb:Nat.beq (bs.map rv).length bs.length=true:=by rw [List.length_map,Nat.beq_refl]
 rw [show builtinA Tryz.prog .append #[126,126] X M [.slice (some ⟨N,0,none⟩) 0 0,.slice (some a) bs.length c]=appendA Tryz.prog #[126,126] X M (.slice (some ⟨N,0,none⟩) 0 0) (.slice (some a) bs.length c) from rfl]
 unfold appendA
 simp only [List.getElem?_toArray,List.getElem?_cons_zero,List.getElem?_cons_succ,Tryz.underlying126,inf145,lenX,lenV,srcX,srcA,hsz,Nat.mul_one,if_neg hne,hf,if_true,hc,hnb,oneL_rv,Bool.and_self]
 unfold appendTo
 simp only [Nat.zero_add,Nat.le_zero,hne,if_false,hsz,Nat.zero_mul,h0,hb,hsm,hz,Bool.and_self,if_true,List.nil_append]
 rfl
theorem sz159i:Tryz.t159.size=10:=by kernel_rfl
theorem by159:Tryz.t159.bytes ≤ 128:=by decide +kernel
theorem zo159:zeroOk Tryz.t159=true:=by kernel_rfl
theorem build110a {fr:Fr} {H:Heap} {n:Nat} {x:Operand} {s:ByteArray} (hx:evO Tryz.prog fr x=some (.string s)):opBuild Tryz.prog 110 #[(0,x)] fr H n=some (.agg #[.string s,.slice none 0 0],H,n):=by
 unfold opBuild
 simp only [evPs_cons,evPs_nil,hx]
 kernel_rfl
theorem build159 {fr:Fr} {H:Heap} {n:Nat} {x y z:Operand} {a0 a1 a2 a3 a4 a5 a6 a7:Int} {b:Bool} {o:Option Addr} {l c:Nat} (hx:evO Tryz.prog fr x=some (.agg ⟨[iv a0,iv a1,iv a2,iv a3,iv a4,iv a5,iv a6,iv a7]⟩)) (hy:evO Tryz.prog fr y=some (.bool b)) (hz:evO Tryz.prog fr z=some (.slice o l c)):opBuild Tryz.prog 159 #[(0,x),(1,y),(2,z)] fr H n=some (.agg ⟨[iv a0,iv a1,iv a2,iv a3,iv a4,iv a5,iv a6,iv a7,.bool b,.slice o l c]⟩,H,n):=by
 unfold opBuild
 simp only [evPs_cons,evPs_nil,hx,hy,hz]
 kernel_rfl
theorem nm_hset {N k:Nat} {c:Blk}:∀ H:Heap,namesOk N (hset H k c)=namesOk N H
 | []=>rfl
 | (j,b) :: H=>by
   unfold hset
   split
   · rw [namesOk,namesOk]
   · rw [namesOk,namesOk,nm_hset H]
def rowSc (H:Heap) (n:Nat) (v:Value):Prop:=∀ (s:ByteArray) (a:Addr) (k c i:Nat) (q:Value),v = .agg ⟨[.string s,.slice (some a) k c]⟩ → i < k → cellA H a.block (a.off + i * 10 + 9)=some q → sc (· < n) q
abbrev fr59 (n i:Nat) (a:Option Addr) (k c:Nat):Fr:=[(2,ptA (n + 1)),(3,ptA (n + 2)),(10,.slice a k c),(11,iv k),(12,iv i)]
set_option maxHeartbeats 6400000 in
set_option maxRecDepth 100000 in
theorem w59 {H:Heap} {n:Nat} {v:Value} {s:ByteArray} {ts:List Trc} (hv:shtV H v=some (s,ts)) (hlt:∀ k b,hget H k=some b → k < n) (hsm:∀ x ∈ ts,x.smp.length ≤ 1048576) (hsq:rowSc H n v):∃ u H' n',AC Tryz.prog 59 [v] H n u H' n' ∧ MadeS H n H' n' u (s,ts):=by
 replace hv:=shtV_tidy (n:=n) hlt hv
 have hr0:=recT_ok (P:=Tryz.prog) (l:=[]) (by simp)
 obtain ⟨u,rfl,ht⟩:=shtV_form hv
 obtain ⟨oa,c,rfl,hl31,_,hrow⟩:=trcV_form ht
 have hT:∀ j,n ≤ j → hget (tidy n H) j=none:=fun j hj=>by
   cases hc:hget (tidy n H) j with
   | none=>rfl
   | some b=>exact absurd (tidy_lt _ _ hc) (by omega)
 refine made_sht (vf:=id) (ts:=ts) (s:=s) Tryz.func59 rfl (by kernel_rfl) rfl [2,3,10,11,12] hlt (fun _=>rfl) hl31 (fun x hx=>by have:=hsm x hx; omega) ?_
 obtain ⟨L,hL⟩:∃ L,(n + 1,Blk.cells [.string ⟨#[]⟩,.slice none 0 0] 110) :: (n,Blk.cells [.string s,.slice oa ts.length c] 103) :: tidy n H=L:=⟨_,rfl⟩
 have hS:Sub (tidy n H) L:=by rw [← hL]; exact (Sub.cons (hT _ (Nat.le_refl _)) (Sub.refl _)).trans (Sub.cons (by rw [hget_cons,if_neg (by omega)]; exact hT _ (by omega)) (Sub.refl _))
 have hLn:namesOk (n + 2) L=true:=by rw [← hL]; exact namesOk_put (by omega) (namesOk_put (by omega) (by simp))
 have hLlt:∀ k b,hget L k=some b → k < n + 2:=fun k b hk=>namesOk_iff.1 hLn (k,b) (hget_mem _ _ _ hk)
 have hLp:∀ k b,hget L k=some b → plainB2 b=true:=fun k b hk=>by
   rw [← hL,hget_cons,hget_cons] at hk
   split at hk
   · injection hk with hk; rw [← hk]; rfl
   split at hk
   · injection hk with hk; rw [← hk]; rfl
   · exact (hget_tidy.1 hk).2.2
 have hb0:hget L n=some (.cells [.string s,.slice oa ts.length c] 103):=by rw [← hL,hget_cons,if_neg (by omega),hget_cons,if_pos rfl]
 have hb1:hget L (n + 1)=some (.cells [.string ⟨#[]⟩,.slice none 0 0] 110):=by rw [← hL,hget_cons,if_pos rfl]
 have hL2:hget L (n + 2)=none:=by
   cases hc:hget L (n + 2) with
   | none=>rfl
   | some b=>have:=hLlt _ _ hc; omega
 have hc0:cellA L n 0=some (.string s):=by rw [cellA_eq,hb0]; rfl
 refine E.seq (E.reg hr0 (by simp; rfl) ?_)
 rw [hL]
 refine E.seq ?_
 have hbd:=fun (fr:Fr) (H:Heap) (m:Nat) (h:evO Tryz.prog fr (.tmp 7)=some (.string s))=>build110a (fr:=fr) (H:=H) (n:=m) h
 refine E.reg hr0 (by simp [-cellA,hc0,hbd]; rfl) ?_
 obtain ⟨Z,hZ⟩:∃ Z,(n + 2,Blk.cells [.string s,.slice none 0 0] 110) :: L=Z:=⟨_,rfl⟩
 rw [hZ]
 have hLZ:Sub L Z:=by rw [← hZ]; exact Sub.cons hL2 (Sub.refl _)
 have hMZ:Ab.MS true L (n + 2) 159 110 145 (n + 2) s [] [] Z (n + 3) (n + 2):=by
   refine ⟨hLZ,by rw [← hZ]; exact namesOk_put (by omega) (namesOk_mono (by omega) _ hLn),by omega,rfl,by simp,fun h=>absurd rfl h,by rw [← hZ,hget_cons,if_pos rfl]; rfl,by omega,fun i x r hx=>by simp at hx,fun i j r q _ hr=>by simp at hr⟩
 have hz1:cellA Z n 1=some (.slice oa ts.length c):=by rw [cellA_eq,hLZ _ _ hb0]; rfl
 refine E.seq (E.seq (E.reg hr0 (by simp [-cellA,hz1]; rfl) ?_))
 refine E.block (E.loop ?_)
 refine EL.ind (fun x:Nat × Heap × Nat × Nat × List Value=>{ fr:=fr59 n x.1 oa ts.length c,sz:=32,H:=x.2.1,n:=x.2.2.1,marks:=[],vs:=[2,3,10,11,12] }) (fun x=>ts.length - x.1) (fun x=>x.1 ≤ ts.length ∧ Ab.MS true L (n + 2) 159 110 145 (n + 2) s (ts.take x.1) x.2.2.2.2 x.2.1 x.2.2.1 x.2.2.2.1 ∧ n + 2 ≤ x.2.2.2.1) (0,Z,n + 3,n + 2,[]) (.keep rfl rfl rfl (by simp) (Sub.refl _)) ⟨Nat.zero_le _,hMZ,Nat.le_refl _⟩ (fun _=>rfl) ?_
 rintro ⟨i,Hx,N,o,rs⟩ ⟨hi,hM,hol⟩
 dsimp only at hi hM hol ⊢
 have hbig:=hM.big
 have hw:IntKind.i64.wrap ((i:Int) + 1)=(i:Int) + 1:=W_in (by omega) (by omega)
 have htl:(ts.take i).length=i:=by rw [List.length_take]; omega
 have hbox:=hM.box
 rw [htl] at hbox
 refine E.seq (E.reg hr0 (by simp; rfl) ?_)
 refine E.seq ?_
 by_cases hil:i < ts.length
 · refine E.cond (t:=true) (by simp [hil]) (fun _=>?_) (fun h=>by cases h)
   obtain ⟨a,q,rfl,hf,hcs,h8,hq⟩:=hrow i hil
   obtain ⟨oq,cq,rfl,hlq,_,_⟩:=reaV_form hq
   obtain ⟨a0,a1,a2,a3,a4,a5,a6,a7,hhd⟩:=len8 h8
   have hld:=load144 (hM.sub.cells (hS.cells hcs))
   have htk:ts.take (i + 1)=ts.take i ++ [ts[i]]:=List.take_succ_eq_append_getElem hil
   have hsmi:=hsm _ (List.getElem_mem hil)
   have hsc_old:∀ b,oq=some b → b.block < n:=fun b hb=>by
     obtain ⟨_,hc9,_⟩:=trc_cells hcs h8
     have hc9':=Sub.cell (H':=H) (fun k b hk=>(hget_tidy.1 hk).1) hc9
     have h:=hsq s a _ c i _ rfl hil hc9'
     rw [hb] at h
     exact h
   obtain ⟨T,hTT⟩:∃ T,ts[i]=T:=⟨_,rfl⟩
   rw [hTT] at hsmi htk h8 hhd hlq hq hld
   obtain ⟨ho,hho⟩:∃ ho,T.hole=ho:=⟨_,rfl⟩
   rw [hhd,hho] at hld
   simp only [List.map_cons,List.map_nil,List.cons_append,List.nil_append] at hld
   refine E.skip (E.seq ?_)
   refine E.block (E.seq (E.reg hr0 (by simp [-loadA,-flat,hil,hf,hld]; rfl) ?_))
   obtain ⟨V,hV⟩:∃ V,(N,Blk.cells [iv a0,iv a1,iv a2,iv a3,iv a4,iv a5,iv a6,iv a7,.bool ho,.slice oq T.smp.length cq] 144) :: Hx=V:=⟨_,rfl⟩
   have hMV:Ab.MS true L (n + 2) 159 110 145 (n + 2) s (ts.take i) rs V (N + 1) o:=by rw [← hV]; exact hM.skip (fun k c h=>by have:=hLlt k c h; omega) _
   have hMY:=hMV.tidy fun k b h=>⟨by have:=hLlt k b h; omega,hLp k b h⟩
   have hVN:hget V N=some (.cells [iv a0,iv a1,iv a2,iv a3,iv a4,iv a5,iv a6,iv a7,.bool ho,.slice oq T.smp.length cq] 144):=by rw [← hV,hget_cons,if_pos rfl]
   obtain ⟨Y,hY⟩:∃ Y,tidy (N + 1) V=Y:=⟨_,rfl⟩
   have hYN:hget Y N=some (.cells [iv a0,iv a1,iv a2,iv a3,iv a4,iv a5,iv a6,iv a7,.bool ho,.slice oq T.smp.length cq] 144):=by rw [← hY]; exact hget_tidy.2 ⟨hVN,by omega,rfl⟩
   have hYp:plainH Y=true:=by rw [← hY]; simp
   rw [hY] at hMY
   refine E.lead { fr:=(5,ptA N) :: fr59 n i (some a) ts.length c,sz:=32,H:=Y,n:=N + 1,marks:=[],vs:=[2,3,10,11,12] } (.keep rfl rfl rfl (by simp) (fun k b hk=>by rw [← hY] at hk; rw [← hV] at hk; exact (hget_tidy.1 hk).1)) ?_
   have hYnm:=hMY.nm
   have hYnm2:namesOk (N + 1 + 1) Y=true:=namesOk_mono (Nat.le_succ _) _ hYnm
   have hYnm3:namesOk (N + 1 + 1 + 1) Y=true:=namesOk_mono (by omega) _ hYnm
   have hYnm4:namesOk (N + 1 + 1 + 1 + 1) Y=true:=namesOk_mono (by omega) _ hYnm
   have htk1:=takeNew_frz hYnm
   have htk2:=takeNew_frz hYnm2
   have htk3:=takeNew_frz hYnm3
   have hqY:reaV Y (.slice oq T.smp.length cq)=some T.smp:=listV_mono decR_mono (hS.trans hMY.sub) hq
   have hYn:∀ j,N + 1 ≤ j → hget Y j=none:=fun j hj=>by
     cases hc:hget Y j with
     | none=>rfl
     | some b=>have:=namesOk_iff.1 hYnm (j,b) (hget_mem _ _ _ hc); dsimp only at this; omega
   have d8:cellsA Y N 0 8=some [iv a0,iv a1,iv a2,iv a3,iv a4,iv a5,iv a6,iv a7]:=by rw [cellsA_eq,hYN]; rfl
   have e8:cellA Y N 8=some (.bool ho):=by rw [cellA_eq,hYN]; rfl
   have e9:cellA Y N 9=some (.slice oq T.smp.length cq):=by rw [cellA_eq,hYN]; rfl
   have hboxy:=hMY.box
   rw [htl] at hboxy
   have eb:cellA Y (n + 2) 1=some (outS o i):=by rw [cellA_eq,hboxy]; rfl
   have l2:n + 2 < N + 1:=by omega
   have hkr:∀ (j:Nat) q m,rs[j]? = some q → nmO q=some m → m < N + 1:=fun j q m hq hm=>by
     have hj:j < (ts.take i).length:=by rw [hM.len]; exact (List.getElem?_eq_some_iff.1 hq).1
     exact ((hMY.row j _ q (List.getElem?_eq_getElem hj) hq).1.lt hm).2
   have hbt:=fun (oo:Option Addr) (ll cc:Nat) (fr:Fr) (H:Heap) (m:Nat) (h1:evO Tryz.prog fr (.tmp 19)=some (.agg ⟨[iv a0,iv a1,iv a2,iv a3,iv a4,iv a5,iv a6,iv a7]⟩)) (h2:evO Tryz.prog fr (.tmp 21)=some (.bool ho)) (h3:evO Tryz.prog fr (.tmp 25)=some (.slice oo ll cc))=>build159 (fr:=fr) (H:=H) (n:=m) h1 h2 h3
   by_cases he:T.smp.length=0
   · have heS:T.smp=[]:=List.length_eq_zero_iff.1 he
     obtain ⟨r,hrr⟩:∃ r,Value.slice (some ⟨N + 1,0,none⟩) 0 0=r:=⟨_,rfl⟩
     have hMy:Ab.MS true L (n + 2) 159 110 145 (n + 2) s (ts.take i) rs ((N + 1,Blk.cells [] 145) :: Y) (N + 1 + 1) o:=hMY.skip (fun k c h=>by have:=hLlt k c h; omega) _
     have hrow2:RowOk 145 ((N + 1,Blk.cells [] 145) :: Y) (n + 2) (N + 1 + 1) r T.smp:=by
       rw [heS,← hrr]
       exact .inr ⟨N + 1,true,by omega,by omega,rfl,by simp [Ab.rowV]⟩
     have hrn:∀ m,nmO r=some m → N + 1 ≤ m:=fun m h=>by
       rw [← hrr] at h
       have h:some (N + 1)=some m:=h
       injection h with h; omega
     have htc:tc T r=[iv a0,iv a1,iv a2,iv a3,iv a4,iv a5,iv a6,iv a7,.bool ho,r]:=by rw [tc,hhd,hho]; rfl
     obtain ⟨Hw,Hz,hap2,hst2,hM2⟩:=hMy.app (P:=Tryz.prog) (st:=108) (i:=Tryz.t159) hLlt Tryz.underlying108 inf159 sz159i zo159 by159 (by omega) h8 hrow2 (fun e=>by have:=hrn _ e; omega) (fun h0 e=>by have:=hrn _ e; have:=hMY.out h0; omega) (fun q hq=>by
       obtain ⟨j,hj,rfl⟩:=List.getElem_of_mem hq
       cases hm:nmO r with
       | none=>exact .inl rfl
       | some m=>
         refine .inr fun e=>?_
         have:=hkr j _ m (List.getElem?_eq_getElem hj) e.symm
         have:=hrn m hm
         omega)
     rw [htl,htc] at hap2
     rw [htl] at hst2
     rw [outS_ne (Nat.succ_ne_zero _)] at hap2 hst2
     rw [← hrr] at hap2
     have hap:=fun X M=>app126e (X:=X) (N:=N + 1) (M:=M) (c:=cq) (oa:=oq)
     have hHwn:namesOk (N + 1 + 1 + 1 + 1) Hz=true:=hM2.nm
     obtain ⟨xx,hxx⟩:=storeA_form hst2
     have hHwn2:namesOk (N + 1 + 1 + 1 + 1) Hw=true:=by rw [← nm_hset (k:=n + 2) (c:=xx),← hxx]; exact hHwn
     rw [he] at e9
     have hbk:∀ H',backA [N + 1] H' Y=Y:=fun H'=>backLow (fun k hk=>by rw [List.mem_singleton] at hk; omega) hYnm
     have hbt:=hbt (some ⟨N + 1,0,none⟩) 0 0
     have e9':cellA ((N + 1,Blk.cells [] 145) :: Y) N 9=some (.slice oq 0 cq):=by rw [cellA_eq,hget_cons,if_neg (by omega),← cellA_eq]; exact e9
     have hoq:∀ b,oq=some b → b.block < N + 1:=fun b hb=>by
       have:=hsc_old b hb
       omega
     have hrow9:∀ X M,builtinA Tryz.prog .append #[126,126] X M [.slice (some ⟨N + 1,0,none⟩) 0 0,.slice oq 0 cq]=some (.slice (some ⟨N + 1,0,none⟩) 0 0,X,M):=fun X M=>app126e
     cases oq with
     | none=>
       refine E.drawX mixed hr0 [12,14] [6,9,11,12,14] [9,12,14] [9] (by kernel_rfl) (by simp [-cellA,-cellsA,-readA,-builtinA,-storeA,cellA_read,cellsA_read,handX,backA,handA_nn,hYnm,d8,e8,e9',eb,l2,hap,hbt,hbk,hap2,hst2,hHwn,hHwn2]; rfl) ?_
       refine E.reg hr0 (by simp [hw]; rfl) ?_
       exact ⟨(i + 1,Hz,N + 1 + 1 + 1 + 1,N + 1 + 1 + 1,rs ++ [r]),.keep rfl rfl rfl (by simp) (Sub.refl _),⟨hil,by rw [htk]; exact hM2,by dsimp only; omega⟩,by dsimp only; omega⟩
     | some b=>
       have hb1:=hoq b rfl
       have hb2:b.block < N + 1 + 1:=by omega
       refine E.drawX mixed hr0 [12,14] [6,9,11,12,14] [9,12,14] [9] (by kernel_rfl) (by simp [-cellA,-cellsA,-readA,-builtinA,-storeA,cellA_read,cellsA_read,handX,backA,handA_nn,hYnm,d8,e8,e9',eb,l2,hb1,hb2,hap,hbt,hbk,hap2,hst2,hHwn,hHwn2]; rfl) ?_
       refine E.reg hr0 (by simp [hw]; rfl) ?_
       exact ⟨(i + 1,Hz,N + 1 + 1 + 1 + 1,N + 1 + 1 + 1,rs ++ [r]),.keep rfl rfl rfl (by simp) (Sub.refl _),⟨hil,by rw [htk]; exact hM2,by dsimp only; omega⟩,by dsimp only; omega⟩
   · obtain ⟨r,hrr⟩:∃ r,Value.slice (some ⟨N + 1 + 1,0,some 0⟩) T.smp.length 0=r:=⟨_,rfl⟩
     have hMy:Ab.MS true L (n + 2) 159 110 145 (n + 2) s (ts.take i) rs ((N + 1 + 1,Blk.ext (T.smp.map rv) 145 1) :: (N + 1,Blk.cells [] 145) :: Y) (N + 1 + 1 + 1) o:=(hMY.skip (fun k c h=>by have:=hLlt k c h; omega) _).skip (fun k c h=>by have:=hLlt k c h; omega) _
     have hrow2:RowOk 145 ((N + 1 + 1,Blk.ext (T.smp.map rv) 145 1) :: (N + 1,Blk.cells [] 145) :: Y) (n + 2) (N + 1 + 1 + 1) r T.smp:=by
       rw [← hrr]
       exact .inr ⟨N + 1 + 1,false,by omega,by omega,rfl,by simp [Ab.rowV]⟩
     have hrn:∀ m,nmO r=some m → N + 1 ≤ m:=fun m h=>by
       rw [← hrr] at h
       have h:some (N + 1 + 1)=some m:=h
       injection h with h; omega
     have htc:tc T r=[iv a0,iv a1,iv a2,iv a3,iv a4,iv a5,iv a6,iv a7,.bool ho,r]:=by rw [tc,hhd,hho]; rfl
     obtain ⟨Hw,Hz,hap2,hst2,hM2⟩:=hMy.app (P:=Tryz.prog) (st:=108) (i:=Tryz.t159) hLlt Tryz.underlying108 inf159 sz159i zo159 by159 (by omega) h8 hrow2 (fun e=>by have:=hrn _ e; omega) (fun h0 e=>by have:=hrn _ e; have:=hMY.out h0; omega) (fun q hq=>by
       obtain ⟨j,hj,rfl⟩:=List.getElem_of_mem hq
       cases hm:nmO r with
       | none=>exact .inl rfl
       | some m=>
         refine .inr fun e=>?_
         have:=hkr j _ m (List.getElem?_eq_getElem hj) e.symm
         have:=hrn m hm
         omega)
     rw [htl,htc] at hap2
     rw [htl] at hst2
     rw [outS_ne (Nat.succ_ne_zero _)] at hap2 hst2
     rw [← hrr] at hap2
     have hHwn:namesOk (N + 1 + 1 + 1 + 1 + 1) Hz=true:=hM2.nm
     obtain ⟨xx,hxx⟩:=storeA_form hst2
     have hHwn2:namesOk (N + 1 + 1 + 1 + 1 + 1) Hw=true:=by rw [← nm_hset (k:=n + 2) (c:=xx),← hxx]; exact hHwn
     have hbk:∀ H',backA [N + 1] H' Y=Y:=fun H'=>backLow (fun k hk=>by rw [List.mem_singleton] at hk; omega) hYnm
     have hbt:=hbt (some ⟨N + 1 + 1,0,some 0⟩) T.smp.length 0
     obtain ⟨aq,cq',e,hfq,_,hcq⟩:=rea_src hqY he
     injection e with e1 _ e3
     subst e1 e3
     have hb1:aq.block < N + 1:=by have:=hsc_old aq rfl; omega
     have hb2:aq.block < N + 1 + 1:=by omega
     have hm2:memN [N + 1,aq.block] aq.block=true:=(memN_iff _ _).2 (by simp)
     have hm1:memN [N + 1] aq.block=false:=by
       cases hb:memN [N + 1] aq.block with
       | false=>rfl
       | true=>
         have:=(memN_iff _ _).1 hb
         rw [List.mem_singleton] at this
         omega
     have hre:∀ m,builtinA Tryz.prog .append #[126,126] ((N + 1,.cells [] 145) :: handA [N + 1,aq.block] [N + 1] Y) m [.slice (some ⟨N + 1,0,none⟩) 0 0,.slice (some aq) T.smp.length cq]=some (.slice (some ⟨m,0,some 0⟩) T.smp.length 0,(m,.ext (T.smp.map rv) 145 1) :: (N + 1,.cells [] 145) :: handA [N + 1,aq.block] [N + 1] Y,m + 1):=fun m=>by
       refine app126z ?_ he (by rw [cellsA_eq,hget_cons,if_pos rfl]; rfl) hsmi
       refine listV_mk (cs:=T.smp.map rv) hfq ?_ (by simp) hlq rv_dec
       rw [List.length_map,cellsA_eq,hget_cons,if_neg (by omega),hgetHand hYp,hm1,hm2]
       rw [cellsA_eq] at hcq
       cases hg:hget Y aq.block with
       | none=>rw [hg] at hcq; cases hcq
       | some b=>
         rw [hg] at hcq
         cases b <;> simp [cellsB,frz] at hcq ⊢ <;> first | exact hcq | (obtain ⟨h1,h2⟩:=hcq; exact ⟨h1,h2⟩)
     have e9':cellA ((N + 1,Blk.cells [] 145) :: Y) N 9=some (.slice (some aq) T.smp.length cq):=by rw [cellA_eq,hget_cons,if_neg (by omega),← cellA_eq]; exact e9
     refine E.drawX mixed hr0 [12,14] [6,9,11,12,14] [9,12,14] [9] (by kernel_rfl) (by simp [-cellA,-cellsA,-readA,-builtinA,-storeA,cellA_read,cellsA_read,handX,backA,handA_nn,hYnm,d8,e8,e9',eb,l2,hb1,hb2,hre,hbt,hbk,hap2,hst2,hHwn,hHwn2]; rfl) ?_
     refine E.reg hr0 (by simp [hw]; rfl) ?_
     exact ⟨(i + 1,Hz,N + 1 + 1 + 1 + 1 + 1,N + 1 + 1 + 1 + 1,rs ++ [r]),.keep rfl rfl rfl (by simp) (Sub.refl _),⟨hil,by rw [htk]; exact hM2,by dsimp only; omega⟩,by dsimp only; omega⟩
 · have hil':i=ts.length:=by omega
   subst hil'
   refine E.cond (t:=false) (by simp) (fun h=>by cases h) (fun _=>?_)
   refine E.exit ?_
   rw [List.take_length] at hM htl
   have hld3:=load110 (H:=Hx) (n:=n + 2) (s:=s) (u:=outS o ts.length) hbox
   have hb1x:=hM.sub _ _ hb1
   have hst3:storeA Hx (n + 1) 0 [.string s,outS o ts.length]=some (hset Hx (n + 1) (.cells [.string s,outS o ts.length] 110)):=store_all hb1x rfl
   have hld4:=load110 (H:=hset Hx (n + 1) (.cells [.string s,outS o ts.length] 110)) (n:=n + 1) (s:=s) (u:=outS o ts.length) (by rw [hget_hset,if_pos rfl,hb1x]; rfl)
   have hone:oneL [Value.string s,outS o ts.length]=true:=by
     unfold outS
     split <;> rfl
   have hM0:=MS.low hM hS (show n ≤ n + 2 by omega)
   have hM1:Ab.MS true (tidy n H) n 159 110 145 (n + 2) s ts rs (hset Hx (n + 1) (.cells [.string s,outS o ts.length] 110)) N o:=hM0.other (Nat.le_refl _) (namesOk_hset hM.nm) (sub_hset hM0.sub (hT _ (by omega))) fun m hm1 hm2 hm=>by
     rw [hget_hset,if_neg]
     rcases hm with rfl | rfl | ⟨r,hr,hm⟩
     · omega
     · omega
     · obtain ⟨j,hj,rfl⟩:=List.getElem_of_mem hr
       have hjt:j < ts.length:=by rw [hM.len]; exact hj
       have:=((hM.row j _ _ (List.getElem?_eq_getElem hjt) (List.getElem?_eq_getElem hj)).1.lt hm).1
       omega
   refine E.seq (E.reg hr0 (by simp [-loadA,-storeA,-oneL,hld3,hst3,hone]; rfl) ?_)
   refine E.ret ?_
   exact outM.ret _ rfl (vs:=[.agg ⟨[.string s,outS o ts.length]⟩]) (by simp [-loadA,resultsA,resultA,Tryz.results59,hld4]) ⟨true,159,110,145,n + 2,rs,o,rfl,fun _=>rfl,hM1⟩
def Q82 (s:ByteArray) (ts:List Trc) (_:List Value) (H:Heap) (n:Nat) (u:Value) (H':Heap) (n':Nat):Prop:=MadeS H n H' n' u (s,ts) ∧ ∃ kb rs o,u = .agg ⟨[.string s,outrV true o ts.length]⟩ ∧ Ab.MS true (tidy n H) n 144 103 145 kb s ts rs H' n' o
set_option maxHeartbeats 3200000 in
set_option maxRecDepth 100000 in
theorem w82M {H:Heap} {n:Nat} {v:Value} {s:ByteArray} {ts:List Trc} (hv:shtV H v=some (s,ts)) (hlt:∀ k b,hget H k=some b → k < n) (hsm:∀ x ∈ ts,x.smp.length ≤ 1048576) (hne:ts ≠ []):∃ u H' n',AC Tryz.prog 82 [v] H n u H' n' ∧ Q82 s ts [v] H n u H' n':=by
 replace hv:=shtV_tidy (n:=n) hlt hv
 have hr0:=recT_ok (P:=Tryz.prog) (l:=[]) (by simp)
 obtain ⟨u,rfl,ht⟩:=shtV_form hv
 obtain ⟨oa,c,rfl,hl31,_,hrow⟩:=trcV_form ht
 have hT:∀ j,n ≤ j → hget (tidy n H) j=none:=fun j hj=>by
   cases hc:hget (tidy n H) j with
   | none=>rfl
   | some b=>exact absurd (tidy_lt _ _ hc) (by omega)
 refine made_shtM (F:=true) (t:=144) (tb:=103) (tf:=145) (ts:=ts) (s:=s) Tryz.func82 rfl (by kernel_rfl) rfl [1,2,3,4] hlt hl31 (fun x hx=>by have:=hsm x hx; omega) hne ?_
 obtain ⟨L,hL⟩:∃ L,(n + 1,Blk.cells [.string ⟨#[]⟩,.slice none 0 0] 103) :: (n,Blk.cells [.string s,.slice oa ts.length c] 103) :: tidy n H=L:=⟨_,rfl⟩
 have hS:Sub (tidy n H) L:=by rw [← hL]; exact (Sub.cons (hT _ (Nat.le_refl _)) (Sub.refl _)).trans (Sub.cons (by rw [hget_cons,if_neg (by omega)]; exact hT _ (by omega)) (Sub.refl _))
 have hLn:namesOk (n + 2) L=true:=by rw [← hL]; exact namesOk_put (by omega) (namesOk_put (by omega) (by simp))
 have hLlt:∀ k b,hget L k=some b → k < n + 2:=fun k b hk=>namesOk_iff.1 hLn (k,b) (hget_mem _ _ _ hk)
 have hb0:hget L n=some (.cells [.string s,.slice oa ts.length c] 103):=by rw [← hL,hget_cons,if_neg (by omega),hget_cons,if_pos rfl]
 have hb1:hget L (n + 1)=some (.cells [.string ⟨#[]⟩,.slice none 0 0] 103):=by rw [← hL,hget_cons,if_pos rfl]
 have hL2:hget L (n + 2)=none:=by
   cases hc:hget L (n + 2) with
   | none=>rfl
   | some b=>have:=hLlt _ _ hc; omega
 have hc0:cellA L n 0=some (.string s):=by rw [cellA_eq,hb0]; rfl
 refine E.seq (E.reg hr0 (by simp; rfl) ?_)
 rw [hL]
 refine E.seq ?_
 have hbd:=fun (fr:Fr) (H:Heap) (m:Nat) (h:evO Tryz.prog fr (.tmp 7)=some (.string s))=>build103a (fr:=fr) (H:=H) (n:=m) h
 refine E.reg hr0 (by simp [-cellA,hc0,hbd]; rfl) ?_
 obtain ⟨Z,hZ⟩:∃ Z,(n + 2,Blk.cells [.string s,.slice none 0 0] 103) :: L=Z:=⟨_,rfl⟩
 rw [hZ]
 have hMZ:Ab.MS true L (n + 2) 144 103 145 (n + 2) s [] [] Z (n + 3) (n + 2):=by
   refine ⟨by rw [← hZ]; exact Sub.cons hL2 (Sub.refl _),by rw [← hZ]; exact namesOk_put (by omega) (namesOk_mono (by omega) _ hLn),by omega,rfl,by simp,fun h=>absurd rfl h,by rw [← hZ,hget_cons,if_pos rfl]; rfl,by omega,fun i x r hx=>by simp at hx,fun i j r q _ hr=>by simp at hr⟩
 refine E.seq (E.seq (E.reg hr0 (by simp; rfl) ?_))
 refine E.block (E.loop ?_)
 refine EL.ind (fun x:Nat × Heap × Nat × Nat × List Value=>{ fr:=fr82 n x.1,sz:=33,H:=x.2.1,n:=x.2.2.1,marks:=[],vs:=[1,2,3,4] }) (fun x=>ts.length - x.1) (fun x=>x.1 ≤ ts.length ∧ Ab.MS true L (n + 2) 144 103 145 (n + 2) s (ts.take x.1) x.2.2.2.2 x.2.1 x.2.2.1 x.2.2.2.1 ∧ n + 2 ≤ x.2.2.2.1) (0,Z,n + 3,n + 2,[]) (.keep rfl rfl rfl (by simp) (Sub.refl _)) ⟨Nat.zero_le _,hMZ,Nat.le_refl _⟩ (fun _=>rfl) ?_
 rintro ⟨i,Hx,N,o,rs⟩ ⟨hi,hM,hol⟩
 dsimp only at hi hM hol ⊢
 have hbig:=hM.big
 have hw:IntKind.i64.wrap ((i:Int) + 1)=(i:Int) + 1:=W_in (by omega) (by omega)
 have hc1:cellA Hx n 1=some (.slice oa ts.length c):=by rw [cellA_eq,hM.sub _ _ hb0]; rfl
 have hl1:loadA Tryz.prog 101 Hx (.pointer (some ⟨n,1,none⟩))=some (.slice oa ts.length c):=by simp [-cellA,hc1]
 have htl:(ts.take i).length=i:=by rw [List.length_take]; omega
 have hbox:=hM.box
 rw [htl] at hbox
 refine E.seq (E.seq (E.reg hr0 (by simp [-loadA,hl1]; rfl) ?_))
 by_cases hil:i < ts.length
 · refine E.cond (t:=true) (by simp [hil]) (fun _=>?_) (fun h=>by cases h)
   obtain ⟨a,q,rfl,hf,hcs,h8,hq⟩:=hrow i hil
   obtain ⟨oq,cq,rfl,hlq,_,_⟩:=reaV_form hq
   obtain ⟨a0,a1,a2,a3,a4,a5,a6,a7,hhd⟩:=len8 h8
   have hld:=load144 (hM.sub.cells (hS.cells hcs))
   have htk:ts.take (i + 1)=ts.take i ++ [ts[i]]:=List.take_succ_eq_append_getElem hil
   have hsmi:=hsm _ (List.getElem_mem hil)
   rw [hhd] at hld
   simp only [List.map_cons,List.map_nil,List.cons_append,List.nil_append] at hld
   refine E.skip (E.seq ?_)
   refine E.block (E.seq (E.reg hr0 (by simp [-loadA,-flat,hl1,hil,hf,hld]; rfl) ?_))
   refine E.seq ?_
   have hqX:∀ Y,Sub Hx Y → reaV Y (.slice oq ts[i].smp.length cq)=some ts[i].smp:=fun Y hY=>listV_mono decR_mono (hS.trans (hM.sub.trans hY)) hq
   have hHN:∀ j,N ≤ j → hget Hx j=none:=fun j hj=>by
     cases hc:hget Hx j with
     | none=>rfl
     | some b=>have:=namesOk_iff.1 hM.nm (j,b) (hget_mem _ _ _ hc); dsimp only at this; omega
   have hSub1:∀ b,Sub Hx ((N,b) :: Hx):=fun b=>Sub.cons (hHN _ (Nat.le_refl _)) (Sub.refl _)
   have hSub2:∀ b b',Sub Hx ((N + 1,b') :: (N,b) :: Hx):=fun b b'=>(hSub1 b).trans (Sub.cons (by rw [hget_cons,if_neg (by omega)]; exact hHN _ (by omega)) (Sub.refl _))
   have hMM:=fun b b'=>(hM.skip hLlt b).skip (fun k c h=>by have:=hLlt k c h; omega) b'
   obtain ⟨T,hTT⟩:∃ T,ts[i]=T:=⟨_,rfl⟩
   rw [hTT] at hqX hsmi htk h8 hhd hlq hq ⊢
   obtain ⟨ho,hho⟩:∃ ho,T.hole=ho:=⟨_,rfl⟩
   rw [hho]
   by_cases he:T.smp.length=0
   case' pos=>
     have heS:T.smp=[]:=List.length_eq_zero_iff.1 he
     have hap:=fun X=>app126e (X:=X) (N:=N + 1) (M:=N + 1 + 1) (c:=cq) (oa:=oq)
     rw [he]
     refine E.reg hr0 (by simp [-builtinA,hap]; rfl) ?_
     obtain ⟨r,hrr⟩:∃ r,Value.slice (some ⟨N + 1,0,none⟩) 0 0=r:=⟨_,rfl⟩
     obtain ⟨M,hMd⟩:∃ M,N + 1 + 1=M:=⟨_,rfl⟩
     obtain ⟨Hy,hHy⟩:∃ Hy,(N + 1,Blk.cells [] 145) :: (N,Blk.cells [iv a0,iv a1,iv a2,iv a3,iv a4,iv a5,iv a6,iv a7,.bool ho,.slice (some ⟨N + 1,0,none⟩) 0 0] 144) :: Hx=Hy:=⟨_,rfl⟩
     have hbN:hget Hy N=some (.cells [iv a0,iv a1,iv a2,iv a3,iv a4,iv a5,iv a6,iv a7,.bool ho,r] 144):=by rw [← hHy,← hrr]; simp
     have hMy:Ab.MS true L (n + 2) 144 103 145 (n + 2) s (ts.take i) rs Hy M o:=by rw [← hHy,← hMd]; exact hMM _ _
     have hrow2:RowOk 145 Hy (n + 2) M r T.smp:=by
       rw [heS,← hrr,← hMd]
       exact .inr ⟨N + 1,true,by omega,by omega,rfl,by rw [← hHy]; simp [Ab.rowV]⟩
     have hrn:∀ m,nmO r=some m → N ≤ m:=fun m h=>by
       rw [← hrr] at h
       have h:some (N + 1)=some m:=h
       injection h with h; omega
     have hrS:∃ o l c,r = .slice o l c:=⟨_,_,_,hrr.symm⟩
   case' neg=>
     have hap:=app126 (X:=(N + 1,Blk.cells [] 145) :: (N,Blk.cells [iv a0,iv a1,iv a2,iv a3,iv a4,iv a5,iv a6,iv a7,.bool ho,.slice oq T.smp.length cq] 144) :: Hx) (N:=N + 1) (M:=N + 1 + 1) (hqX _ (hSub2 _ _)) he (by simp) hsmi
     refine E.reg hr0 (by simp [-builtinA,hap]; rfl) ?_
     obtain ⟨r,hrr⟩:∃ r,Value.slice (some ⟨N + 1 + 1,0,some 0⟩) T.smp.length 0=r:=⟨_,rfl⟩
     obtain ⟨M,hMd⟩:∃ M,N + 1 + 1 + 1=M:=⟨_,rfl⟩
     obtain ⟨Hy,hHy⟩:∃ Hy,(N + 1 + 1,Blk.ext (T.smp.map rv) 145 1) :: (N + 1,Blk.cells [] 145) :: (N,Blk.cells [iv a0,iv a1,iv a2,iv a3,iv a4,iv a5,iv a6,iv a7,.bool ho,.slice (some ⟨N + 1 + 1,0,some 0⟩) T.smp.length 0] 144) :: Hx=Hy:=⟨_,rfl⟩
     have hbN:hget Hy N=some (.cells [iv a0,iv a1,iv a2,iv a3,iv a4,iv a5,iv a6,iv a7,.bool ho,r] 144):=by rw [← hHy,← hrr]; simp
     have hMy:Ab.MS true L (n + 2) 144 103 145 (n + 2) s (ts.take i) rs Hy M o:=by rw [← hHy,← hMd]; exact (hMM _ _).skip (fun k c h=>by have:=hLlt k c h; omega) _
     have hrow2:RowOk 145 Hy (n + 2) M r T.smp:=by
       rw [← hrr,← hMd]
       exact .inr ⟨N + 1 + 1,false,by omega,by omega,rfl,by rw [← hHy]; simp [Ab.rowV]⟩
     have hrn:∀ m,nmO r=some m → N ≤ m:=fun m h=>by
       rw [← hrr] at h
       have h:some (N + 1 + 1)=some m:=h
       injection h with h; omega
     have hrS:∃ o l c,r = .slice o l c:=⟨_,_,_,hrr.symm⟩
   all_goals
     refine E.lead { fr:=(5,ptA N) :: fr82 n i,sz:=33,H:=Hy,n:=M,marks:=[],vs:=[1,2,3,4] } (.keep (by show M=_; rw [← hMd]) rfl rfl (by simp) (by rw [← hHy]; exact Sub.refl _)) ?_
     have htc:tc T r=[iv a0,iv a1,iv a2,iv a3,iv a4,iv a5,iv a6,iv a7,.bool ho,r]:=by rw [tc,hhd,hho]; rfl
     have hkr:∀ (j:Nat) q m,rs[j]? = some q → nmO q=some m → m < N:=fun j q m hq hm=>by
       have hj:j < (ts.take i).length:=by rw [hM.len]; exact (List.getElem?_eq_some_iff.1 hq).1
       exact ((hM.row j _ q (List.getElem?_eq_getElem hj) hq).1.lt hm).2
     obtain ⟨Hw,Hz,hap2,hst2,hM2⟩:=hMy.app (P:=Tryz.prog) (st:=101) (i:=Tryz.t144) hLlt Tryz.underlying101 inf144 sz144i zo144 by144 (by omega) h8 hrow2 (fun e=>by have:=hrn _ e; have:=hM.kbn; omega) (fun h0 e=>by have:=hrn _ e; have:=hM.out h0; omega) (fun q hq=>by
       obtain ⟨j,hj,rfl⟩:=List.getElem_of_mem hq
       cases hm:nmO r with
       | none=>exact .inl rfl
       | some m=>
         refine .inr fun e=>?_
         have:=hkr j _ m (List.getElem?_eq_getElem hj) e.symm
         have:=hrn m hm
         omega)
     rw [htl,htc] at hap2
     rw [htl] at hst2
     rw [outS_ne (Nat.succ_ne_zero _)] at hap2 hst2
     have hboxy:=hMy.box
     rw [htl] at hboxy
     have hbc:cellA Hy (n + 2) 1=some (outS o i):=by rw [cellA_eq,hboxy]; rfl
     have hlb:=load144 (H:=Hy) (k:=N) (o:=0) (cs:=[iv a0,iv a1,iv a2,iv a3,iv a4,iv a5,iv a6,iv a7,.bool ho,r]) (by rw [cellsA_eq,hbN]; rfl)
     have hlo:loadA Tryz.prog 101 Hy (.pointer (some ⟨n + 2,1,none⟩))=some (outS o i):=by simp [-cellA,hbc]
     obtain ⟨ro,rl,rc,hrS⟩:=hrS
     subst hrS
     refine E.reg hr0 (by simp [-loadA,-builtinA,-storeA,hlo,hlb,hap2,hst2]; rfl) ?_
     refine E.reg hr0 (by simp [hw]; rfl) ?_
     exact ⟨(i + 1,Hz,M + 1 + 1,M + 1,rs ++ [_]),.keep rfl rfl rfl (by simp) (Sub.refl _),⟨hil,by rw [htk]; exact hM2,by dsimp only; omega⟩,by dsimp only; omega⟩
 · have hil':i=ts.length:=by omega
   subst hil'
   refine E.cond (t:=false) (by simp) (fun h=>by cases h) (fun _=>?_)
   refine E.exit ?_
   rw [List.take_length] at hM htl
   have hld3:=load103 (H:=Hx) (n:=n + 2) (s:=s) (u:=outS o ts.length) hbox
   have hb1x:=hM.sub _ _ hb1
   have hst3:storeA Hx (n + 1) 0 [.string s,outS o ts.length]=some (hset Hx (n + 1) (.cells [.string s,outS o ts.length] 103)):=store_all hb1x rfl
   have hld4:=load103 (H:=hset Hx (n + 1) (.cells [.string s,outS o ts.length] 103)) (n:=n + 1) (s:=s) (u:=outS o ts.length) (by rw [hget_hset,if_pos rfl,hb1x]; rfl)
   have hone:oneL [Value.string s,outS o ts.length]=true:=by
     unfold outS
     split <;> rfl
   have hM0:=MS.low hM hS (show n ≤ n + 2 by omega)
   have hM1:Ab.MS true (tidy n H) n 144 103 145 (n + 2) s ts rs (hset Hx (n + 1) (.cells [.string s,outS o ts.length] 103)) N o:=hM0.other (Nat.le_refl _) (namesOk_hset hM.nm) (sub_hset hM0.sub (hT _ (by omega))) fun m hm1 hm2 hm=>by
     rw [hget_hset,if_neg]
     rcases hm with rfl | rfl | ⟨r,hr,hm⟩
     · omega
     · omega
     · obtain ⟨j,hj,rfl⟩:=List.getElem_of_mem hr
       have hjt:j < ts.length:=by rw [hM.len]; exact hj
       have:=((hM.row j _ _ (List.getElem?_eq_getElem hjt) (List.getElem?_eq_getElem hj)).1.lt hm).1
       omega
   refine E.seq (E.reg hr0 (by simp [-loadA,-storeA,-oneL,hld3,hst3,hone]; rfl) ?_)
   refine E.ret ?_
   exact outM.ret _ rfl (vs:=[.agg ⟨[.string s,outS o ts.length]⟩]) (by simp [-loadA,resultsA,resultA,Tryz.results82,hld4]) ⟨n + 2,rs,o,rfl,hM1⟩
def refB (ts:List Trc) (w st:Int) (t i:Nat):Nat:=if livB ts t w st i then (match ts[i]? with
 | some x=>x.smp.getD (movV t (offV x.hd) w).toNat 0
 | none=>0) else 0
def refG (ts:List Trc) (w st:Int) (d:Nat → Nat → Bool):List Trc:=ts.mapIdx fun i x=>⟨x.hd,x.hole,x.smp.mapIdx fun t b=>if d i t then refB ts w st t i else b⟩
theorem refG_at {ts:List Trc} {w st:Int} {d:Nat → Nat → Bool} {i:Nat} {x:Trc} (h:ts[i]? = some x):(refG ts w st d)[i]? = some ⟨x.hd,x.hole,x.smp.mapIdx fun t b=>if d i t then refB ts w st t i else b⟩:=by
 unfold refG
 rw [List.getElem?_mapIdx,h]
 rfl
theorem refG_len {ts:List Trc} {w st:Int} {d:Nat → Nat → Bool}:(refG ts w st d).length=ts.length:=List.length_mapIdx
theorem mapIdx_same {α:Type} {l:List α} {f g:Nat → α → α} (h:∀ i (x:α),l[i]? = some x → f i x=g i x):l.mapIdx f=l.mapIdx g:=by
 apply List.ext_getElem?
 intro i
 rw [List.getElem?_mapIdx,List.getElem?_mapIdx]
 cases hc:l[i]? with
 | none=>rfl
 | some x=>simp [h i x hc]
theorem refG_congr {ts:List Trc} {w st:Int} {d e:Nat → Nat → Bool} (h:∀ (i t:Nat) x,ts[i]? = some x → t < x.smp.length → d i t=e i t):refG ts w st d=refG ts w st e:=by
 apply List.ext_getElem?
 intro i
 cases hc:ts[i]? with
 | some x=>
   rw [refG_at hc,refG_at hc]
   congr 2
   refine mapIdx_same fun t b hb=>?_
   rw [h i t x hc (List.getElem?_eq_some_iff.1 hb).1]
 | none=>
   have hi:=List.getElem?_eq_none_iff.1 hc
   rw [List.getElem?_eq_none (by rw [refG_len]; exact hi),List.getElem?_eq_none (by rw [refG_len]; exact hi)]
theorem refG_zero {ts:List Trc} {w st:Int}:refG ts w st (dn 0 0)=ts:=by
 apply List.ext_getElem?
 intro i
 cases hc:ts[i]? with
 | some x=>
   rw [refG_at hc]
   have:(x.smp.mapIdx fun t b=>if dn 0 0 i t then refB ts w st t i else b)=x.smp:=by
     apply List.ext_getElem?
     intro j
     rw [List.getElem?_mapIdx]
     cases x.smp[j]? <;> simp [dn]
   rw [this]
 | none=>rw [List.getElem?_eq_none (by rw [refG_len]; exact List.getElem?_eq_none_iff.1 hc)]
theorem mapIdx_set {l:List Nat} {k b:Nat} {f:Nat → Nat → Nat}:(l.mapIdx f).set k b=l.mapIdx fun t x=>if t=k then b else f t x:=by
 apply List.ext_getElem?
 intro j
 rw [List.getElem?_set,List.getElem?_mapIdx,List.getElem?_mapIdx]
 by_cases e:k=j
 · subst e
   rw [if_pos rfl,List.length_mapIdx]
   split
   · rename_i h
     rw [List.getElem?_eq_getElem h]
     simp
   · rename_i h
     rw [List.getElem?_eq_none (by omega)]
     rfl
 · rw [if_neg e]
   have hne:¬ j=k:=fun h=>e h.symm
   cases l[j]? <;> simp [hne]
theorem refG_put {ts:List Trc} {w st:Int} {k i:Nat}:putT (refG ts w st (dn k i)) i k (refB ts w st k i)=refG ts w st (dn k (i + 1)):=by
 apply List.ext_getElem?
 intro j
 cases hc:ts[j]? with
 | some x=>
   rw [putT_at (refG_at hc),refG_at hc]
   congr 1
   by_cases e:i=j
   · subst e
     rw [if_pos rfl]
     dsimp only
     rw [mapIdx_set]
     congr 1
     refine mapIdx_same fun t b _=>?_
     unfold dn
     by_cases h1:t=k
     · subst h1
       simp
     · simp [h1]
   · rw [if_neg e]
     congr 1
     refine mapIdx_same fun t b _=>?_
     unfold dn
     by_cases h1:j < i
     · simp [h1,show j < i + 1 by omega]
     · simp [h1,show ¬ j < i + 1 by omega]
 | none=>
   have hi:=List.getElem?_eq_none_iff.1 hc
   rw [List.getElem?_eq_none (by rw [putT_len,refG_len]; exact hi),List.getElem?_eq_none (by rw [refG_len]; exact hi)]
theorem refG_hole {ts:List Trc} {w st:Int} {k i:Nat} {x:Trc} (hx:ts[i]? = some x) (he:x.smp=[]):refG ts w st (dn k i)=refG ts w st (dn k (i + 1)):=by
 refine refG_congr fun j t y hy ht=>?_
 have:j ≠ i:=fun e=>by
   subst e
   rw [hx] at hy
   injection hy with hy
   rw [← hy,he] at ht
   cases ht
 unfold dn
 by_cases h1:j < i
 · simp [h1,show j < i + 1 by omega]
 · simp [h1,show ¬ j < i + 1 by omega]
theorem refG_next {ts:List Trc} {w st:Int} {k:Nat}:refG ts w st (dn k ts.length)=refG ts w st (dn (k + 1) 0):=by
 refine refG_congr fun j t y hy _=>?_
 have hj:=(List.getElem?_eq_some_iff.1 hy).1
 unfold dn
 by_cases h1:t < k
 · simp [h1,show t < k + 1 by omega]
 · by_cases h2:t=k
   · simp [h2,hj]
   · simp [h1,h2,show ¬ t < k + 1 by omega]
theorem livL_has {ts:List Trc} {t w st:Int} {i:Nat}:∀ k:Nat,(livL ts t w st k).contains (i:Int)=(decide (i < k) && livB ts t w st i)
 | 0=>by simp [livL]
 | k + 1=>by
   rw [livL]
   by_cases hb:livB ts t w st k=true
   · rw [if_pos hb]
     have:=livL_has (ts:=ts) (t:=t) (w:=w) (st:=st) (i:=i) k
     rw [List.contains_eq_mem] at this ⊢
     by_cases e:i=k
     · subst e
       simp [hb]
     · have:(decide ((i:Int) ∈ livL ts t w st k ++ [(k:Int)]))=decide ((i:Int) ∈ livL ts t w st k):=by
         simp [show ¬ (i:Int)=k by omega]
       rw [this,‹decide ((i:Int) ∈ livL ts t w st k)=_›]
       congr 1
       simp only [decide_eq_decide]
       omega
   · rw [if_neg hb,livL_has k]
     by_cases e:i=k
     · subst e
       simp [hb]
     · congr 1
       simp only [decide_eq_decide]
       omega
theorem MS.rebox {F:Bool} {L Hx:Heap} {n t tb tf kb N o tb':Nat} {s:ByteArray} {ts:List Trc} {rs:List Value} (hL:∀ k b,hget L k=some b → k < n) (h:Ab.MS F L n t tb tf kb s ts rs Hx N o):Ab.MS F L n t tb' tf N s ts rs ((N,.cells [.string s,outrV F o ts.length] tb') :: Hx) (N + 1) o:=by
 have h2:=h.skip hL (.cells [.string s,outrV F o ts.length] tb')
 have hb:=h.big
 refine ⟨h2.sub,h2.nm,h2.big,h2.len,h2.h8,fun h0=>?_,by rw [hget_cons,if_pos rfl],by omega,fun i x r hx hr=>?_,h2.sep⟩
 · obtain ⟨g1,g2,g3,g4⟩:=h2.out h0
   have:=(h.out h0).2.2.1
   exact ⟨g1,g2,g3,by omega⟩
 · obtain ⟨g1,g2,g3⟩:=h2.row i x r hx hr
   refine ⟨g1,fun e=>?_,g3⟩
   have:=((h.row i x r hx hr).1.lt e).2
   omega
def g140 (args:List Value) (H:Heap) (n:Nat):R:=match args with
 | [v,.int .i64 x]=>match intV H v with
   | some l=>some (.bool (l.contains x),H,n)
   | none=>none
 | _=>none
theorem ok140:EntOk Tryz.prog (140,g140):=by
 intro args H n v H' n' h
 simp only [g140] at h
 split at h
 · split at h
   · rename_i l hl
     injection h with h; injection h with e1 e2; injection e2 with e2 e3; subst e1 e2 e3
     exact w140 hl
   · cases h
 · cases h
theorem intV_at {N:Nat} {H:Heap} {l:List Int} (h:l ≠ [] → hget H N=some (.ext (l.map iv) 3 1)) (hlt:l.length < 2147483648):intV H (outS N l.length)=some l:=by
 by_cases h0:l=[]
 · subst h0; rfl
 · have h1:l.length ≠ 0:=fun e=>h0 (List.length_eq_zero_iff.1 e)
   rw [outS_ne h1]
   have e:l.map iv=l.flatMap fun z=>[iv z]:=List.map_eq_flatMap
   refine listV_flat (c:=fun z=>[iv z]) (sz:=1) (fun _=>rfl) (fun _=>rfl) rfl ?_ hlt
   rw [cellsA_eq,h h0,← e]
   simp only [Option.bind_some,cellsB]
   rw [if_pos (by simp),List.drop_zero,List.take_of_length_le (by simp)]
abbrev vs68:List Nat:=[1,2,3,6,7,8,9,10]
theorem lt_cells {H:Heap} {N k o m:Nat} {cs:List Value} (hn:namesOk N H=true) (h:cellsA H k o m=some cs):k < N:=by
 rw [cellsA_eq] at h
 cases hc:hget H k with
 | none=>rw [hc] at h; cases h
 | some b=>exact namesOk_iff.1 hn (k,b) (hget_mem _ _ _ hc)
theorem lt_cell {H:Heap} {N k o:Nat} {v:Value} (hn:namesOk N H=true) (h:cellA H k o=some v):k < N:=by
 rw [cellA_eq] at h
 cases hc:hget H k with
 | none=>rw [hc] at h; cases h
 | some b=>exact namesOk_iff.1 hn (k,b) (hget_mem _ _ _ hc)
abbrev fr68 (n b:Nat) (w st:Int) (k:Nat):Fr:=[(1,iv w),(2,iv st),(3,ptA n),(6,ptA (n + 1)),(7,ptA b),(8,iv k)]
abbrev fr68b (n b:Nat) (w st:Int) (k N l i:Nat):Fr:=[(1,iv w),(2,iv st),(3,ptA n),(6,ptA (n + 1)),(7,ptA b),(8,iv k),(9,outS N l),(10,iv i)]
set_option maxHeartbeats 6400000 in
set_option maxRecDepth 100000 in
theorem w68 {H:Heap} {n:Nat} {v:Value} {s:ByteArray} {ts:List Trc} {w st:Int} (hv:shtV H v=some (s,ts)) (hok:OkS ts) (hwr:1 ≤ w ∧ w ≤ 1000000000) (hsr:0 ≤ st ∧ st ≤ 1024) (hlt:∀ k b,hget H k=some b → k < n):∃ u H' n',AC Tryz.prog 68 [v,iv w,iv st] H n u H' n' ∧ MadeS H n H' n' u (s,refG ts w st (dn (widN ts) 0)) ∧ ∃ kb rs o,u = .agg ⟨[.string s,outrV true o (refG ts w st (dn (widN ts) 0)).length]⟩ ∧ Ab.MS true (tidy n H) n 144 103 145 kb s (refG ts w st (dn (widN ts) 0)) rs H' n' o:=by
 replace hv:=shtV_tidy (n:=n) hlt hv
 have hr:=recT_ok (P:=Tryz.prog) (l:=[(82,gEx Tryz.prog 82 (Q82 s ts)),(81,g81),(67,g67),(140,g140),(139,g139),(19,g19)]) (by simp only [List.forall_mem_cons]; exact ⟨gEx_ok,ok81,ok67,ok140,ok139,ok19,by simp⟩)
 have hr0:=recT_ok (P:=Tryz.prog) (l:=[]) (by simp)
 obtain ⟨u,rfl,ht⟩:=shtV_form hv
 obtain ⟨oa,c,rfl,hl31,_,hrow⟩:=trcV_form ht
 have hT:∀ j,n ≤ j → hget (tidy n H) j=none:=fun j hj=>by
   cases hc:hget (tidy n H) j with
   | none=>rfl
   | some b=>exact absurd (tidy_lt _ _ hc) (by omega)
 have hw0:=hok.w0
 have h64:=hok.len
 have hhd:hdsOk ts:=hok.hd
 have hne:ts ≠ []:=fun e=>by rw [e] at h64; simp at h64
 obtain ⟨W,hW⟩:∃ W,widN ts=W:=⟨_,rfl⟩
 have hWI:(widF ts).1=(W:Int):=by rw [← hW]; unfold widN; omega
 have hW1024:W ≤ 1024:=by omega
 have hsl:∀ x ∈ ts,x.smp.length ≤ 1024:=fun x hx=>(trcE_ok (hok.err x hx)).2.2.1
 rw [hW]
 refine made_shtM (F:=true) (t:=144) (tb:=103) (tf:=145) (ts:=refG ts w st (dn W 0)) (s:=s) Tryz.func68 rfl (by kernel_rfl) rfl vs68 hlt (by rw [refG_len]; omega) (fun x hx=>?_) (fun e=>hne (List.length_eq_zero_iff.1 (by rw [← refG_len (w:=w) (st:=st) (d:=dn W 0),e]; rfl))) ?_
 · obtain ⟨i,hi,rfl⟩:=List.getElem_of_mem hx
   rw [refG_len] at hi
   have:=refG_at (w:=w) (st:=st) (d:=dn W 0) (List.getElem?_eq_getElem hi)
   rw [List.getElem?_eq_getElem (by rw [refG_len]; exact hi)] at this
   injection this with this
   rw [this]
   dsimp only
   have:=hsl _ (List.getElem_mem hi)
   rw [List.length_mapIdx]; omega
 obtain ⟨L,hL⟩:∃ L,(n + 1,Blk.cells [.string ⟨#[]⟩,.slice none 0 0] 103) :: (n,Blk.cells [.string s,.slice oa ts.length c] 103) :: tidy n H=L:=⟨_,rfl⟩
 have hS:Sub (tidy n H) L:=by rw [← hL]; exact (Sub.cons (hT _ (Nat.le_refl _)) (Sub.refl _)).trans (Sub.cons (by rw [hget_cons,if_neg (by omega)]; exact hT _ (by omega)) (Sub.refl _))
 have hLn:namesOk (n + 2) L=true:=by rw [← hL]; exact namesOk_put (by omega) (namesOk_put (by omega) (by simp))
 have hLlt:∀ k b,hget L k=some b → k < n + 2:=fun k b hk=>namesOk_iff.1 hLn (k,b) (hget_mem _ _ _ hk)
 have hb0:hget L n=some (.cells [.string s,.slice oa ts.length c] 103):=by rw [← hL,hget_cons,if_neg (by omega),hget_cons,if_pos rfl]
 have hb1:hget L (n + 1)=some (.cells [.string ⟨#[]⟩,.slice none 0 0] 103):=by rw [← hL,hget_cons,if_pos rfl]
 have hLp:∀ k b,hget L k=some b → k < n + 2 ∧ plainB2 b=true:=fun k b hk=>⟨hLlt k b hk,by
   rw [← hL,hget_cons] at hk
   split at hk
   · injection hk with hk; subst hk; rfl
   · rw [hget_cons] at hk
     split at hk
     · injection hk with hk; subst hk; rfl
     · exact (hget_tidy.1 hk).2.2⟩
 have hLT:Sub L (tidy (n + 2) L):=fun k b hk=>hget_tidy.2 ⟨hk,(hLp k b hk).1,(hLp k b hk).2⟩
 have hTL:∀ k b,hget (tidy (n + 2) L) k=some b → k < n + 2:=fun k b hk=>tidy_lt _ _ hk
 have hTLp:∀ k b,hget (tidy (n + 2) L) k=some b → k < n + 2 ∧ plainB2 b=true:=fun k b hk=>⟨tidy_lt _ _ hk,(hget_tidy.1 hk).2.2⟩
 have hld:=load103 (H:=L) (n:=n) hb0
 obtain ⟨u2,H2,n2,h82,hMade,kb0,rs,o,rfl,hM0⟩:=gEx_at (args:=[.agg ⟨[.string s,.slice oa ts.length c]⟩]) (w82M (n:=n + 2) (shtV_mono hS hv) hLlt (fun x hx=>by have:=hsl x hx; omega) hne)
 have h82:∀ m,m=n + 1 + 1 → gEx Tryz.prog 82 (Q82 s ts) [.agg ⟨[.string s,.slice oa ts.length c]⟩] L m=some (.agg ⟨[.string s,outrV true o ts.length]⟩,H2,n2):=fun m hm=>by rw [hm]; exact h82
 replace h82:=h82 _ rfl
 have hout:outrV true o ts.length=outS o ts.length:=rfl
 rw [hout] at h82
 have hone:oneL [Value.string s,outS o ts.length]=true:=by
   unfold outS
   split <;> rfl
 have hst7:storeA ((n2,.cells [.string ⟨#[]⟩,.slice none 0 0] 103) :: H2) n2 0 [.string s,outS o ts.length]=some ((n2,.cells [.string s,outS o ts.length] 103) :: H2):=by
   have:=store_all (H:=(n2,.cells [.string ⟨#[]⟩,.slice none 0 0] 103) :: H2) (t:=103) (zs:=[.string ⟨#[]⟩,.slice none 0 0]) (cs:=[.string s,outS o ts.length]) (by rw [hget_cons,if_pos rfl]) rfl
   rw [this]
   simp
 refine E.seq (E.reg hr (by simp; rfl) ?_)
 rw [hL]
 refine E.seq (E.reg hr (by simp [-loadA,-storeA,-oneL,hld,h82,hst7,hone]; rfl) ?_)
 have hM1:=MS.rebox (tb':=103) hTL hM0
 obtain ⟨Z,hZ⟩:∃ Z,(n2,Blk.cells [.string s,outS o ts.length] 103) :: H2=Z:=⟨_,rfl⟩
 rw [hout,hZ] at hM1
 rw [hZ]
 have hrm:∀ (r:Value),r ∈ rs → ∀ m,nmO r=some m → n + 2 ≤ m ∧ m < n2:=fun r hr' m hm=>by
   obtain ⟨j,hj,rfl⟩:=List.getElem_of_mem hr'
   have hjt:j < ts.length:=by rw [hM0.len]; exact hj
   exact (hM0.row j _ _ (List.getElem?_eq_getElem hjt) (List.getElem?_eq_getElem hj)).1.lt hm
 have hor:=(hM0.out hne).2
 have hbig0:=hM0.big
 refine E.seq (E.seq (E.reg hr0 (by simp; rfl) ?_))
 refine E.block (E.loop ?_)
 refine EL.ind (fun x:Nat × Heap × Nat=>{ fr:=fr68 n n2 w st x.1,sz:=75,H:=x.2.1,n:=x.2.2,marks:=[],vs:=vs68 }) (fun x=>W - x.1) (fun x=>x.1 ≤ W ∧ Ab.MS true (tidy (n + 2) L) (n + 2) 144 103 145 n2 s (refG ts w st (dn x.1 0)) rs x.2.1 x.2.2 o) (0,Z,n2 + 1) (.keep rfl rfl rfl (by simp) (Sub.refl _)) ⟨Nat.zero_le _,by rw [refG_zero]; exact hM1⟩ (fun _=>rfl) ?_
 rintro ⟨k,Hx,N⟩ ⟨hk,hM⟩
 dsimp only at hk hM ⊢
 have hLx:Sub L Hx:=hLT.trans hM.sub
 have hbig:=hM.big
 have hkbn:=hM.kbn
 have hwk:IntKind.i64.wrap ((k:Int) + 1)=(k:Int) + 1:=W_in (by omega) (by omega)
 have hvx:shtV Hx (.agg ⟨[.string s,.slice oa ts.length c]⟩)=some (s,ts):=shtV_mono (hS.trans hLx) hv
 have hldx:=load103 (hLx _ _ hb0)
 have h81:∀ m,g81 [.agg ⟨[.string s,.slice oa ts.length c]⟩] Hx m=some (iv W,Hx,m):=fun m=>by
   simp only [g81,hvx,hWI]
 refine E.seq (E.seq (E.reg hr (by simp [-loadA,hldx,h81]; rfl) ?_))
 by_cases hkW:k < W
 · refine E.cond (t:=true) (by simp [hkW]) (fun _=>?_) (fun h=>by cases h)
   refine E.skip ?_
   obtain ⟨LV,hLV⟩:∃ l,livL ts k w st ts.length=l:=⟨_,rfl⟩
   have hLVlen:LV.length ≤ ts.length:=by rw [← hLV]; exact livL_len _ _ _ _ _
   have h67:∀ m,g67 [.agg ⟨[.string s,.slice oa ts.length c]⟩,iv k,iv w,iv st] Hx m=some (outS m LV.length,outSB m 3 1 LV.length (LV.map iv) ++ Hx,m + 1):=fun m=>by
     simp only [g67,hvx]
     rw [if_pos ⟨hhd,⟨by omega,by omega⟩,hwr,hsr⟩,hLV]
   refine E.seq (E.block ?_)
   refine E.seq (E.reg hr (by simp [-loadA,hldx,h67]; rfl) ?_)
   obtain ⟨Hl,hHl⟩:∃ X,outSB N 3 1 LV.length (LV.map iv) ++ Hx=X:=⟨_,rfl⟩
   have hHN:∀ j,N ≤ j → hget Hx j=none:=fun j hj=>by
     cases hc:hget Hx j with
     | none=>rfl
     | some b=>have:=namesOk_iff.1 hM.nm (j,b) (hget_mem _ _ _ hc); dsimp only at this; omega
   have hMl:Ab.MS true (tidy (n + 2) L) (n + 2) 144 103 145 n2 s (refG ts w st (dn k 0)) rs Hl (N + 1) o:=by
     refine hM.wide ?_ ?_ (Nat.le_succ _)
     · rw [← hHl,outSB]
       split
       · exact Sub.refl _
       · exact Sub.cons (hHN _ (Nat.le_refl _)) (Sub.refl _)
     · rw [← hHl,outSB]
       split
       · exact namesOk_mono (Nat.le_succ _) _ hM.nm
       · exact namesOk_put (by omega) (namesOk_mono (Nat.le_succ _) _ hM.nm)
   have hll:LV ≠ [] → hget Hl N=some (.ext (LV.map iv) 3 1):=fun h=>by
     rw [← hHl,outSB,if_neg fun e=>h (List.length_eq_zero_iff.1 e)]
     simp
   rw [hHl]
   refine E.seq (E.reg hr0 (by simp; rfl) ?_)
   refine E.block (E.loop ?_)
   refine EL.ind (fun x:Nat × Heap × Nat=>{ fr:=fr68b n n2 w st k N LV.length x.1,sz:=75,H:=x.2.1,n:=x.2.2,marks:=[],vs:=vs68 }) (fun x=>ts.length - x.1) (fun x=>x.1 ≤ ts.length ∧ Ab.MS true (tidy (n + 2) L) (n + 2) 144 103 145 n2 s (refG ts w st (dn k x.1)) rs x.2.1 x.2.2 o ∧ (LV ≠ [] → hget x.2.1 N=some (.ext (LV.map iv) 3 1)) ∧ N < x.2.2) (0,Hl,N + 1) (.keep rfl rfl rfl (by simp) (Sub.refl _)) ⟨Nat.zero_le _,hMl,hll,Nat.lt_succ_self _⟩ (fun _=>rfl) ?_
   rintro ⟨i,Hy,M⟩ ⟨hi,hMy,hly,hNM⟩
   dsimp only at hi hMy hly hNM ⊢
   replace hMy:=hMy.tidy fun k b h=>⟨by have:=(hTLp k b h).1; omega,(hTLp k b h).2⟩
   replace hly:LV ≠ [] → hget (tidy M Hy) N=some (.ext (LV.map iv) 3 1):=fun h=>hget_tidy.2 ⟨hly h,hNM,rfl⟩
   refine E.lead { fr:=fr68b n n2 w st k N LV.length i,sz:=75,H:=tidy M Hy,n:=M,marks:=[],vs:=vs68 } (.keep rfl rfl rfl (by simp) fun k b h=>(hget_tidy.1 h).1) ?_
   have hpl:plainH (tidy M Hy)=true:=by simp
   obtain ⟨T,hT'⟩:∃ T,tidy M Hy=T:=⟨_,rfl⟩
   rw [hT'] at hMy hly hpl ⊢
   have hnm:=hMy.nm
   have hLy:Sub L T:=hLT.trans hMy.sub
   have hwi:IntKind.i64.wrap ((i:Int) + 1)=(i:Int) + 1:=W_in (by omega) (by omega)
   have hc1:cellA T n 1=some (.slice oa ts.length c):=by rw [cellA_eq,hLy _ _ hb0]; rfl
   refine E.seq (E.seq (E.reg hr0 (by simp [-cellA,hc1]; rfl) ?_))
   by_cases hil:i < ts.length
   · refine E.cond (t:=true) (by simp [hil]) (fun _=>?_) (fun h=>by cases h)
     obtain ⟨a,q,rfl,hf,hcs,h8,hq⟩:=hrow i hil
     have hcsy:=hLy.cells (hS.cells hcs)
     obtain ⟨hc8,hc9,_⟩:=trc_cells hcsy h8
     have hldt:=load144 hcsy
     have hhas:LV.contains (i:Int)=livB ts k w st i:=by
       rw [← hLV,livL_has]
       simp [hil]
     have h140:∀ m,g140 [outS N LV.length,iv i] T m=some (.bool (livB ts k w st i),T,m):=fun m=>by
       simp only [g140,intV_at hly (show LV.length < 2147483648 by omega),hhas]
     have hbx:=hMy.box
     rw [refG_len] at hbx
     have hts0:ts.length ≠ 0:=by omega
     have hbc:cellA T n2 1=some (.slice (some ⟨o,0,some 0⟩) ts.length 0):=by
       rw [cellA_eq,hbx]
       show some (outS o ts.length)=_
       rw [outS_ne hts0]
     have hus:=refG_at (w:=w) (st:=st) (d:=dn k i) (List.getElem?_eq_getElem hil)
     obtain ⟨r,hr'⟩:∃ r,rs[i]? = some r:=⟨_,List.getElem?_eq_getElem (by rw [← hMy.len,refG_len]; exact hil)⟩
     refine E.skip (E.seq ?_)
     refine E.block (E.seq (E.reg hr (by simp [h140]; rfl) ?_))
     have hslen:∀ x,ts[i]? = some x → x.hole=false → k < x.smp.length:=fun x hx hh=>by
       have:=hok.wid x (List.mem_of_getElem? hx) hh
       omega
     have hn2M:n2 < M:=by have:=hMy.kbn; omega
     have hoM:o < M:=by omega
     have hnM:n < M:=by omega
     have haM:=lt_cells hnm hcsy
     have hputN:∀ {a2:Addr} {b:Nat} {Hz:Heap},(∀ m,nmO r=some m → a2.block=m) → nmO r ≠ none → storeA T a2.block k [rv b]=some Hz → (LV ≠ [] → hget Hz N=some (.ext (LV.map iv) 3 1)):=fun {a2 b Hz} h1 h2 h3 h=>by
       obtain ⟨x,rfl⟩:=storeA_form h3
       cases hm:nmO r with
       | none=>exact absurd hm h2
       | some m=>
         have:=h1 m hm
         have:=(hrm r (List.mem_of_getElem? hr') m hm).2
         rw [hget_hset,if_neg (by omega)]
         exact hly h
     have hcr:=(hMy.at9 hus hr').1
     by_cases hlv:livB ts k w st i=true
     · have hlv2:=hlv
       rw [livB_at hil] at hlv2
       simp only [Bool.and_eq_true,Bool.not_eq_true',decide_eq_true_eq] at hlv2
       obtain ⟨hho,hmW,_⟩:=hlv2
       rw [hWI] at hmW
       have hkl:=hslen _ (List.getElem?_eq_getElem hil) hho
       have hhdi:=hok.hd _ (List.getElem_mem hil)
       have hob:=(off_bound hhdi).2
       have hin:MvIn k (offV ts[i].hd) w:=⟨by omega,by omega,hob.1,hob.2,hwr.1,hwr.2⟩
       obtain ⟨mv,hmv⟩:∃ mv,movV k (offV ts[i].hd) w=mv:=⟨_,rfl⟩
       have hmv0:0 ≤ mv:=by rw [← hmv]; unfold movV; omega
       rw [hmv] at hmW
       have hmlen:(ts[i].smp.length:Int)=W:=by rw [hok.wid _ (List.getElem_mem hil) hho,hWI]
       have hmI:(mv.toNat:Int)=mv:=by omega
       have hqT:=listV_mono decR_mono (hS.trans hLy) hq
       obtain ⟨oq,cq,rfl,hlq,_,hqx⟩:=reaV_form hqT
       obtain ⟨aq,rfl,hfq,hcq⟩:=hqx mv.toNat (by omega)
       have hqM:=lt_cell hnm hcq
       have hrB:refB ts w st k i=ts[i].smp[mv.toNat]'(by omega):=by
         unfold refB
         rw [if_pos hlv,List.getElem?_eq_getElem hil]
         show ts[i].smp.getD (movV k (offV ts[i].hd) w).toNat 0=_
         rw [hmv,List.getD_eq_getElem?_getD,List.getElem?_eq_getElem (by omega)]
         rfl
       rw [← hrB] at hcq
       obtain ⟨a2,c2,Hz,hra,ha0,haf,hst,hMz⟩:=hMy.put hTL (b:=refB ts w st k i) hus hr' (by dsimp only; rw [List.length_mapIdx]; exact hkl)
       dsimp only at hra
       rw [List.length_mapIdx] at hra
       have hnr:nmO r=some a2.block:=by rw [hra]; rfl
       have ha2M:a2.block < M:=by have:=(hrm r (List.mem_of_getElem? hr') _ hnr).2; omega
       rw [hra] at hcr
       have hNz:=hMz.nm
       have h139:∀ m,g139 [.agg ⟨ts[i].hd.map iv ++ [.bool ts[i].hole,.slice (some aq) ts[i].smp.length cq]⟩] (frzH T) m=some (iv (offV ts[i].hd),frzH T,m):=fun m=>by
         have:=decT_mk (H:=T) h8 hqT
         rw [← decT_frz] at this
         simp only [g139,this,hhdi,if_true]
       have h19:∀ m,g19 [iv k,iv (offV ts[i].hd),iv w] (frzH T) m=some (iv mv,frzH T,m):=fun m=>by rw [← hmv]; exact if_pos hin
       have htk:=takeNew_frz hnm
       have hkI:(k:Int) < ts[i].smp.length:=by omega
       have hfo:flat ⟨o,0,some 0⟩=true:=rfl
       have hmlt:mv < ts[i].smp.length:=by omega
       rw [hlv]
       refine E.cond (t:=true) (by simp) (fun _=>?_) (fun h=>by cases h)
       refine E.drawU mixed hr [25] [19,21,25] [1,5,8,12,15,18,19,21,23,25] (by kernel_rfl) (by simp [-cellA,-cellsA,-flat,-readA,-storeA,cellA_read,cellsA_read,hn2M,hoM,hnM,haM,hqM,hpl,hnm,htk,hc1,hbc,hcsy,hc9,hcr,hil,hf,hfq,hfo,haf,hmlt,hmv0,hkI,ha0,h139,h19,hcq,hst,hNz]; rfl) ?_
       refine E.reg hr0 (by simp [hwi]; rfl) ?_
       exact ⟨(i + 1,Hz,M),.keep rfl rfl rfl (by simp) (Sub.refl _),⟨hil,by rw [← refG_put]; exact hMz,hputN (fun m h=>by rw [hnr] at h; injection h) (by rw [hnr]; simp) hst,hNM⟩,by dsimp only; omega⟩
     · have hlv:livB ts k w st i=false:=by simpa using hlv
       rw [hlv]
       have hrB:refB ts w st k i=0:=by unfold refB; rw [hlv]; rfl
       refine E.cond (t:=false) (by simp) (fun h=>by cases h) (fun _=>?_)
       refine E.seq (E.reg hr0 (by simp [-cellA,-flat,hc1,hil,hf,hc8]; rfl) ?_)
       by_cases hho:ts[i].hole=true
       · refine E.cond (t:=false) (by simp [hho]) (fun h=>by cases h) (fun _=>?_)
         refine E.skip (E.reg hr0 (by simp [hwi]; rfl) ?_)
         exact ⟨(i + 1,T,M),.keep rfl rfl rfl (by simp) (Sub.refl _),⟨hil,by rw [← refG_hole (List.getElem?_eq_getElem hil) (hok.hol _ (List.getElem_mem hil) hho)]; exact hMy,hly,hNM⟩,by dsimp only; omega⟩
       · have hho:ts[i].hole=false:=by simpa using hho
         have hkl:=hslen _ (List.getElem?_eq_getElem hil) hho
         refine E.cond (t:=true) (by simp [hho]) (fun _=>?_) (fun h=>by cases h)
         obtain ⟨a2,c2,Hz,hra,ha0,haf,hst,hMz⟩:=hMy.put hTL (b:=refB ts w st k i) hus hr' (by dsimp only; rw [List.length_mapIdx]; exact hkl)
         dsimp only at hra
         rw [List.length_mapIdx] at hra
         have hnr:nmO r=some a2.block:=by rw [hra]; rfl
         rw [hra] at hcr
         have hkI:(k:Int) < ts[i].smp.length:=by omega
         have hfo:flat ⟨o,0,some 0⟩=true:=rfl
         have hst0:=hst
         rw [hrB] at hst0
         refine E.reg hr0 (by simp [-cellA,-flat,-storeA,hbc,hcr,hil,hfo,haf,hkI,ha0,hst0]; rfl) ?_
         refine E.reg hr0 (by simp [hwi]; rfl) ?_
         exact ⟨(i + 1,Hz,M),.keep rfl rfl rfl (by simp) (Sub.refl _),⟨hil,by rw [← refG_put]; exact hMz,hputN (fun m h=>by rw [hnr] at h; injection h) (by rw [hnr]; simp) hst,hNM⟩,by dsimp only; omega⟩
   · have hil':i=ts.length:=by omega
     subst hil'
     refine E.cond (t:=false) (by simp) (fun h=>by cases h) (fun _=>?_)
     refine E.exit ?_
     refine E.reg hr0 (by simp [hwk]; rfl) ?_
     exact ⟨(k + 1,T,M),.keep rfl rfl rfl (by simp) (Sub.refl _),⟨hkW,by rw [← refG_next]; exact hMy⟩,by dsimp only; omega⟩
 · have hkW':k=W:=by omega
   subst hkW'
   refine E.cond (t:=false) (by simp) (fun h=>by cases h) (fun _=>?_)
   refine E.exit ?_
   have hbx:=hM.box
   rw [refG_len] at hbx
   have hld3:=load103 (H:=Hx) (n:=n2) (s:=s) (u:=outS o ts.length) hbx
   have hb1x:=hLx _ _ hb1
   have hst3:storeA Hx (n + 1) 0 [.string s,outS o ts.length]=some (hset Hx (n + 1) (.cells [.string s,outS o ts.length] 103)):=store_all hb1x rfl
   have hld4:=load103 (H:=hset Hx (n + 1) (.cells [.string s,outS o ts.length] 103)) (n:=n + 1) (s:=s) (u:=outS o ts.length) (by rw [hget_hset,if_pos rfl,hb1x]; rfl)
   have hMs:=MS.low hM (hS.trans hLT) (show n ≤ n + 2 by omega)
   have hMf:Ab.MS true (tidy n H) n 144 103 145 n2 s (refG ts w st (dn k 0)) rs (hset Hx (n + 1) (.cells [.string s,outS o ts.length] 103)) N o:=hMs.other (Nat.le_refl _) (namesOk_hset hM.nm) (sub_hset hMs.sub (hT _ (by omega))) fun m hm1 hm2 hm=>by
     rw [hget_hset,if_neg]
     rcases hm with rfl | rfl | ⟨r,hr,hm⟩
     · omega
     · omega
     · have:=hrm r hr m hm; omega
   refine E.seq (E.reg hr0 (by simp [-loadA,-storeA,-oneL,hld3,hst3,hone]; rfl) ?_)
   refine E.ret ?_
   exact outM.ret _ rfl (vs:=[.agg ⟨[.string s,outS o ts.length]⟩]) (by simp [-loadA,resultsA,resultA,Tryz.results68,hld4]) ⟨n2,rs,o,by rw [refG_len]; rfl,hMf⟩
def Q68 (s:ByteArray) (ts:List Trc) (w st:Int) (_:List Value) (H:Heap) (n:Nat) (u:Value) (H':Heap) (n':Nat):Prop:=MadeS H n H' n' u (s,refG ts w st (dn (widN ts) 0)) ∧ ∃ kb rs o,u = .agg ⟨[.string s,outrV true o (refG ts w st (dn (widN ts) 0)).length]⟩ ∧ Ab.MS true (tidy n H) n 144 103 145 kb s (refG ts w st (dn (widN ts) 0)) rs H' n' o
theorem livL_mem {ts:List Trc} {t w st:Int} {x:Int}:∀ k:Nat,x ∈ livL ts t w st k → ∃ i:Nat,i < k ∧ x=i ∧ livB ts t w st i=true
 | 0,h=>by simp [livL] at h
 | k + 1,h=>by
   rw [livL] at h
   split at h
   · rename_i hb
     rcases List.mem_append.1 h with h | h
     · obtain ⟨i,h1,h2,h3⟩:=livL_mem k h
       exact ⟨i,by omega,h2,h3⟩
     · rw [List.mem_singleton] at h
       exact ⟨k,by omega,h,hb⟩
   · obtain ⟨i,h1,h2,h3⟩:=livL_mem k h
     exact ⟨i,by omega,h2,h3⟩
theorem refB_live {ts:List Trc} (hok:OkS ts) {w st:Int} {k i:Nat} (hi:i < ts.length) (h:livB ts k w st i=true):ts[i].hole=false ∧ ∃ b,refB ts w st k i=b ∧ good32 b=true ∧ six32 b=smpN ts k w (i:Int):=by
 have h2:=h
 rw [livB_at hi] at h2
 simp only [Bool.and_eq_true,Bool.not_eq_true',decide_eq_true_eq] at h2
 obtain ⟨hho,hmW,_⟩:=h2
 have hmlen:(ts[i].smp.length:Int)=(widF ts).1:=hok.wid _ (List.getElem_mem hi) hho
 have h0:0 ≤ movV k (offV ts[i].hd) w:=by unfold movV; omega
 have hl:(movV k (offV ts[i].hd) w).toNat < ts[i].smp.length:=by omega
 refine ⟨hho,ts[i].smp[(movV k (offV ts[i].hd) w).toNat]'hl,?_,hok.good _ (List.getElem_mem hi) _ (List.getElem_mem _),?_⟩
 · unfold refB
   rw [if_pos h,List.getElem?_eq_getElem hi]
   show ts[i].smp.getD (movV k (offV ts[i].hd) w).toNat 0=_
   rw [List.getD_eq_getElem?_getD,List.getElem?_eq_getElem hl]
   rfl
 · unfold smpN
   rw [Int.toNat_natCast,List.getElem?_eq_getElem hi]
   show _=six32 (ts[i].smp.getD (movV k (offV ts[i].hd) w).toNat 0)
   rw [List.getD_eq_getElem?_getD,List.getElem?_eq_getElem hl]
   rfl
abbrev vs69:List Nat:=[1,2,3,4,5,10,11,12,13,14,15,16,17,18,19]
abbrev fr69 (n b:Nat) (t w win st nu de a:Int):Fr:=[(1,iv t),(2,iv w),(3,iv win),(4,iv st),(5,ptA n),(10,ptA (n + 1)),(11,ptA b),(12,iv nu),(13,iv de),(14,iv a)]
abbrev fr69b (n b:Nat) (t w win st nu de a:Int) (N l:Nat) (s1 s2:Int) (j:Nat):Fr:=[(1,iv t),(2,iv w),(3,iv win),(4,iv st),(5,ptA n),(10,ptA (n + 1)),(11,ptA b),(12,iv nu),(13,iv de),(14,iv a),(15,outS N l),(16,iv s1),(17,iv s2),(18,iv j)]
set_option maxHeartbeats 6400000 in
set_option maxRecDepth 100000 in
theorem w69 {H:Heap} {n:Nat} {v:Value} {s:ByteArray} {ts:List Trc} {t w win st:Int} (hv:shtV H v=some (s,ts)) (hok:OkS ts) (htr:0 ≤ t ∧ t ≤ (widF ts).1 - 1) (hwr:1 ≤ w ∧ w ≤ 1000000000) (hnr:0 ≤ win ∧ win ≤ 16) (hsr:0 ≤ st ∧ st ≤ 1024):AC Tryz.prog 69 [v,iv t,iv w,iv win,iv st] H n (semV ts t w win st) H n:=by
 refine AC.given fun hold hsc hgn=>AC.tidied (B:=[]) (by simp) ?_
 replace hv:=shtV_tidy (n:=n) (fun k b h=>(hold k b h).1) hv
 have hr:=recT_ok (P:=Tryz.prog) (l:=[(68,gEx Tryz.prog 68 (Q68 s ts w st)),(81,g81),(67,g67),(141,g141),(128,gRat ratV)]) (by simp only [List.forall_mem_cons]; exact ⟨gEx_ok,ok81,ok67,ok141,ok128,by simp⟩)
 have hr0:=recT_ok (P:=Tryz.prog) (l:=[]) (by simp)
 obtain ⟨u,rfl,ht⟩:=shtV_form hv
 obtain ⟨oa,c,rfl,hlt,_,_⟩:=trcV_form ht
 have hT:∀ j,n ≤ j → hget (tidy n H) j=none:=fun j hj=>by
   cases hc:hget (tidy n H) j with
   | none=>rfl
   | some b=>exact absurd (tidy_lt _ _ hc) (by omega)
 have hw0:=hok.w0
 have h64:=hok.len
 have hhd:hdsOk ts:=hok.hd
 have hndb:=fun x=>nd_bound hok x w st
 obtain ⟨A,hA⟩:∃ A,semA t win=A:=⟨_,rfl⟩
 obtain ⟨C,hC⟩:∃ C,semC ts t win=C:=⟨_,rfl⟩
 have hAd:A=max 0 (t - win):=by rw [← hA]; rfl
 have hU:semU ts t w win st=accN (fun x=>nuT ts x w st) A C:=by rw [← hA,← hC]; rfl
 have hD:semD ts t w win st=accN (fun x=>deT ts x w st) A C:=by rw [← hA,← hC]; rfl
 have hCd:C=(min ((widF ts).1 - 1) (t + win) - A + 1).toNat:=by rw [← hA,← hC]; rfl
 have hV:semV ts t w win st=if accN (fun x=>deT ts x w st) A C=0 then .agg ⟨[iv 0,iv 1]⟩ else ratV (accN (fun x=>nuT ts x w st) A C) (accN (fun x=>deT ts x w st) A C):=by rw [← hU,← hD]; rfl
 obtain ⟨V,hVV⟩:∃ V,semV ts t w win st=V:=⟨_,rfl⟩
 rw [hVV] at hV ⊢
 have haf:af V=true:=by rw [hV]; split <;> rfl
 have hub:∀ k:Nat,0 ≤ accN (fun x=>nuT ts x w st) A k ∧ accN (fun x=>nuT ts x w st) A k ≤ 1099511627776 * k:=accN_bound fun x=>(hndb x).1
 have hdb:∀ k:Nat,0 ≤ accN (fun x=>deT ts x w st) A k ∧ accN (fun x=>deT ts x w st) A k ≤ 1099511627776 * k:=accN_bound fun x=>(hndb x).2
 obtain ⟨W,hW⟩:∃ W,widN ts=W:=⟨_,rfl⟩
 have hWI:(widF ts).1=(W:Int):=by rw [← hW]; unfold widN; omega
 rw [hWI] at htr hCd
 have hW1024:W ≤ 1024:=by omega
 have hC33:C ≤ 33:=by omega
 obtain ⟨L,hL⟩:∃ L,(n + 1,Blk.cells [iv 0,iv 0] 96) :: (n,Blk.cells [.string s,.slice oa ts.length c] 103) :: tidy n H=L:=⟨_,rfl⟩
 have hS:Sub (tidy n H) L:=by rw [← hL]; exact (Sub.cons (hT _ (Nat.le_refl _)) (Sub.refl _)).trans (Sub.cons (by rw [hget_cons,if_neg (by omega)]; exact hT _ (by omega)) (Sub.refl _))
 have hLn:namesOk (n + 2) L=true:=by rw [← hL]; exact namesOk_put (by omega) (namesOk_put (by omega) (by simp))
 have hLlt:∀ k b,hget L k=some b → k < n + 2:=fun k b hk=>namesOk_iff.1 hLn (k,b) (hget_mem _ _ _ hk)
 have hb0:hget L n=some (.cells [.string s,.slice oa ts.length c] 103):=by rw [← hL,hget_cons,if_neg (by omega),hget_cons,if_pos rfl]
 have hb1:hget L (n + 1)=some (.cells [iv 0,iv 0] 96):=by rw [← hL,hget_cons,if_pos rfl]
 have hld:=load103 (H:=L) (n:=n) hb0
 obtain ⟨u2,H2,n2,h68,hMade⟩:=gEx_at (Q:=Q68 s ts w st) (w68 (n:=n + 2) (shtV_mono hS hv) hok hwr hsr hLlt)
 replace hMade:MadeS L (n + 2) H2 n2 u2 (s,refG ts w st (dn (widN ts) 0)):=hMade.1
 replace h68:gEx Tryz.prog 68 (Q68 s ts w st) [.agg ⟨[.string s,.slice oa ts.length c]⟩,iv w,iv st] L (n + 1 + 1)=some (u2,H2,n2):=h68
 obtain ⟨B,hB,hBn,hBp⟩:=hMade.app
 have hn2:=hMade.le
 obtain ⟨u3,rfl,ht2⟩:=shtV_form hMade.view
 rw [hW] at ht2
 obtain ⟨oa2,c2,rfl,_,_,hrow⟩:=trcV_form ht2
 rw [refG_len] at h68
 have hLH:Sub L H2:=fun k b hk=>by
   rw [hB,hget_app]
   cases hc:hget B k with
   | none=>exact hk
   | some c=>
     have:=(hBn _ (hget_mem _ _ _ hc)).1
     have:=hLlt _ _ hk
     dsimp only at *
     omega
 have hH2n:namesOk n2 H2=true:=namesOk_iff.2 fun x hx=>by
   rw [hB] at hx
   rcases List.mem_append.1 hx with hx | hx
   · exact (hBn x hx).2
   · have:=namesOk_iff.1 hLn x hx; omega
 obtain ⟨Z,hZ⟩:∃ Z,(n2,Blk.cells [.string s,.slice oa2 ts.length c2] 103) :: H2=Z:=⟨_,rfl⟩
 have hH2N:∀ j,n2 ≤ j → hget H2 j=none:=fun j hj=>by
   cases hc:hget H2 j with
   | none=>rfl
   | some b=>have:=namesOk_iff.1 hH2n (j,b) (hget_mem _ _ _ hc); dsimp only at this; omega
 have hHZ:Sub H2 Z:=by rw [← hZ]; exact Sub.cons (hH2N _ (Nat.le_refl _)) (Sub.refl _)
 have hZn:namesOk (n2 + 1) Z=true:=by rw [← hZ]; exact namesOk_put (by omega) (namesOk_mono (by omega) _ hH2n)
 have hZb:hget Z n2=some (.cells [.string s,.slice oa2 ts.length c2] 103):=by rw [← hZ,hget_cons,if_pos rfl]
 have hst7:storeA ((n2,.cells [.string ⟨#[]⟩,.slice none 0 0] 103) :: H2) n2 0 [.string s,.slice oa2 ts.length c2]=some Z:=by
   have:=store_all (H:=(n2,.cells [.string ⟨#[]⟩,.slice none 0 0] 103) :: H2) (t:=103) (zs:=[.string ⟨#[]⟩,.slice none 0 0]) (cs:=[.string s,.slice oa2 ts.length c2]) (by rw [hget_cons,if_pos rfl]) rfl
   rw [this,← hZ]
   simp
 have hws:IntKind.i64.wrap (t - win)=t - win:=W_in (by omega) (by omega)
 have hwa:IntKind.i64.wrap (t + win)=t + win:=W_in (by omega) (by omega)
 have hwW:IntKind.i64.wrap ((W:Int) - 1)=(W:Int) - 1:=W_in (by omega) (by omega)
 refine AC.pureM Tryz.func69 rfl (by kernel_rfl) rfl vs69 haf ?_
 refine E.seq (E.reg hr (by simp; rfl) ?_)
 rw [hL]
 refine E.seq (E.reg hr (by simp [-loadA,-storeA,hld,h68,hst7]; rfl) ?_)
 refine E.seq (E.reg hr0 (by simp; rfl) ?_)
 refine E.seq (E.seq (E.reg hr0 (by simp [hws,max33,← hAd]; rfl) ?_))
 refine E.block (E.loop ?_)
 refine EL.ind (fun x:Nat × Heap × Nat=>{ fr:=fr69 n n2 t w win st (accN (fun x=>nuT ts x w st) A x.1) (accN (fun x=>deT ts x w st) A x.1) (A + (x.1:Nat)),sz:=88,H:=x.2.1,n:=x.2.2,marks:=[],vs:=vs69 }) (fun x=>C - x.1) (fun x=>x.1 ≤ C ∧ Sub Z x.2.1 ∧ namesOk x.2.2 x.2.1=true ∧ n2 + 1 ≤ x.2.2) (0,Z,n2 + 1) (.keep rfl rfl rfl (by simp [accN]) (Sub.refl _)) ⟨Nat.zero_le _,Sub.refl _,hZn,Nat.le_refl _⟩ (fun _=>rfl) ?_
 rintro ⟨k,Hx,N⟩ ⟨hk,hZx,hnx,hNn⟩
 dsimp only at hk hZx hnx hNn ⊢
 have hLx:Sub L Hx:=(hLH.trans hHZ).trans hZx
 have hvx:shtV Hx (.agg ⟨[.string s,.slice oa ts.length c]⟩)=some (s,ts):=shtV_mono (hS.trans hLx) hv
 have hldx:=load103 (hLx _ _ hb0)
 have h81:∀ m,g81 [.agg ⟨[.string s,.slice oa ts.length c]⟩] Hx m=some (iv W,Hx,m):=fun m=>by
   simp only [g81,hvx,hWI]
 refine E.seq (E.seq (E.reg hr (by simp [-loadA,hldx,h81,hwW,hwa,min33]; rfl) ?_))
 by_cases hkC:k < C
 · have hle:A + (k:Int) ≤ min ((W:Int) - 1) (t + win):=by omega
   have hat:0 ≤ A + (k:Int) ∧ A + (k:Int) ≤ (W:Int) - 1:=by omega
   refine E.cond (t:=true) (by simp; omega) (fun _=>?_) (fun h=>by cases h)
   have hub1:=hub k
   have hdb1:=hdb k
   have hac1:accN (fun x=>nuT ts x w st) A (k + 1)=accN (fun x=>nuT ts x w st) A k + nuT ts (A + k) w st:=rfl
   have hac2:accN (fun x=>deT ts x w st) A (k + 1)=accN (fun x=>deT ts x w st) A k + deT ts (A + k) w st:=rfl
   obtain ⟨nu,hnu⟩:∃ x,accN (fun x=>nuT ts x w st) A k=x:=⟨_,rfl⟩
   obtain ⟨de,hde⟩:∃ x,accN (fun x=>deT ts x w st) A k=x:=⟨_,rfl⟩
   obtain ⟨at',hat'⟩:∃ x,A + (k:Int)=x:=⟨_,rfl⟩
   have hndb':=hndb at'
   have hk1:A + ((k + 1:Nat):Int)=at' + 1:=by omega
   rw [hat'] at hac1 hac2 hat
   rw [hnu] at hub1 hac1
   rw [hde] at hdb1 hac2
   rw [hnu,hde,hat']
   obtain ⟨p,hp⟩:∃ p:Nat,at'=p:=⟨at'.toNat,by omega⟩
   obtain ⟨LV,hLV⟩:∃ l,livL ts at' w st ts.length=l:=⟨_,rfl⟩
   have hLVlen:LV.length ≤ ts.length:=by rw [← hLV]; exact livL_len _ _ _ _ _
   have h67:∀ m,g67 [.agg ⟨[.string s,.slice oa ts.length c]⟩,iv at',iv w,iv st] Hx m=some (outS m LV.length,outSB m 3 1 LV.length (LV.map iv) ++ Hx,m + 1):=fun m=>by
     simp only [g67,hvx]
     rw [if_pos ⟨hhd,⟨by omega,by omega⟩,hwr,hsr⟩,hLV]
   refine E.skip (E.seq ?_)
   refine E.block (E.seq (E.reg hr (by simp [-loadA,hldx,h67]; rfl) ?_))
   obtain ⟨Hl,hHl⟩:∃ X,outSB N 3 1 LV.length (LV.map iv) ++ Hx=X:=⟨_,rfl⟩
   have hHN:∀ j,N ≤ j → hget Hx j=none:=fun j hj=>by
     cases hc:hget Hx j with
     | none=>rfl
     | some b=>have:=namesOk_iff.1 hnx (j,b) (hget_mem _ _ _ hc); dsimp only at this; omega
   have hxl:Sub Hx Hl:=by
     rw [← hHl,outSB]
     split
     · exact Sub.refl _
     · exact Sub.cons (hHN _ (Nat.le_refl _)) (Sub.refl _)
   have hnl:namesOk (N + 1) Hl=true:=by
     rw [← hHl,outSB]
     split
     · exact namesOk_mono (Nat.le_succ _) _ hnx
     · exact namesOk_put (by omega) (namesOk_mono (Nat.le_succ _) _ hnx)
   have hll:LV ≠ [] → hget Hl N=some (.ext (LV.map iv) 3 1):=fun h=>by
     rw [← hHl,outSB,if_neg fun e=>h (List.length_eq_zero_iff.1 e)]
     simp
   rw [hHl]
   refine E.seq (E.reg hr0 (by simp; rfl) ?_)
   refine E.seq (E.seq (E.reg hr0 (by simp; rfl) ?_))
   refine E.block (E.loop ?_)
   have hc1:cellA Hl n2 1=some (.slice oa2 ts.length c2):=by rw [cellA_eq,hxl _ _ (hZx _ _ hZb)]; rfl
   have hnu2:nuT ts at' w st=sumI (smpN ts at' w) LV * sumI (smpN ts at' w) LV:=by rw [← hLV]; rfl
   have hde2:deT ts at' w st=LV.length * sumI (fun i=>smpN ts at' w i * smpN ts at' w i) LV:=by rw [← hLV]; rfl
   have htk0:LV.take 0=[]:=List.take_zero
   refine EL.ind (fun j:Nat=>{ fr:=fr69b n n2 t w win st nu de at' N LV.length (sumI (smpN ts at' w) (LV.take j)) (sumI (fun i=>smpN ts at' w i * smpN ts at' w i) (LV.take j)) j,sz:=88,H:=Hl,n:=N + 1,marks:=[],vs:=vs69 }) (fun j=>LV.length - j) (fun j=>j ≤ LV.length) 0 (.keep rfl rfl rfl (by simp [sumI]) (Sub.refl _)) (Nat.zero_le _) (fun _=>rfl) ?_
   intro j hj
   have hwj:IntKind.i64.wrap ((j:Int) + 1)=(j:Int) + 1:=W_in (by omega) (by omega)
   obtain ⟨ol,cl,hoL⟩:∃ oa c,outS N LV.length = .slice oa LV.length c:=by
     unfold outS
     split
     · exact ⟨_,_,by rw [‹LV.length=0›]⟩
     · exact ⟨_,_,rfl⟩
   refine E.seq (E.seq (E.reg hr0 (by simp [hoL]; rfl) ?_))
   by_cases hjl:j < LV.length
   · refine E.cond (t:=true) (by simp [hjl]) (fun _=>?_) (fun h=>by cases h)
     have hLV0:LV ≠ []:=fun e=>by rw [e] at hjl; cases hjl
     have hLn0:LV.length ≠ 0:=by omega
     obtain ⟨i,hi,hxi,hlv⟩:=livL_mem ts.length (by rw [hLV]; exact List.getElem_mem hjl)
     rw [hp] at hlv
     obtain ⟨hho,b,hB,hgb,hsix⟩:=refB_live hok hi hlv
     rw [← hp] at hsix
     have hcj:cellA Hl N j=some (iv i):=by
       rw [cellA_eq,hll hLV0]
       show (LV.map iv)[j]? = _
       rw [List.getElem?_map,List.getElem?_eq_getElem hjl,hxi]
       rfl
     have hoS:outS N LV.length = .slice (some ⟨N,0,some 0⟩) LV.length 0:=outS_ne hLn0
     rw [hoL] at hoS
     injection hoS with hoS1 _ hoS2
     subst hoS1 hoS2
     have hgl:i < (refG ts w st (dn W 0)).length:=by rw [refG_len]; exact hi
     obtain ⟨a,q,rfl,hf,hcs,h8,hq⟩:=hrow i hgl
     have hgi:=refG_at (w:=w) (st:=st) (d:=dn W 0) (List.getElem?_eq_getElem hi)
     rw [List.getElem?_eq_getElem hgl] at hgi
     injection hgi with hgi
     rw [hgi] at hcs h8 hq
     have hmlen:(ts[i].smp.length:Int)=W:=by rw [hok.wid _ (List.getElem_mem hi) hho,hWI]
     have hpl:p < ts[i].smp.length:=by omega
     have hHl:Sub H2 Hl:=hHZ.trans (hZx.trans hxl)
     obtain ⟨oq,cq,rfl,_,_,hqx⟩:=reaV_form (listV_mono decR_mono hHl hq)
     dsimp only at hqx hcs
     obtain ⟨aq,rfl,hfq,hcq⟩:=hqx p (by rw [List.length_mapIdx]; exact hpl)
     rw [List.getElem_mapIdx,if_pos (by unfold dn; simp; omega),hB] at hcq
     rw [List.length_mapIdx] at hcs
     obtain ⟨_,hc9,_⟩:=trc_cells (t:=⟨ts[i].hd,ts[i].hole,[]⟩) (hHl.cells hcs) h8
     have h141:∀ m,g141 [rv b] Hl m=some (iv (six32 b),Hl,m):=fun m=>if_pos hgb
     have hiI:(i:Int) < ts.length:=by omega
     have hp0:0 ≤ at':=by omega
     have hpI:at' < ts[i].smp.length:=by omega
     have hptn:at'.toNat=p:=by omega
     have hfo:flat ⟨N,0,some 0⟩=true:=rfl
     have hl1:=lt_cell hnl hc1
     have hl2:=lt_cell hnl hc9
     have hl3:=lt_cell hnl hcq
     refine E.skip (E.seq ?_)
     refine E.block (E.seq ?_)
     refine E.drawU mixed hr [12] [12] [1,5,8,11,12] (by kernel_rfl) (by simp [-cellA,-flat,-readA,cellA_read,hoL,hl1,hl2,hl3,hnl,hc1,hcj,hc9,hcq,hiI,hjl,hf,hfq,hfo,hp0,hpI,hptn,h141]; rfl) ?_
     have hts:LV.take (j + 1)=LV.take j ++ [(i:Int)]:=by rw [List.take_succ_eq_append_getElem hjl,hxi]
     have hxa:=smpN_abs hok at' w (i:Int)
     have hxs:=sq_abs hxa
     have htl:(LV.take j).length ≤ 64:=by rw [List.length_take]; omega
     have hsa:=sumI_abs (f:=smpN ts at' w) (M:=16384) (LV.take j) fun x _=>smpN_abs hok at' w x
     have hqa:=sumI_abs (f:=fun i=>smpN ts at' w i * smpN ts at' w i) (M:=268435456) (LV.take j) fun x _=>by
       have:=sq_abs (smpN_abs hok at' w x)
       omega
     have e1:16384 * (LV.take j).length ≤ 16384 * 64:=Nat.mul_le_mul_left _ htl
     have e2:268435456 * (LV.take j).length ≤ 268435456 * 64:=Nat.mul_le_mul_left _ htl
     have hs1:sumI (smpN ts at' w) (LV.take (j + 1))=sumI (smpN ts at' w) (LV.take j) + smpN ts at' w i:=by rw [hts,sumI_snoc]
     have hs2:sumI (fun i=>smpN ts at' w i * smpN ts at' w i) (LV.take (j + 1))=sumI (fun i=>smpN ts at' w i * smpN ts at' w i) (LV.take j) + smpN ts at' w i * smpN ts at' w i:=by rw [hts,sumI_snoc]
     obtain ⟨S1,hS1⟩:∃ x,sumI (smpN ts at' w) (LV.take j)=x:=⟨_,rfl⟩
     obtain ⟨S2,hS2⟩:∃ x,sumI (fun i=>smpN ts at' w i * smpN ts at' w i) (LV.take j)=x:=⟨_,rfl⟩
     obtain ⟨x,hx⟩:∃ x,smpN ts at' w i=x:=⟨_,rfl⟩
     rw [hS1,hx] at hs1
     rw [hS2,hx] at hs2
     rw [hS1] at hsa
     rw [hS2] at hqa
     rw [hx] at hxa hxs hsix
     rw [hsix]
     have w1:IntKind.i64.wrap (S1 + x)=S1 + x:=W_in (by omega) (by omega)
     have w2:IntKind.i64.wrap (x * x)=x * x:=W_in (by omega) (by omega)
     have w3:IntKind.i64.wrap (S2 + x * x)=S2 + x * x:=W_in (by omega) (by omega)
     refine E.reg hr0 (by simp [hS1,hS2,w1,w2,w3]; rfl) ?_
     refine E.reg hr0 (by simp [hwj]; rfl) ?_
     exact ⟨j + 1,.keep rfl rfl rfl (by simp [hs1,hs2]) (Sub.refl _),hjl,by dsimp only; omega⟩
   · have hj':j=LV.length:=by omega
     subst hj'
     refine E.cond (t:=false) (by simp) (fun h=>by cases h) (fun _=>?_)
     refine E.exit ?_
     rw [List.take_length]
     obtain ⟨S1,hS1⟩:∃ x,sumI (smpN ts at' w) LV=x:=⟨_,rfl⟩
     obtain ⟨S2,hS2⟩:∃ x,sumI (fun i=>smpN ts at' w i * smpN ts at' w i) LV=x:=⟨_,rfl⟩
     obtain ⟨S0,hS0⟩:∃ x:Int,(LV.length:Int)=x:=⟨_,rfl⟩
     rw [hS1] at hnu2
     rw [hS2,hS0] at hde2
     rw [hnu2] at hac1 hndb'
     rw [hde2] at hac2 hndb'
     have hkb:(1099511627776:Int) * k ≤ 1099511627776 * 33:=by omega
     have w1:IntKind.i64.wrap (S1 * S1)=S1 * S1:=W_in (by omega) (by omega)
     have w2:IntKind.i64.wrap (nu + S1 * S1)=nu + S1 * S1:=W_in (by omega) (by omega)
     have w3:IntKind.i64.wrap (S0 * S2)=S0 * S2:=W_in (by omega) (by omega)
     have w4:IntKind.i64.wrap (de + S0 * S2)=de + S0 * S2:=W_in (by omega) (by omega)
     have w5:IntKind.i64.wrap (at' + 1)=at' + 1:=W_in (by omega) (by omega)
     rw [hS1,hS2]
     refine E.reg hr0 (by simp [hoL,hS0,w1,w2,w3,w4]; rfl) ?_
     refine E.reg hr0 (by simp [w5]; rfl) ?_
     refine ⟨(k + 1,Hl,N + 1),.keep rfl rfl rfl (by simp [hac1,hac2]; omega) (Sub.refl _),⟨by omega,hZx.trans hxl,hnl,by dsimp only; omega⟩,by dsimp only; omega⟩
 · have hkC':k=C:=by omega
   subst hkC'
   refine E.cond (t:=false) (by simp; omega) (fun h=>by cases h) (fun _=>?_)
   refine E.exit ?_
   have hub1:=hub k
   have hdb1:=hdb k
   obtain ⟨nu,hnu⟩:∃ x,accN (fun x=>nuT ts x w st) A k=x:=⟨_,rfl⟩
   obtain ⟨de,hde⟩:∃ x,accN (fun x=>deT ts x w st) A k=x:=⟨_,rfl⟩
   rw [hnu,hde] at hV ⊢
   rw [hnu] at hub1
   rw [hde] at hdb1
   have hbr':=hLx _ _ hb1
   have hst:∀ a b:Value,storeA Hx (n + 1) 0 [a,b]=some (hset Hx (n + 1) (.cells [a,b] 96)):=fun a b=>store_all hbr' rfl
   have hfin:∀ a b:Int,loadA Tryz.prog 96 (hset Hx (n + 1) (.cells [iv a,iv b] 96)) (.pointer (some ⟨n + 1,0,none⟩))=some (.agg ⟨[iv a,iv b]⟩):=fun a b=>load96 (by rw [hget_hset,if_pos rfl,hbr']; rfl)
   have hfs:∀ b,Sub (tidy n H) (hset Hx (n + 1) b):=fun b=>sub_hset (hS.trans hLx) (hT _ (by omega))
   refine E.seq (E.seq (E.reg hr0 (by simp; rfl) ?_))
   by_cases hz:de=0
   · rw [if_pos hz] at hV
     refine E.cond (t:=true) (by simp [hz]) (fun _=>?_) (fun h=>by cases h)
     refine E.seq (E.reg hr0 (by simp [-storeA,build96a,hst]; rfl) ?_)
     refine E.ret ?_
     show Ab.outM Tryz.prog Tryz.f69 (fun u H2 _=>u=V ∧ Ab.Sub (tidy n H) H2) .ret _
     exact outM.ret _ rfl (vs:=[.agg ⟨[iv 0,iv 1]⟩]) (by simp [-loadA,resultsA,resultA,Tryz.results69,hfin]) ⟨by rw [hV]; rfl,hfs _⟩
   · rw [if_neg hz] at hV
     refine E.cond (t:=false) (by simp [hz]) (fun h=>by cases h) (fun _=>?_)
     refine E.skip (E.seq ?_)
     have h128:gRat ratV [iv nu,iv de] Hx N=some (ratV nu de,Hx,N):=if_pos ⟨⟨by omega,by omega⟩,by omega,by omega⟩
     refine E.reg hr (by simp [-storeA,h128,hst]; rfl) ?_
     refine E.ret ?_
     show Ab.outM Tryz.prog Tryz.f69 (fun u H2 _=>u=V ∧ Ab.Sub (tidy n H) H2) .ret _
     exact outM.ret _ rfl (vs:=[ratV nu de]) (by simp [-loadA,resultsA,resultA,Tryz.results69,hfin]) ⟨by rw [hV]; rfl,hfs _⟩
end Go.Proofs.YtkongcnmkiihjaaGreatDoor
namespace Go.Ab
open Go
end Go.Ab
namespace Go.Proofs.YtkongcnmkiihjaaGreatDoor
open Go Go.Ab Go.Proofs
end Go.Proofs.YtkongcnmkiihjaaGreatDoor
namespace Go.Ab
open Go
def cutG {α:Type} (P:Program) (n0:Nat) (S:α → St) (Good:α → Prop) (K:Ex → St → Prop):Ex → St → Prop
 | .normal,st=>∃ x,Good x ∧ Leads P n0 st (S x)
 | e,st=>K e st
theorem E.cutG {α:Type} {P:Program} {n0:Nat} {ro:Option Nat} {st:St} {K:Ex → St → Prop} {a b:Code} (S:α → St) (Good:α → Prop) (ha:E P n0 ro a st (Ab.cutG P n0 S Good K)) (hb:∀ x,Good x → E P n0 ro b (S x) K):E P n0 ro (.seq a b) st K:=
 E.seq (ha.mono fun e st' h=>by
   cases e with
   | normal=>
     obtain ⟨x,hx,hl⟩:=h
     exact E.lead (S x) hl (hb x hx)
   | _=>exact h)
structure PM (N:Nat) (X:Heap):Prop where
 nm:namesOk N X=true
 pl:plainH X=true
theorem frz_frz:∀ b:Blk,frz (frz b)=frz b
 | .cells _ _=>rfl
 | .ext _ _ _=>rfl
 | .inp _ _=>rfl
 | .row _ _=>rfl
 | .tab _=>rfl
 | .map _ _=>rfl
 | .iter _ _=>rfl
 | .miter _ _ _ _=>rfl
 | .defd=>rfl
 | .loop _ _ _ _ _ _ _ _ _=>rfl
theorem frzH_frzH:∀ H:Heap,frzH (frzH H)=frzH H
 | []=>rfl
 | (k,b) :: H=>by rw [frzH,frzH,frz_frz,frzH_frzH H]
theorem frzH_app:∀ A B:Heap,frzH (A ++ B)=frzH A ++ frzH B
 | [],_=>rfl
 | (k,b) :: A,B=>by rw [List.cons_append,frzH,frzH_app A B,frzH,List.cons_append]
theorem plain_of:∀ {H:Heap},plainH H=true → ∀ x ∈ H,plainB2 x.2=true
 | (k,b) :: H,h,x,hx=>by
   rw [plainH,Bool.and_eq_true] at h
   rcases List.mem_cons.1 hx with rfl | hx
   · exact h.1
   · exact plain_of h.2 x hx
theorem plain_hset {k:Nat} {b:Blk} (hb:plainB2 b=true):∀ {H:Heap},plainH H=true → plainH (hset H k b)=true
 | [],h=>h
 | (j,c) :: H,h=>by
   rw [plainH,Bool.and_eq_true] at h
   rw [hset]
   split
   · rw [plainH,hb,h.2]; rfl
   · rw [plainH,h.1,plain_hset hb h.2]; rfl
section
variable {N N':Nat} {X:Heap}
theorem PM.lt (h:PM N X):∀ k b,hget X k=some b → k < N:=fun k b hk=>namesOk_iff.1 h.nm (k,b) (hget_mem _ _ _ hk)
theorem PM.new (h:PM N X):∀ j,N ≤ j → hget X j=none:=fun j hj=>by
 cases hc:hget X j with
 | none=>rfl
 | some b=>have:=h.lt _ _ hc; omega
theorem PM.plain (h:PM N X):∀ k b,hget X k=some b → plainB2 b=true:=fun k b hk=>plain_of h.pl (k,b) (hget_mem _ _ _ hk)
theorem PM.tidy {H:Heap}:PM N (Ab.tidy N H):=⟨by simp,by simp⟩
theorem PM.put (h:PM N X) {b:Blk} (hb:plainB2 b=true):PM (N + 1) ((N,b) :: X):=⟨namesOk_put (Nat.lt_succ_self _) (namesOk_mono (Nat.le_succ _) _ h.nm),by rw [plainH,hb,h.pl]; rfl⟩
theorem PM.wide (h:PM N X) (hN:N ≤ N'):PM N' X:=⟨namesOk_mono hN _ h.nm,h.pl⟩
theorem PM.sub (h:PM N X) {b:Blk}:Sub X ((N,b) :: X):=Sub.cons (h.new _ (Nat.le_refl _)) (Sub.refl _)
theorem PM.app (h:PM N X) {B:Heap} (hB:∀ x ∈ B,N ≤ x.1 ∧ x.1 < N') (hp:plainH B=true) (hN:N ≤ N'):PM N' (B ++ X) ∧ Sub X (B ++ X) ∧ takeNew N (B ++ frzH X)=B ∧ namesOk N' B=true:=by
 refine ⟨⟨namesOk_iff.2 fun x hx=>?_,plainH_app hp h.pl⟩,fun k b hk=>?_,?_,namesOk_iff.2 fun x hx=>(hB x hx).2⟩
 · rcases List.mem_append.1 hx with hx | hx
   · exact (hB x hx).2
   · have:=namesOk_iff.1 h.nm x hx; omega
 · rw [hget_app]
   cases hc:hget B k with
   | none=>exact hk
   | some c=>
     have:=(hB _ (hget_mem _ _ _ hc)).1
     have:=h.lt _ _ hk
     dsimp only at *
     omega
 · rw [takeNew_app fun x hx=>(hB x hx).1,takeNew_frz h.nm,List.append_nil]
theorem PM.set (h:PM N X) {k:Nat} {b:Blk} (hb:plainB2 b=true):PM N (hset X k b):=⟨namesOk_hset h.nm,plain_hset hb h.pl⟩
theorem MadeS.late {H':Heap} {u:Value} {x:ByteArray × List Trc} (hm:PM N X) (h:MadeS (frzH X) N H' N' u x):∃ B,H'=B ++ frzH X ∧ takeNew N (B ++ frzH X)=B ∧ namesOk N' B=true ∧ PM N' (B ++ X) ∧ Sub X (B ++ X) ∧ N ≤ N' ∧ shtV (B ++ X) u=some x:=by
 obtain ⟨B,rfl,hB,hp⟩:=h.app
 obtain ⟨h1,h2,h3,h4⟩:=hm.app hB hp h.le
 refine ⟨B,rfl,h3,h4,h1,h2,h.le,?_⟩
 have:=h.view
 rw [← shtV_frz,frzH_app,frzH_frzH,← frzH_app,shtV_frz] at this
 exact this
end
end Go.Ab
namespace Go.Proofs.YtkongcnmkiihjaaGreatDoor
open Go Go.Ab Go.Proofs
theorem flat_n {b o:Nat}:flat ⟨b,o,none⟩=true:=rfl
section
variable {n:Nat} {H:Heap}
@[simp] theorem namesOk_tidy:namesOk n (tidy n H)=true:=(namesOk_tidyL _).1
theorem tidy_lt:∀ k b,hget (tidy n H) k=some b → k < n:=fun _ _ h=>(hget_tidy.1 h).2.1
end
theorem w43b {H:Heap} {n:Nat} {v u:Value} {l:List Int} (h1:intV H v=some l) (h2:intV H u=some l):AC Tryz.prog 43 [v,u] H n (.bool true) H n:=by
 refine AC.given fun hold _ _=>?_
 have hr:=recT_ok (P:=Tryz.prog) (l:=[]) (by simp)
 obtain ⟨oa,c,rfl,hlt,_,hcell⟩:=intV_form h1
 obtain ⟨ob,d,rfl,_,_,hcell2⟩:=intV_form h2
 refine AC.pure Tryz.func43 rfl (by kernel_rfl) rfl [0,1,5] rfl ?_
 refine E.seq (E.reg hr (by simp; rfl) ?_)
 refine E.seq (E.seq (E.reg hr (by simp; rfl) ?_))
 refine E.cond (t:=false) (by simp) (fun h=>by cases h) (fun _=>?_)
 refine E.skip (E.seq ?_)
 refine E.seq (E.reg hr (by simp; rfl) ?_)
 refine E.block (E.loop ?_)
 refine EL.ind (fun i:Nat=>{ fr:=[(0,.slice oa l.length c),(1,.slice ob l.length d),(5,iv i)],sz:=26,H:=H,n:=n,marks:=[],vs:=[0,1,5] }) (fun i=>l.length - i) (fun i=>i ≤ l.length) 0 (.keep rfl rfl rfl (by simp) (Sub.refl _)) (Nat.zero_le _) (fun _=>rfl) ?_
 intro i hi
 have hw:IntKind.i64.wrap ((i:Int) + 1)=(i:Int) + 1:=W_in (by omega) (by omega)
 refine E.seq (E.seq (E.reg hr (by simp; rfl) ?_))
 by_cases hlt':i < l.length
 · obtain ⟨a,rfl,hf,hc⟩:=hcell i hlt'
   obtain ⟨b,rfl,hf2,hc2⟩:=hcell2 i hlt'
   have ha:=cellA_lt (fun k x hk=>(hold k x hk).1) hc
   have hb:=cellA_lt (fun k x hk=>(hold k x hk).1) hc2
   have hra:cellA (readA [a.block] H) a.block (a.off + i)=some (iv l[i]):=by rw [cellA_eq,hget_readA,← hc,cellA_eq]; simp
   have hrb:cellA (readA [b.block] H) b.block (b.off + i)=some (iv l[i]):=by rw [cellA_eq,hget_readA,← hc2,cellA_eq]; simp
   refine E.cond (t:=true) (by simp [hlt']) (fun _=>?_) (fun h=>by cases h)
   refine E.skip (E.seq ?_)
   refine E.block (E.seq ?_)
   refine E.drawS mixed hr [] (by kernel_rfl) (by simp [-cellA,-flat,-readA,hlt',hf,hf2,hra,hrb,ha,hb]; rfl) ?_
   refine E.cond (t:=false) (by simp) (fun h=>by cases h) (fun _=>?_)
   refine E.skip (E.reg hr (by simp [hw]; rfl) ?_)
   exact ⟨i + 1,.keep rfl rfl rfl (by simp) (Sub.refl _),hlt',by dsimp only; omega⟩
 · refine E.cond (t:=false) (by simp [hlt']) (fun h=>by cases h) (fun _=>?_)
   refine E.exit ?_
   refine E.seq (E.reg hr (by simp; rfl) ?_)
   refine E.ret ?_
   exact pureK.ret rfl rfl (by simp) (Sub.refl _)
def alikeV (H:Heap) (v u:Value):Bool:=match intV H v,intV H u with
 | some x,some y=>decide (x=y)
 | _,_=>false
def g43b (args:List Value) (H:Heap) (n:Nat):R:=match args with
 | [v,u]=>if alikeV H v u=true then some (.bool true,H,n) else none
 | _=>none
theorem ok43b:EntOk Tryz.prog (43,g43b):=by
 intro args H n v H' n' h
 simp only [g43b] at h
 split at h
 · split at h
   · rename_i hc
     injection h with h; injection h with e1 e2; injection e2 with e2 e3; subst e1 e2 e3
     unfold alikeV at hc
     split at hc
     · rename_i x y hx hy
       have:=of_decide_eq_true hc
       subst this
       exact w43b hx hy
     · cases hc
   · cases h
 · cases h
end Go.Proofs.YtkongcnmkiihjaaGreatDoor
