/-
Contracts and plain reckonings behind the law VelocityPanels, part 4 of 8 (each under the conditions in its statement).
-/
import Derived.Test.YtkongcnmkiihjaaGreatDoorRc
import Derived.Test.YtkongcnmkiihjaaGreatDoorRb
import Derived.Test.YtkongcnmkiihjaaGreatDoorRa
import Derived.Test.YtkongcnmkiihjaaGreatDoorAg
namespace Go.Proofs.YtkongcnmkiihjaaGreatDoor
open Go Go.Ab Go.Proofs
def widB (W:Int) (x:Trc):Bool:=x.hole || decide ((x.smp.length:Int)=W)
def shtE (s:ByteArray) (ts:List Trc):Int:=
 let e1:=firstV [whenV (!Gn.nameB s) 8,whenV (decide (ts.length=0)) 12,whenV (decide (64 < ts.length)) 5]
 if e1=0 then (if firstV (ts.map trcE)=0 then (if ts.all (widB (widF ts).1) then 0 else 2) else firstV (ts.map trcE)) else e1
noncomputable def asg191:Code:=match rfOf (bodyOf' Tryz.f191) with
 | some x=>x.1
 | none=>.skip
noncomputable def bdy191:Code:=match rfOf (bodyOf' Tryz.f191) with
 | some x=>x.2
 | none=>.skip
abbrev fr191 (n:Nat):Fr:=[(42,fn239 (n + 5)),(2,ptA (n + 1)),(5,ptA (n + 4))]
noncomputable abbrev lb191 (n:Nat) (ls:LoopState) (pe:Option Code):Blk:=.loop ls pe (fr191 n) 50 [2,5] #[43,44] asg191 bdy191 (n + 6)
noncomputable abbrev fs191 (n:Nat) (W e:Int) (ls:LoopState) (pe:Option Code):List (Nat × Blk):=[(n + 6,.defd),(n + 7,lb191 n ls pe),(n + 1,.cells [iv e] 29),(n + 4,.cells [iv W] 3)]
set_option maxHeartbeats 3200000 in
set_option maxRecDepth 100000 in
theorem w191 {H:Heap} {n:Nat} {v:Value} {s:ByteArray} {ts:List Trc} (hR:dR H) (hv:shtV H v=some (s,ts)):AC Tryz.prog 191 [v] H n (iv (shtE s ts)) H n:=by
 refine AC.given fun hold hsc hgn=>AC.tidied (B:=[]) (by simp) ?_
 replace hv:=shtV_tidy (fun k b h=>(hold k b h).1) hv
 replace hold:=tidy_old hold
 have h1n:1 < n:=by rw [gsz] at hgn; omega
 replace hR:hget (tidy n H) 1=some (.inp 0 rangesV):=hget_tidy.2 ⟨hR,h1n,rfl⟩
 have hr:=recT_ok (P:=Tryz.prog) (l:=[(216,g216),(213,Gn.gSB Gn.nameB),(212,Gn.g114),(211,g211),(214,g214),(192,g192)]) (by simp only [List.forall_mem_cons]; exact ⟨ok216,Gn.ok213,Gn.ok212,ok211,ok214,ok192,by simp⟩)
 have hr0:=recT_ok (P:=Tryz.prog) (l:=[]) (by simp)
 have hv0:=hv
 obtain ⟨u,rfl,ht⟩:=shtV_form hv
 obtain ⟨oa,c,rfl,hlt,_,_⟩:=trcV_form ht
 have hT:∀ j,n ≤ j → hget (tidy n H) j=none:=fun j hj=>by
   cases hc:hget (tidy n H) j with
   | none=>rfl
   | some b=>exact absurd (tidy_lt _ _ hc) (by omega)
 have hTl:∀ k b,hget (tidy n H) k=some b → k < n:=fun k b h=>tidy_lt _ _ h
 obtain ⟨X,hX⟩:∃ X,(n + 1,Blk.cells [iv 0] 29) :: (n,Blk.cells [.string s,.slice oa ts.length c] 110) :: tidy n H=X:=⟨_,rfl⟩
 have hS:Sub (tidy n H) X:=by rw [← hX]; exact (Sub.cons (hT _ (Nat.le_refl _)) (Sub.refl _)).trans (Sub.cons (by rw [hget_cons,if_neg (by omega)]; exact hT _ (by omega)) (Sub.refl _))
 have hnm:namesOk (n + 2) X=true:=by rw [← hX]; exact namesOk_put (by omega) (namesOk_put (by omega) (by simp))
 have hnm3:namesOk (n + 2 + 1) X=true:=namesOk_mono (Nat.le_succ _) _ hnm
 have htk:=takeNew_frz hnm
 have hpl:plainH X=true:=by rw [← hX]; rw [plainH,plainH]; simp [plainB2]
 have hbx:hget X n=some (.cells [.string s,.slice oa ts.length c] 110):=by rw [← hX,hget_cons,if_neg (by omega),hget_cons,if_pos rfl]
 have hc2:hget X (n + 1)=some (.cells [iv 0] 29):=by rw [← hX,hget_cons,if_pos rfl]
 have hc0:cellA X n 0=some (.string s):=by rw [cellA_eq,hbx]; rfl
 have hc1:cellA X n 1=some (.slice oa ts.length c):=by rw [cellA_eq,hbx]; rfl
 have hXlt:∀ k b,hget X k=some b → k < n + 2:=fun k b hk=>namesOk_iff.1 hnm (k,b) (hget_mem _ _ _ hk)
 have hXn:∀ j,n + 2 ≤ j → hget X j=none:=fun j hj=>by
   cases hc:hget X j with
   | none=>rfl
   | some b=>exact absurd (hXlt _ _ hc) (by omega)
 have hI3:∀ (N:Nat) (Y:Heap) (a b d:Int),intV ((N,.cells [iv a,iv b,iv d] 29) :: Y) (.slice (some ⟨N,0,none⟩) 3 3)=some [a,b,d]:=fun N Y a b d=>by
   refine listV_mk (cs:=[iv a,iv b,iv d]) (l:=[a,b,d]) rfl (by rw [cellsA_eq,hget_cons,if_pos rfl]; rfl) rfl (by simp) fun i v hv=>?_
   match i,hv with
   | 0,hv=>simp at hv; subst hv; rfl
   | 1,hv=>simp at hv; subst hv; rfl
   | 2,hv=>simp at hv; subst hv; rfl
 obtain ⟨b1,hb1⟩:∃ b1,Gn.nameB s=b1:=⟨_,rfl⟩
 obtain ⟨b2,hb2⟩:∃ b2,decide (ts.length=0)=b2:=⟨_,rfl⟩
 obtain ⟨b3,hb3⟩:∃ b3,decide (64 < ts.length)=b3:=⟨_,rfl⟩
 have hb2':decide (ts=[])=b2:=by rw [← hb2]; exact decide_eq_decide.2 List.length_eq_zero_iff.symm
 have hb3':decide ((64:Int) < ts.length)=b3:=by rw [← hb3]; exact decide_eq_decide.2 (by omega)
 obtain ⟨e1,he1⟩:∃ e1,firstV [whenV (!b1) 8,whenV b2 12,whenV b3 5]=e1:=⟨_,rfl⟩
 have hE:shtE s ts=if e1=0 then (if firstV (ts.map trcE)=0 then (if ts.all (widB (widF ts).1) then 0 else 2) else firstV (ts.map trcE)) else e1:=by
   rw [← he1,← hb1,← hb2,← hb3]; rfl
 have hw212:∀ (b:Bool) (e:Int) X m,Gn.g114 [.bool b,iv e] X m=some (iv (whenV b e),X,m):=fun _ _ _ _=>rfl
 have hw213:∀ X m,Gn.gSB Gn.nameB [.string s] X m=some (.bool b1,X,m):=fun X m=>by rw [← hb1]
 have hw211:∀ (N:Nat) (Y:Heap) m,g211 [.slice (some ⟨N,0,none⟩) 3 3] ((N,.cells [iv (whenV (!b1) 8),iv (whenV b2 12),iv (whenV b3 5)] 29) :: Y) m=some (iv e1,(N,.cells [iv (whenV (!b1) 8),iv (whenV b2 12),iv (whenV b3 5)] 29) :: Y,m):=fun N Y m=>by
   simp only [g211,hI3,Option.map_some,he1]
 have hl110:=load110 hbx
 refine AC.pureM Tryz.func191 rfl (by kernel_rfl) rfl [1,2,5] rfl ?_
 refine E.seq (E.reg hr (by simp; rfl) ?_)
 rw [hX]
 refine E.seq (E.seq ?_)
 refine E.drawU mixed hr [14,15,16] [2,4,9,14,15,16] [1,2,4,9,14,15,16] (by kernel_rfl) (by simp [-cellA,-readA,-decide_eq_true_eq,cellA_read,htk,hpl,hnm,hnm3,hc0,hc1,hb2',hb3',hw213,hw212,hw211]; rfl) ?_
 refine E.lead { fr:=[(1,ptA n),(2,ptA (n + 1)),(3,iv e1)],sz:=50,H:=X,n:=n + 3,marks:=[],vs:=[1,2,5] } (.keep rfl rfl rfl (by simp) (Sub.cons (hXn _ (by omega)) (Sub.refl _))) ?_
 have hst:∀ e:Int,storeA X (n + 1) 0 [iv e]=some (hset X (n + 1) (.cells [iv e] 29)):=fun e=>store_at hc2 (i:=0) (Nat.zero_lt_one)
 have hrs:∀ e:Int,cellA (hset X (n + 1) (.cells [iv e] 29)) (n + 1) 0=some (iv e):=fun e=>by rw [cellA_eq,hget_hset,if_pos rfl,hc2]; rfl
 have hss:∀ e:Int,Sub (tidy n H) (hset X (n + 1) (.cells [iv e] 29)):=fun e=>sub_hset hS (hT _ (by omega))
 refine E.seq (E.reg hr0 (by simp; rfl) ?_)
 by_cases h1:e1=0
 rotate_left
 · rw [if_neg h1] at hE
   refine E.cond (t:=true) (by simp [h1]) (fun _=>?_) (fun h=>by cases h)
   refine E.seq (E.reg hr0 (by simp [-storeA,hst]; rfl) ?_)
   refine E.ret ?_
   show Ab.outM Tryz.prog Tryz.f191 (fun u H2 _=>u=iv (shtE s ts) ∧ Ab.Sub (tidy n H) H2) .ret _
   exact outM.ret (hset X (n + 1) (.cells [iv e1] 29)) rfl (vs:=[iv e1]) (by simp [-cellA,resultsA,resultA,Tryz.results191,hrs]) ⟨by rw [hE]; rfl,hss _⟩
 rw [if_pos h1] at hE
 refine E.cond (t:=false) (by simp [h1]) (fun h=>by cases h) (fun _=>?_)
 refine E.skip (E.seq ?_)
 refine E.seq ?_
 obtain ⟨e2,he2⟩:∃ e2,firstV (ts.map trcE)=e2:=⟨_,rfl⟩
 rw [he2] at hE
 have h214:g214 [.slice oa ts.length c,.func (.func 215) #[] #[]] X (n + 3)=some (outS (n + 3) ts.length,outSB (n + 3) 29 1 ts.length ((ts.map trcE).map iv) ++ X,n + 3 + 1):=by
   have h1:=listV_mono decT_mono hS ht
   have h2:dR X:=hS _ _ hR
   simp only [g214,h1,h2,and_self,if_true]
 have h211:∀ m,g211 [outS (n + 3) ts.length] (outSB (n + 3) 29 1 ts.length ((ts.map trcE).map iv) ++ X) m=some (iv e2,outSB (n + 3) 29 1 ts.length ((ts.map trcE).map iv) ++ X,m):=fun m=>by
   have:=intV_outS (N:=n + 3) (t:=29) (Z:=X) (l:=ts.map trcE) (by rw [List.length_map]; exact hlt)
   rw [List.length_map] at this
   simp only [g211,this,Option.map_some,he2]
 refine E.reg hr (by simp [-List.map_map,-cellA,hc1,h214,h211]; rfl) ?_
 refine E.lead { fr:=[(1,ptA n),(2,ptA (n + 1)),(4,iv e2)],sz:=50,H:=X,n:=n + 4,marks:=[],vs:=[1,2,5] } (.keep rfl rfl rfl (by simp) (Sub.app (fun x hx=>hXn _ (by have:=outSB_ge x hx; omega)) (Sub.refl _))) ?_
 refine E.seq (E.reg hr0 (by simp; rfl) ?_)
 by_cases h2:e2=0
 rotate_left
 · rw [if_neg h2] at hE
   refine E.cond (t:=true) (by simp [h2]) (fun _=>?_) (fun h=>by cases h)
   refine E.seq (E.reg hr0 (by simp [-storeA,hst]; rfl) ?_)
   refine E.ret ?_
   show Ab.outM Tryz.prog Tryz.f191 (fun u H2 _=>u=iv (shtE s ts) ∧ Ab.Sub (tidy n H) H2) .ret _
   exact outM.ret (hset X (n + 1) (.cells [iv e2] 29)) rfl (vs:=[iv e2]) (by simp [-cellA,resultsA,resultA,Tryz.results191,hrs]) ⟨by rw [hE]; rfl,hss _⟩
 rw [if_pos h2] at hE
 refine E.cond (t:=false) (by simp [h2]) (fun h=>by cases h) (fun _=>?_)
 refine E.skip (E.seq ?_)
 have h192:∀ m,g192 [.agg ⟨[.string s,.slice oa ts.length c]⟩] X m=some (.tuple #[iv (widF ts).1,.bool (widF ts).2],X,m):=fun m=>by
   simp only [g192,shtV_mono hS hv0]
 obtain ⟨W,hW⟩:∃ W,(widF ts).1=W:=⟨_,rfl⟩
 rw [hW] at h192 hE
 refine E.reg hr (by simp [-loadA,hl110,h192]; rfl) ?_
 refine E.seq (E.seq ?_)
 have hl':=load110 (H:=(n + 4,Blk.cells [iv W] 3) :: X) (n:=n) (s:=s) (u:=.slice oa ts.length c) (by rw [hget_cons,if_neg (by omega)]; exact hbx)
 refine E.reg hr (by simp [-loadA,hl',g216]; rfl) ?_
 refine E.block ?_
 refine E.lead { fr:=fr191 n,sz:=50,H:=(n + 5,Blk.cells [.string s,.slice oa ts.length c] 110) :: (n + 4,.cells [iv W] 3) :: X,n:=n + 6,marks:=[],vs:=[2,5] } (.keep rfl rfl rfl (by simp) (Sub.refl _)) ?_
 refine E.rangeX (x:=asg191) (y:=bdy191) rfl ent239 ?_
 obtain ⟨B,hB⟩:∃ B,(n + 5,Blk.cells [.string s,.slice oa ts.length c] 110) :: tidy n H=B:=⟨_,rfl⟩
 have hBb:hget B (n + 5)=some (.cells [.string s,.slice oa ts.length c] 110):=by rw [← hB,hget_cons,if_pos rfl]
 have hSB:Sub (tidy n H) B:=by rw [← hB]; exact Sub.cons (hT _ (by omega)) (Sub.refl _)
 have htB:trcV B (.slice oa ts.length c)=some ts:=listV_mono decT_mono hSB ht
 have hBlt:∀ k b,hget B k=some b → k < n + 8:=fun k b hk=>by
   rw [← hB,hget_cons] at hk
   split at hk
   · omega
   · have:=tidy_lt _ _ hk; omega
 have hBn:∀ j,n ≤ j → j ≠ n + 5 → hget B j=none:=fun j h1 h2=>by
   rw [← hB,hget_cons,if_neg (fun e=>h2 e.symm)]
   exact hT j h1
 have hstart:Kp B (n + 8) (fs191 n W 0 .ready none) ((n + 7,lb191 n .ready none) :: (n + 6,.defd) :: (n + 5,Blk.cells [.string s,.slice oa ts.length c] 110) :: (n + 4,.cells [iv W] 3) :: X) (n + 8):=by
   have hs0:Sub B ((n + 7,lb191 n .ready none) :: (n + 6,.defd) :: (n + 5,Blk.cells [.string s,.slice oa ts.length c] 110) :: (n + 4,.cells [iv W] 3) :: X):=fun k b hk=>by
     rw [← hB,hget_cons] at hk
     split at hk
     · rename_i e
       subst e
       injection hk with hk
       subst hk
       simp
     · have:=tidy_lt _ _ hk
       rw [hget_cons,if_neg (by omega),hget_cons,if_neg (by omega),hget_cons,if_neg (by omega),hget_cons,if_neg (by omega)]
       exact hS _ _ hk
   have hn0:namesOk (n + 8) ((n + 7,lb191 n .ready none) :: (n + 6,.defd) :: (n + 5,Blk.cells [.string s,.slice oa ts.length c] 110) :: (n + 4,.cells [iv W] 3) :: X)=true:=
     namesOk_put (by omega) (namesOk_put (by omega) (namesOk_put (by omega) (namesOk_put (by omega) (namesOk_mono (by omega) _ hnm))))
   refine ((((Kp.start hBlt hs0 hn0 (Nat.le_refl _)).more (l:=n + 4) (c:=.cells [iv W] 3) (by simp) (by omega) (hBn _ (by omega) (by omega)) (by simp)).more (l:=n + 1) (c:=.cells [iv 0] 29) ?_ (by omega) (hBn _ (by omega) (by omega)) (by simp)).more (l:=n + 7) (c:=lb191 n .ready none) (by simp) (by omega) (hBn _ (by omega) (by omega)) (by simp)).more (l:=n + 6) (c:=.defd) (by simp) (by omega) (hBn _ (by omega) (by omega)) (by simp)
   rw [hget_cons,if_neg (by omega),hget_cons,if_neg (by omega),hget_cons,if_neg (by omega),hget_cons,if_neg (by omega)]
   exact hc2
 obtain ⟨v',H',n',hAC,hend⟩:=it239 (B:=B) (l:=n + 7) (kb:=n + 5) hBb htB (fun i H N=>Kp B (n + 8) (fs191 n W 0 .ready none) H N ∧ ts.all (widB W)=(ts.drop i).all (widB W)) (fun H N=>Kp B (n + 8) (fs191 n W 2 .done (some .ret)) H N ∧ ts.all (widB W)=false) (fun i H N h=>h.1.sub) (fun i H N h=>h.1.lt)
   (fun i H N cs hi h hh=>⟨h.1.skip _,by rw [h.2,List.drop_eq_getElem_cons hi,List.all_cons,widB,hh,Bool.true_or,Bool.true_and]⟩)
   (fun i Hx N cs hi hI hh hl10 hd=>by
     obtain ⟨hI,hg⟩:=hI
     have hb:=hI.big
     obtain ⟨q,rfl,h8,hq⟩:=decT_form hd
     obtain ⟨oq,cq,rfl,hlq,_,_⟩:=reaV_form hq
     rw [List.drop_eq_getElem_cons hi,List.all_cons,widB,hh,Bool.false_or] at hg
     rw [hh]
     obtain ⟨a0,a1,a2,a3,a4,a5,a6,a7,hhd⟩:=len8 h8
     have hS1:=hI.skip (.cells (ts[i].hd.map iv ++ [.bool false,.slice oq ts[i].smp.length cq]) 159)
     obtain ⟨X1,hX1⟩:∃ X1,(N,Blk.cells (ts[i].hd.map iv ++ [.bool false,.slice oq ts[i].smp.length cq]) 159) :: Hx=X1:=⟨_,rfl⟩
     rw [hX1] at hS1 ⊢
     refine (yieldF_ex (K:=fun b H' N'=>if b=true then Kp B (n + 8) (fs191 n W 0 .ready none) H' N' ∧ ts.all (widB W)=(ts.drop (i + 1)).all (widB W) else Kp B (n + 8) (fs191 n W 2 .done (some .ret)) H' N' ∧ ts.all (widB W)=false) (hS1.at' 1 _ rfl) rfl (fun c h=>by cases h) (fun c h=>by cases h) ?_)
     rw [hhd]
     refine E.reg hr0 (by simp; rfl) ?_
     have hS2:=hS1.skip (.cells [iv a0,iv a1,iv a2,iv a3,iv a4,iv a5,iv a6,iv a7,.bool false,.slice oq ts[i].smp.length cq] 159)
     refine ⟨rfl,hS2.at' 1 _ rfl,?_⟩
     have hY:=hS2.put 1 rfl (lb191 n .busy none)
     have hy9:cellA (hset ((N + 1,Blk.cells [iv a0,iv a1,iv a2,iv a3,iv a4,iv a5,iv a6,iv a7,.bool false,.slice oq ts[i].smp.length cq] 159) :: X1) (n + 7) (lb191 n .busy none)) (N + 1) 9=some (.slice oq ts[i].smp.length cq):=by
       rw [cellA_eq,hget_hset,if_neg (by omega),hget_cons,if_pos rfl]
       rfl
     obtain ⟨Y,hYe⟩:∃ Y,hset ((N + 1,Blk.cells [iv a0,iv a1,iv a2,iv a3,iv a4,iv a5,iv a6,iv a7,.bool false,.slice oq ts[i].smp.length cq] 159) :: X1) (n + 7) (lb191 n .busy none)=Y:=⟨_,rfl⟩
     rw [hYe] at hY hy9 ⊢
     have hy5:cellA Y (n + 4) 0=some (iv W):=hY.cell 3 rfl 0
     refine E.block (E.seq ?_)
     by_cases hw:(ts[i].smp.length:Int)=W
     · refine E.reg hr0 (by simp [-cellA,hy9,hy5,hw]; rfl) ?_
       refine E.cond (t:=false) (by simp) (fun h=>by cases h) (fun _=>?_)
       refine E.skip ?_
       rw [decide_eq_true hw,Bool.true_and] at hg
       exact ⟨hY.at' 1 _ rfl,.inl ⟨rfl,hY.put 1 rfl (lb191 n .ready none),hg⟩⟩
     · refine E.reg hr0 (by simp [-cellA,hy9,hy5,hw]; rfl) ?_
       refine E.cond (t:=true) (by simp) (fun _=>?_) (fun h=>by cases h)
       refine E.seq ?_
       have s1:=hY.store 2 (v:=iv 2) rfl
       have hZ:=hY.put 2 rfl (.cells [iv 2] 29)
       refine E.reg hr0 (by simp [-storeA,s1]; rfl) ?_
       refine E.ret ?_
       rw [decide_eq_false hw,Bool.false_and] at hg
       exact ⟨hZ.at' 1 _ rfl,.inr ⟨rfl,hZ.put 1 rfl (lb191 n .done (some .ret)),hg⟩⟩)
   ⟨hstart,by rw [List.drop_zero]⟩
 refine ⟨v',H',n',hAC,?_⟩
 rcases hend with ⟨hI,hg⟩ | ⟨hI,hg⟩
 · refine .inl ⟨hI.at' 1 _ rfl,?_⟩
   rw [List.drop_length,List.all_nil] at hg
   rw [hg,if_pos rfl] at hE
   have hY:=hI.put 1 rfl (lb191 n .exhausted none)
   obtain ⟨Y,hYe⟩:∃ Y,hset H' (n + 7) (lb191 n .exhausted none)=Y:=⟨_,rfl⟩
   show E Tryz.prog n none _ { fr:=fr191 n,sz:=50,H:=hset H' (n + 7) (lb191 n .exhausted none),n:=n',marks:=[n + 6],vs:=[2,5] } _
   rw [hYe] at hY ⊢
   have s1:=hY.store 2 (v:=iv 0) rfl
   have hZ:=hY.put 2 rfl (.cells [iv 0] 29)
   refine E.seq (E.reg hr0 (by simp [-storeA,s1]; rfl) ?_)
   refine E.ret ?_
   have d:cellA (hdel (hset Y (n + 1) (.cells [iv 0] 29)) (n + 6)) (n + 1) 0=some (iv 0):=by rw [cellA_eq,hget_hdel,if_neg (by omega),hZ.at' 2 _ rfl]; rfl
   exact outM.ret _ (shut_one (hZ.at' 0 _ rfl)) (vs:=[iv 0]) (by simp [-cellA,resultsA,resultA,Tryz.results191,d]) ⟨by rw [hE]; rfl,hSB.trans hZ.del⟩
 · refine .inr ⟨hI.at' 1 _ rfl,?_⟩
   rw [hg,if_neg (by decide)] at hE
   have hY:=hI.put 1 rfl (lb191 n .exhausted (some .ret))
   obtain ⟨Y,hYe⟩:∃ Y,hset H' (n + 7) (lb191 n .exhausted (some .ret))=Y:=⟨_,rfl⟩
   show Ab.outM Tryz.prog Tryz.f191 (fun u H2 _=>u=iv (shtE s ts) ∧ Ab.Sub (tidy n H) H2) .ret { fr:=fr191 n,sz:=50,H:=hset H' (n + 7) (lb191 n .exhausted (some .ret)),n:=n',marks:=[n + 6],vs:=[2,5] }
   rw [hYe] at hY ⊢
   have d:cellA (hdel Y (n + 6)) (n + 1) 0=some (iv 2):=by rw [cellA_eq,hget_hdel,if_neg (by omega),hY.at' 2 _ rfl]; rfl
   exact outM.ret _ (shut_one (hY.at' 0 _ rfl)) (vs:=[iv 2]) (by simp [-cellA,resultsA,resultA,Tryz.results191,d]) ⟨by rw [hE]; rfl,hSB.trans hY.del⟩
open Classical in
noncomputable def g191 (args:List Value) (H:Heap) (n:Nat):R:=match args with
 | [v]=>match shtV H v with
   | some x=>if dR H then some (iv (shtE x.1 x.2),H,n) else none
   | none=>none
 | _=>none
theorem ok191:EntOk Tryz.prog (191,g191):=by
 intro args H n v H' n' h
 simp only [g191] at h
 split at h
 · split at h
   · rename_i x hx
     split at h
     · rename_i hR
       injection h with h; injection h with e1 e2; injection e2 with e2 e3; subst e1 e2 e3
       exact w191 (s:=x.1) (ts:=x.2) hR hx
     · cases h
   · cases h
 · cases h
def widE (s:ByteArray) (ts:List Trc):Int:=if shtE s ts=0 then (widF ts).1 else 0
set_option maxHeartbeats 600000 in
set_option maxRecDepth 50000 in
theorem w168 {H:Heap} {n:Nat} {v:Value} {s:ByteArray} {ts:List Trc} (hR:dR H) (hv:shtV H v=some (s,ts)):AC Tryz.prog 168 [v] H n (.tuple #[iv (widE s ts),iv (shtE s ts)]) H n:=by
 refine AC.given fun hold hsc hgn=>AC.tidied (B:=[]) (by simp) ?_
 replace hv:=shtV_tidy (fun k b h=>(hold k b h).1) hv
 have h1n:1 < n:=by rw [gsz] at hgn; omega
 replace hR:hget (tidy n H) 1=some (.inp 0 rangesV):=hget_tidy.2 ⟨hR,h1n,rfl⟩
 have hr:=recT_ok (P:=Tryz.prog) (l:=[(191,g191),(192,g192)]) (by simp only [List.forall_mem_cons]; exact ⟨ok191,ok192,by simp⟩)
 have hv2:=hv
 obtain ⟨u,rfl,ht⟩:=shtV_form hv
 obtain ⟨X,hX⟩:∃ X,(n,Blk.cells [.string s,u] 110) :: tidy n H=X:=⟨_,rfl⟩
 have hS:Sub (tidy n H) X:=by rw [← hX]; exact Sub.cons (by simp) (Sub.refl _)
 have hb:hget X n=some (.cells [.string s,u] 110):=by rw [← hX,hget_cons,if_pos rfl]
 have hld:=load110 hb
 have hRX:dR X:=hS _ _ hR
 have h191:∀ m,g191 [.agg ⟨[.string s,u]⟩] X m=some (iv (shtE s ts),X,m):=fun m=>by
   simp only [g191,shtV_mono hS hv2,hRX,if_true]
 have h192:∀ m,g192 [.agg ⟨[.string s,u]⟩] X m=some (.tuple #[iv (widF ts).1,.bool (widF ts).2],X,m):=fun m=>by
   simp only [g192,shtV_mono hS hv2]
 have hE:widE s ts=if shtE s ts=0 then (widF ts).1 else 0:=rfl
 obtain ⟨e,he⟩:∃ e,shtE s ts=e:=⟨_,rfl⟩
 rw [he] at h191 hE
 refine AC.pure Tryz.func168 rfl (by kernel_rfl) rfl [1,2,3] rfl ?_
 refine E.seq (E.reg hr (by simp; rfl) ?_)
 rw [hX]
 refine E.seq (E.seq (E.reg hr (by simp [-loadA,hld,h191]; rfl) ?_))
 refine E.seq (E.reg hr (by simp; rfl) ?_)
 by_cases hz:e=0
 · rw [if_pos hz] at hE
   refine E.cond (t:=false) (by simp [hz]) (fun h=>by cases h) (fun _=>?_)
   refine E.skip (E.seq (E.reg hr (by simp [-loadA,hld,h192]; rfl) ?_))
   refine E.seq (E.reg hr (by simp; rfl) ?_)
   refine E.ret ?_
   exact pureK.ret rfl rfl (by rw [hE,he,hz]; rfl) hS
 · rw [if_neg hz] at hE
   refine E.cond (t:=true) (by simp [hz]) (fun _=>?_) (fun h=>by cases h)
   refine E.seq (E.reg hr (by simp; rfl) ?_)
   refine E.ret ?_
   exact pureK.ret rfl rfl (by rw [hE,he]; rfl) hS
open Classical in
noncomputable def g168 (args:List Value) (H:Heap) (n:Nat):R:=match args with
 | [v]=>match shtV H v with
   | some x=>if dR H then some (.tuple #[iv (widE x.1 x.2),iv (shtE x.1 x.2)],H,n) else none
   | none=>none
 | _=>none
theorem ok168:EntOk Tryz.prog (168,g168):=by
 intro args H n v H' n' h
 simp only [g168] at h
 split at h
 · split at h
   · rename_i x hx
     split at h
     · rename_i hR
       injection h with h; injection h with e1 e2; injection e2 with e2 e3; subst e1 e2 e3
       exact w168 (s:=x.1) (ts:=x.2) hR hx
     · cases h
   · cases h
 · cases h
set_option maxHeartbeats 1000000 in
set_option maxRecDepth 50000 in
theorem w193 {H:Heap} {n:Nat} {cs:List Value} {t:Trc} (hR:dR H) (ht:decT H cs=some t) (hz:trcE t=0):AC Tryz.prog 193 [.agg ⟨cs⟩] H n (.tuple #[iv (offV t.hd),iv 0]) H n:=by
 refine AC.given fun hold hsc hgn=>AC.tidied (B:=[]) (by simp) ?_
 replace ht:decT (tidy n H) cs=some t:=decT_tidy _ _ _ _ (fun k b h=>(hold k b h).1) ht
 have h1n:1 < n:=by rw [gsz] at hgn; omega
 replace hR:hget (tidy n H) 1=some (.inp 0 rangesV):=hget_tidy.2 ⟨hR,h1n,rfl⟩
 have hr:=recT_ok (P:=Tryz.prog) (l:=[(215,g215)]) (by simp [ok215])
 have ht2:=ht
 obtain ⟨q,rfl,h8,hq⟩:=decT_form ht
 obtain ⟨X,hX⟩:∃ X,(n,Blk.cells (t.hd.map iv ++ [.bool t.hole,q]) 159) :: tidy n H=X:=⟨_,rfl⟩
 have hS:Sub (tidy n H) X:=by rw [← hX]; exact Sub.cons (by simp) (Sub.refl _)
 have hnm:namesOk (n + 1) X=true:=by rw [← hX]; exact namesOk_put (by omega) (by simp)
 have hbx:hget X n=some (.cells (t.hd.map iv ++ [.bool t.hole,q]) 159):=by rw [← hX,hget_cons,if_pos rfl]
 have hlen:(t.hd.map iv ++ [Value.bool t.hole,q]).length=10:=by rw [List.length_append,List.length_map,h8]; rfl
 have hcsA:cellsA X n 0 10=some (t.hd.map iv ++ [.bool t.hole,q]):=by
   rw [cellsA_eq,hbx]
   simp only [Option.bind_some,cellsB]
   rw [if_pos (by rw [hlen]; omega),List.drop_zero,List.take_of_length_le (by rw [hlen]; omega)]
 have hld:=load159 hcsA
 have hRX:dR X:=hS _ _ hR
 have h215:∀ m,g215 [.agg ⟨t.hd.map iv ++ [.bool t.hole,q]⟩] X m=some (iv 0,X,m):=fun m=>by
   simp only [g215,decT_mono _ _ _ _ hS ht2,hRX,if_true,hz]
 have hb:hdE t.hd=0:=by
   unfold trcE at hz
   split at hz
   · assumption
   · rename_i h; exact absurd hz h
 have hc:∀ i,i < 8 → cellA X n i=some (iv (t.hd.getD i 0)):=fun i hi=>by
   rw [cellA_eq,hbx]
   show (t.hd.map iv ++ _)[i]? = _
   rw [List.getElem?_append_left (by rw [List.length_map]; omega),List.getElem?_map,List.getD_eq_getElem?_getD,List.getElem?_eq_getElem (by omega)]
   rfl
 have c0:=hc 0 (by omega)
 have c1:=hc 1 (by omega)
 have c2:=hc 2 (by omega)
 have c3:=hc 3 (by omega)
 obtain ⟨b4,b5,b6⟩:=off_bound hb
 have b0:=b4 0 (by omega)
 have b1:=b4 1 (by omega)
 have b2:=b4 2 (by omega)
 have b3:=b4 3 (by omega)
 have hoff:offV t.hd=(t.hd.getD 2 0 - t.hd.getD 0 0) * (t.hd.getD 2 0 - t.hd.getD 0 0) + (t.hd.getD 3 0 - t.hd.getD 1 0) * (t.hd.getD 3 0 - t.hd.getD 1 0):=rfl
 generalize t.hd.getD 0 0=x0 at c0 b0 hoff
 generalize t.hd.getD 1 0=x1 at c1 b1 hoff
 generalize t.hd.getD 2 0=x2 at c2 b2 hoff
 generalize t.hd.getD 3 0=x3 at c3 b3 hoff
 have sq:∀ x:Int,-200000 ≤ x → x ≤ 200000 → 0 ≤ x * x ∧ x * x ≤ 40000000000:=fun x h1 h2=>by
   have h3:x * x=(x.natAbs:Int) * (x.natAbs:Int):=(Int.natAbs_mul_self' x).symm
   have h4:x.natAbs ≤ 200000:=by omega
   have h5:x.natAbs * x.natAbs ≤ 200000 * 200000:=Nat.mul_le_mul h4 h4
   rw [h3]
   omega
 have s1:=sq (x2 - x0) (by omega) (by omega)
 have s2:=sq (x3 - x1) (by omega) (by omega)
 have w1:IntKind.i64.wrap (x2 - x0)=x2 - x0:=W_in (by omega) (by omega)
 have w2:IntKind.i64.wrap (x3 - x1)=x3 - x1:=W_in (by omega) (by omega)
 have w3:IntKind.i64.wrap ((x2 - x0) * (x2 - x0))=(x2 - x0) * (x2 - x0):=W_in (by omega) (by omega)
 have w4:IntKind.i64.wrap ((x3 - x1) * (x3 - x1))=(x3 - x1) * (x3 - x1):=W_in (by omega) (by omega)
 have w5:IntKind.i64.wrap ((x2 - x0) * (x2 - x0) + (x3 - x1) * (x3 - x1))=(x2 - x0) * (x2 - x0) + (x3 - x1) * (x3 - x1):=W_in (by omega) (by omega)
 refine AC.pure Tryz.func193 rfl (by kernel_rfl) rfl [1,2,3,5,6] rfl ?_
 refine E.seq (E.reg hr (by simp; rfl) ?_)
 rw [hX]
 refine E.seq (E.seq (E.reg hr (by simp [-loadA,hld,h215]; rfl) ?_))
 refine E.seq (E.reg hr (by simp; rfl) ?_)
 refine E.cond (t:=false) (by simp) (fun h=>by cases h) (fun _=>?_)
 refine E.skip (E.seq ?_)
 refine E.drawU mixed hr [] [] [2,5,9,12] (by kernel_rfl) (by simp [-cellA,-readA,cellA_read,hnm,c0,c1,c2,c3,w1,w2]; rfl) ?_
 refine E.seq (E.reg hr (by simp [w3,w4,w5]; rfl) ?_)
 refine E.ret ?_
 exact pureK.ret rfl rfl (by rw [hoff]; rfl) hS
open Classical in
noncomputable def g193 (args:List Value) (H:Heap) (n:Nat):R:=match args with
 | [.agg a]=>match decT H a.toList with
   | some t=>if dR H ∧ trcE t=0 then some (.tuple #[iv (offV t.hd),iv 0],H,n) else none
   | none=>none
 | _=>none
theorem ok193:EntOk Tryz.prog (193,g193):=by
 intro args H n v H' n' h
 simp only [g193] at h
 split at h
 · split at h
   · rename_i t ht
     split at h
     · rename_i hR
       injection h with h; injection h with e1 e2; injection e2 with e2 e3; subst e1 e2 e3
       exact w193 hR.1 ht hR.2
     · cases h
   · cases h
 · cases h
set_option maxRecDepth 50000 in
theorem w170 {H:Heap} {n:Nat} {cs:List Value} {t:Trc} (hR:dR H) (ht:decT H cs=some t) (hz:trcE t=0):AC Tryz.prog 170 [.agg ⟨cs⟩] H n (iv (offV t.hd)) H n:=by
 refine AC.given fun hold hsc hgn=>AC.tidied (B:=[]) (by simp) ?_
 replace ht:decT (tidy n H) cs=some t:=decT_tidy _ _ _ _ (fun k b h=>(hold k b h).1) ht
 have h1n:1 < n:=by rw [gsz] at hgn; omega
 replace hR:hget (tidy n H) 1=some (.inp 0 rangesV):=hget_tidy.2 ⟨hR,h1n,rfl⟩
 have hr:=recT_ok (P:=Tryz.prog) (l:=[(193,g193)]) (by simp [ok193])
 have ht2:=ht
 obtain ⟨q,rfl,h8,hq⟩:=decT_form ht
 obtain ⟨X,hX⟩:∃ X,(n,Blk.cells (t.hd.map iv ++ [.bool t.hole,q]) 159) :: tidy n H=X:=⟨_,rfl⟩
 have hS:Sub (tidy n H) X:=by rw [← hX]; exact Sub.cons (by simp) (Sub.refl _)
 have hbx:hget X n=some (.cells (t.hd.map iv ++ [.bool t.hole,q]) 159):=by rw [← hX,hget_cons,if_pos rfl]
 have hlen:(t.hd.map iv ++ [Value.bool t.hole,q]).length=10:=by rw [List.length_append,List.length_map,h8]; rfl
 have hcsA:cellsA X n 0 10=some (t.hd.map iv ++ [.bool t.hole,q]):=by
   rw [cellsA_eq,hbx]
   simp only [Option.bind_some,cellsB]
   rw [if_pos (by rw [hlen]; omega),List.drop_zero,List.take_of_length_le (by rw [hlen]; omega)]
 have hld:=load159 hcsA
 have hRX:dR X:=hS _ _ hR
 have h193:∀ m,g193 [.agg ⟨t.hd.map iv ++ [.bool t.hole,q]⟩] X m=some (.tuple #[iv (offV t.hd),iv 0],X,m):=fun m=>by
   simp only [g193,decT_mono _ _ _ _ hS ht2,hRX,hz,and_self,if_true]
 refine AC.pure Tryz.func170 rfl (by kernel_rfl) rfl [2] rfl ?_
 refine E.seq (E.reg hr (by simp; rfl) ?_)
 rw [hX]
 refine E.seq (E.reg hr (by simp [-loadA,hld,h193]; rfl) ?_)
 refine E.seq (E.reg hr (by simp; rfl) ?_)
 refine E.ret ?_
 exact pureK.ret rfl rfl rfl hS
open Classical in
noncomputable def g170 (args:List Value) (H:Heap) (n:Nat):R:=match args with
 | [.agg a]=>match decT H a.toList with
   | some t=>if dR H ∧ trcE t=0 then some (iv (offV t.hd),H,n) else none
   | none=>none
 | _=>none
theorem ok170:EntOk Tryz.prog (170,g170):=by
 intro args H n v H' n' h
 simp only [g170] at h
 split at h
 · split at h
   · rename_i t ht
     split at h
     · rename_i hR
       injection h with h; injection h with e1 e2; injection e2 with e2 e3; subst e1 e2 e3
       exact w170 hR.1 ht hR.2
     · cases h
   · cases h
 · cases h
structure OkS (ts:List Trc):Prop where
 err:∀ x ∈ ts,trcE x=0
 hd:∀ x ∈ ts,hdE x.hd=0
 good:∀ x ∈ ts,∀ b ∈ x.smp,good32 b=true
 wid:∀ x ∈ ts,x.hole=false → (x.smp.length:Int)=(widF ts).1
 hol:∀ x ∈ ts,x.hole=true → x.smp=[]
 w0:0 ≤ (widF ts).1 ∧ (widF ts).1 ≤ 1024
 len:1 ≤ ts.length ∧ ts.length ≤ 64
theorem first_zero:∀ {l:List Int},firstV l=0 → ∀ x ∈ l,x=0
 | [],_,_,h=>by cases h
 | e :: l,h,x,hx=>by
   rw [firstV] at h
   split at h
   · rename_i he
     rcases List.mem_cons.1 hx with rfl | hx
     · exact he
     · exact first_zero h x hx
   · rename_i he; exact absurd h he
theorem err_good {b:Nat} (h:err32 b=0):good32 b=true:=by
 unfold err32 at h
 split at h
 · split at h
   · assumption
   · cases h
 · cases h
theorem trcE_ok {t:Trc} (h:trcE t=0):hdE t.hd=0 ∧ (t.hole=true → t.smp=[]) ∧ t.smp.length ≤ 1024 ∧ ∀ b ∈ t.smp,good32 b=true:=by
 unfold trcE at h
 split at h
 · rename_i h0
   split at h
   · cases h
   · rename_i h1
     have h2:Gn.chkV 1024 t.smp=if (1024:Int) < t.smp.length then 5 else firstV (t.smp.map err32):=by rw [← first_same]; rfl
     rw [h2] at h
     split at h
     · cases h
     · rename_i h3
       refine ⟨h0,fun hh=>?_,by omega,fun b hb=>err_good (first_zero h _ (List.mem_map.2 ⟨b,hb,rfl⟩))⟩
       cases hs:t.smp with
       | nil=>rfl
       | cons x l=>exact absurd ⟨hh,by rw [hs]; simp⟩ h1
 · rename_i h0; exact absurd h h0
theorem widF_of:∀ (ts:List Trc),(widF ts).1=0 ∨ ∃ x ∈ ts,x.hole=false ∧ (widF ts).1=x.smp.length:=by
 intro ts
 unfold widF
 cases hf:ts.find? fun t=>!t.hole with
 | none=>exact .inl rfl
 | some t=>
   refine .inr ⟨t,List.mem_of_find?_eq_some hf,?_,rfl⟩
   have:=List.find?_some hf
   simpa using this
theorem shtE_ok {s:ByteArray} {ts:List Trc} (h:shtE s ts=0):OkS ts:=by
 unfold shtE at h
 dsimp only at h
 split at h
 · rename_i h1
   split at h
   · rename_i h2
     split at h
     · rename_i h3
       have he:∀ x ∈ ts,trcE x=0:=fun x hx=>first_zero h2 _ (List.mem_map.2 ⟨x,hx,rfl⟩)
       have e2:=first_zero h1 (whenV (decide (ts.length=0)) 12) (by simp)
       have e3:=first_zero h1 (whenV (decide (64 < ts.length)) 5) (by simp)
       rw [List.all_eq_true] at h3
       have hw:∀ x ∈ ts,x.hole=false → (x.smp.length:Int)=(widF ts).1:=fun x hx hh=>by
         have:=h3 x hx
         rw [widB,hh,Bool.false_or] at this
         exact of_decide_eq_true this
       refine ⟨he,fun x hx=>(trcE_ok (he x hx)).1,fun x hx=>(trcE_ok (he x hx)).2.2.2,hw,fun x hx=>(trcE_ok (he x hx)).2.1,?_,?_,?_⟩
       · rcases widF_of ts with e | ⟨x,hx,_,e⟩
         · rw [e]; omega
         · have:=(trcE_ok (he x hx)).2.2.1
           rw [e]; omega
       · by_cases h0:ts.length=0
         · rw [decide_eq_true h0] at e2
           cases e2
         · omega
       · by_cases h0:64 < ts.length
         · rw [decide_eq_true h0] at e3
           cases e3
         · omega
     · cases h
   · rename_i h2; exact absurd h h2
 · rename_i h1; exact absurd h h1
theorem load196 {H:Heap} {n:Nat} {s:ByteArray} {u:Value} {W:Int} (h:hget H n=some (.cells [.string s,u,iv W] 196)):loadA Tryz.prog 196 H (.pointer (some ⟨n,0,none⟩))=some (.agg ⟨[.string s,u,iv W]⟩):=by
 have:cellsA H n 0 3=some [.string s,u,iv W]:=by rw [cellsA_eq,h]; rfl
 simp only [loadA,ag196,sz196,this,Option.map_some]
theorem build196 {s:ByteArray} {u:Value} {W:Int} {fr:Fr} {H:Heap} {n:Nat}:opBuild Tryz.prog 196 #[(0,.tmp 11),(1,.tmp 12)] ((12,iv W) :: (11,.agg ⟨[.string s,u]⟩) :: fr) H n=some (.agg ⟨[.string s,u,iv W]⟩,H,n):=by kernel_rfl
set_option maxRecDepth 50000 in
theorem w131 {H:Heap} {n:Nat} {s:ByteArray} {u:Value} {ts:List Trc} (hR:dR H) (hv:shtV H (.agg ⟨[.string s,u]⟩)=some (s,ts)):AC Tryz.prog 131 [.agg ⟨[.string s,u]⟩] H n (.tuple #[.agg ⟨[.string s,u,iv (widE s ts)]⟩,iv (shtE s ts)]) H n:=by
 refine AC.given fun hold hsc hgn=>AC.tidied (B:=[]) (by simp) ?_
 replace hv:=shtV_tidy (fun k b h=>(hold k b h).1) hv
 replace hold:=tidy_old hold
 have h1n:1 < n:=by rw [gsz] at hgn; omega
 replace hR:hget (tidy n H) 1=some (.inp 0 rangesV):=hget_tidy.2 ⟨hR,h1n,rfl⟩
 have hr:=recT_ok (P:=Tryz.prog) (l:=[(168,g168)]) (by simp [ok168])
 obtain ⟨u',e,ht⟩:=shtV_form hv
 have e:u=u':=by injection e with e; injection e with e; simpa using e
 subst e
 obtain ⟨X,hX⟩:∃ X,(n + 1,Blk.cells [.string ⟨#[]⟩,.slice none 0 0,iv 0] 196) :: (n,Blk.cells [.string s,u] 110) :: tidy n H=X:=⟨_,rfl⟩
 have hS:Sub (tidy n H) X:=by rw [← hX]; exact (Sub.cons (by simp) (Sub.refl _)).trans (Sub.cons (by rw [hget_cons,if_neg (by omega)]; simp) (Sub.refl _))
 have hb:hget X n=some (.cells [.string s,u] 110):=by rw [← hX,hget_cons,if_neg (by omega),hget_cons,if_pos rfl]
 have hb2:hget X (n + 1)=some (.cells [.string ⟨#[]⟩,.slice none 0 0,iv 0] 196):=by rw [← hX,hget_cons,if_pos rfl]
 have hld:=load110 hb
 have hRX:dR X:=hS _ _ hR
 have h168:∀ m,g168 [.agg ⟨[.string s,u]⟩] X m=some (.tuple #[iv (widE s ts),iv (shtE s ts)],X,m):=fun m=>by
   simp only [g168,shtV_mono hS hv,hRX,if_true]
 obtain ⟨e,he⟩:∃ e,shtE s ts=e:=⟨_,rfl⟩
 obtain ⟨W,hW⟩:∃ W,widE s ts=W:=⟨_,rfl⟩
 rw [he,hW] at h168 ⊢
 have hst:=store_all (cs:=[.string s,u,iv W]) hb2 rfl
 have hone:oneL [.string s,u,iv W]=true:=by
   obtain ⟨oa,c,rfl,_⟩:=trcV_form ht
   rfl
 have hld2:=load196 (H:=hset X (n + 1) (.cells [.string s,u,iv W] 196)) (n:=n + 1) (s:=s) (u:=u) (W:=W) (by rw [hget_hset,if_pos rfl,hb2]; rfl)
 refine AC.same Tryz.func131 rfl (by kernel_rfl) rfl [2,3,4,5] (by simpa [sc,scL] using hsc) (fun k b h=>tidy_lt _ _ h) ?_
 refine E.seq (E.reg hr (by simp; rfl) ?_)
 rw [hX]
 refine E.seq (E.reg hr (by simp [-loadA,hld,h168]; rfl) ?_)
 refine E.seq (E.reg hr (by simp [-loadA,-storeA,-oneL,hld,hst,hone,build196]; rfl) ?_)
 refine E.ret ?_
 exact pureK.ret rfl (vs:=[.agg ⟨[.string s,u,iv W]⟩,iv e]) (by simp [-loadA,resultsA,resultA,Tryz.results131,hld2]) rfl (sub_hset hS (by simp))
open Classical in
noncomputable def g131 (args:List Value) (H:Heap) (n:Nat):R:=match args with
 | [.agg ⟨[.string s,u]⟩]=>match shtV H (.agg ⟨[.string s,u]⟩) with
   | some x=>if dR H ∧ x.1=s then some (.tuple #[.agg ⟨[.string s,u,iv (widE s x.2)]⟩,iv (shtE s x.2)],H,n) else none
   | none=>none
 | _=>none
theorem ok131:EntOk Tryz.prog (131,g131):=by
 intro args H n v H' n' h
 simp only [g131] at h
 split at h
 · split at h
   · rename_i s u _ x hx
     split at h
     · rename_i hR
       injection h with h; injection h with e1 e2; injection e2 with e2 e3; subst e1 e2 e3
       obtain ⟨hR,e⟩:=hR
       obtain ⟨x1,x2⟩:=x
       have e:x1=s:=e
       subst e
       exact w131 hR hx
     · cases h
   · cases h
 · cases h
abbrev fn169 (n:Nat):Value:=.func (.func 169) #[] #[ptA n,ptA (n + 1),ptA (n + 2),ptA (n + 3)]
theorem w133 {H:Heap} {n:Nat} {s:ByteArray} {u:Value} {W t w st:Int}:AC Tryz.prog 133 [.agg ⟨[.string s,u,iv W]⟩,iv t,iv w,iv st] H n (fn169 n) ((n + 3,.cells [iv st] 3) :: (n + 2,.cells [iv w] 3) :: (n + 1,.cells [iv t] 3) :: (n,.cells [.string s,u,iv W] 196) :: H) (n + 4):=by
 have hr:=recT_ok (P:=Tryz.prog) (l:=[]) (by simp)
 refine AC.body Tryz.func133 rfl (by kernel_rfl) rfl [] ?_
 refine E.seq (E.reg hr (by simp; rfl) ?_)
 refine E.seq (E.reg hr (by simp [opMakefunc]; rfl) ?_)
 refine E.ret ?_
 exact ⟨.inr rfl,by simp [leaveF,shutA,resultsA,resultA,Tryz.results133,dropOk]⟩
def g133 (args:List Value) (H:Heap) (n:Nat):R:=match args with
 | [.agg ⟨[.string s,u,.int .i64 W]⟩,.int .i64 t,.int .i64 w,.int .i64 st]=>some (fn169 n,(n + 3,.cells [iv st] 3) :: (n + 2,.cells [iv w] 3) :: (n + 1,.cells [iv t] 3) :: (n,.cells [.string s,u,iv W] 196) :: H,n + 4)
 | _=>none
theorem ok133:EntOk Tryz.prog (133,g133):=by
 intro args H n v H' n' h
 simp only [g133] at h
 split at h
 · injection h with h; injection h with e1 e2; injection e2 with e2 e3; subst e1 e2 e3
   exact w133
 · cases h
theorem ent169:enterable Tryz.prog 169=true:=by kernel_rfl
theorem mov_nat (t q v:Int):∃ m:Nat,movV t q v=m:=⟨_,rfl⟩
set_option maxHeartbeats 3200000 in
set_option maxRecDepth 100000 in
theorem it169 {B : Heap} {l kb k1 k2 k3 : Nat} {s : ByteArray} {oa : Option Addr} {c : Nat} {ts : List Trc} {t w st : Int} (hbox : hget B kb = some (.cells [.string s, .slice oa ts.length c, iv (widF ts).1] 196)) (hk1 : hget B k1 = some (.cells [iv t] 3)) (hk2 : hget B k2 = some (.cells [iv w] 3)) (hk3 : hget B k3 = some (.cells [iv st] 3)) (hR : dR B) (ht : trcV B (.slice oa ts.length c) = some ts) (hok : OkS ts)
   (htr:0 ≤ t ∧ t ≤ 1024) (hwr:1 ≤ w ∧ w ≤ 1000000000) (hsr:0 ≤ st ∧ st ≤ 1024)
   (I:Nat → Heap → Nat → Prop) (D:Heap → Nat → Prop) (hI:∀ i H N,I i H N → Sub B H) (hN:∀ i H N,I i H N → namesOk N H=true)
   (hskip:∀ i H N cs (_:i < ts.length),I i H N → livB ts t w st i=false → I (i + 1) ((N,.cells cs 159) :: H) (N + 1))
   (hy:∀ i H N cs b (h:i < ts.length),I i H N → livB ts t w st i=true → ts[i].hole=false → ts[i].smp[(movV t (offV ts[i].hd) w).toNat]? = some b → ∃ q bb H' N',RecOk Tryz.prog q 0 ∧ yieldF q l [iv i,iv (six32 b)] ((N,.cells cs 159) :: H) (N + 1)=some (.bool bb,H',N') ∧ (if bb=true then I (i + 1) H' N' else D H' N'))
   {H:Heap} {n:Nat} (h0:I 0 H n):∃ v H' n',AC Tryz.prog 169 [fnY l,ptA kb,ptA k1,ptA k2,ptA k3] H n v H' n' ∧ (I ts.length H' n' ∨ D H' n'):=by
 have hr:=recT_ok (P:=Tryz.prog) (l:=[(170,g170),(93,g93)]) (by simp only [List.forall_mem_cons]; exact ⟨ok170,ok93,by simp⟩)
 obtain ⟨_,_,e,hlt,_,hrow⟩:=trcV_form ht
 injection e with e1 e2 e3
 subst e1 e3
 have hk1':cellA H kb 1=some (.slice oa ts.length c):=by rw [cellA_eq,hI _ _ _ h0 _ _ hbox]; rfl
 have hl1:loadA Tryz.prog 108 H (.pointer (some ⟨kb,1,none⟩))=some (.slice oa ts.length c):=by simp [-cellA,hk1']
 have hlive:∀ i,livB ts t w st i=match ts[i]? with
   | some x=>!x.hole && (decide (movV t (offV x.hd) w < (widF ts).1) && decide (movV t (offV x.hd) w ≤ t + st))
   | none=>false:=fun i=>rfl
 obtain ⟨W,hW⟩:∃ W,(widF ts).1=W:=⟨_,rfl⟩
 rw [hW] at hbox hlive
 refine AC.bodyX (Q:=fun _ H' n'=>I ts.length H' n' ∨ D H' n') Tryz.func169 rfl (by kernel_rfl) rfl [0,1,2,3,4,11,12,13] ?_
 refine E.seq (E.reg hr (by simp [-loadA,hl1]; rfl) ?_)
 refine E.block (E.loop ?_)
 refine EL.ind (fun x:Nat × Heap × Nat=>{ fr:=[(0,fnY l),(1,ptA kb),(2,ptA k1),(3,ptA k2),(4,ptA k3),(11,.slice oa ts.length c),(12,iv ts.length),(13,iv x.1)],sz:=50,H:=x.2.1,n:=x.2.2,marks:=[],vs:=[0,1,2,3,4,11,12,13] }) (fun x=>ts.length - x.1) (fun x=>x.1 ≤ ts.length ∧ I x.1 x.2.1 x.2.2) (0,H,n) (.keep rfl rfl rfl (by simp) (Sub.refl _)) ⟨Nat.zero_le _,h0⟩ (fun _=>rfl) ?_
 rintro ⟨i,Hx,N⟩ ⟨hi,hG⟩
 dsimp only at hi hG ⊢
 have hw:IntKind.i64.wrap ((i:Int) + 1)=(i:Int) + 1:=W_in (by omega) (by omega)
 refine E.seq (E.reg hr (by simp; rfl) ?_)
 refine E.seq ?_
 by_cases hil:i < ts.length
 · refine E.cond (t:=true) (by simp [hil]) (fun _=>?_) (fun h=>by cases h)
   obtain ⟨a,q,rfl,hf,hcs,h8,hq⟩:=hrow i hil
   have hdec:=decT_mk h8 hq
   obtain ⟨oq,cq,rfl,hlq,_,hqr⟩:=reaV_form hq
   obtain ⟨a0,a1,a2,a3,a4,a5,a6,a7,hhd⟩:=len8 h8
   have hIs:=hI _ _ _ hG
   have hnx:=hN _ _ _ hG
   have hld:=load159 (hIs.cells hcs)
   have hmem:ts[i] ∈ ts:=List.getElem_mem hil
   have hez:=hok.err _ hmem
   have hhz:=hok.hd _ hmem
   have hob:=(off_bound hhz).2
   have hwid:=hok.wid _ hmem
   have hgood:=hok.good _ hmem
   have hyy:=fun cs b=>hy i Hx N cs b hil hG
   have hsk:=fun cs=>hskip i Hx N cs hil hG
   have hlv:=hlive i
   rw [List.getElem?_eq_getElem hil] at hlv
   dsimp only at hlv
   obtain ⟨T,hT⟩:∃ T,ts[i]=T:=⟨_,rfl⟩
   rw [hT] at hld hdec h8 hhd hez hhz hob hwid hgood hyy hlv hqr hlq
   rw [hW] at hwid
   have hin:MvIn t (offV T.hd) w:=⟨htr.1,htr.2,hob.1,hob.2,hwr.1,hwr.2⟩
   obtain ⟨m,hm⟩:=mov_nat t (offV T.hd) w
   rw [hm] at hlv hyy
   obtain ⟨off,hoff⟩:∃ off,offV T.hd=off:=⟨_,rfl⟩
   rw [hoff] at hin hm
   obtain ⟨X,hX⟩:∃ X,(N,Blk.cells (T.hd.map iv ++ [.bool T.hole,.slice oq T.smp.length cq]) 159) :: Hx=X:=⟨_,rfl⟩
   have hxN:hget Hx N=none:=by
     cases hc:hget Hx N with
     | none=>rfl
     | some b=>exact absurd (namesOk_iff.1 hnx _ (hget_mem _ _ _ hc)) (by simp)
   have hSX:Sub Hx X:=by rw [← hX]; exact Sub.cons hxN (Sub.refl _)
   have hnmX:namesOk (N + 1) X=true:=by rw [← hX]; exact namesOk_put (Nat.lt_succ_self _) (namesOk_mono (Nat.le_succ _) _ hnx)
   have hSB:=hIs.trans hSX
   have hb0:hget X N=some (.cells (T.hd.map iv ++ [.bool T.hole,.slice oq T.smp.length cq]) 159):=by rw [← hX,hget_cons,if_pos rfl]
   have hlen:(T.hd.map iv ++ [Value.bool T.hole,.slice oq T.smp.length cq]).length=10:=by rw [List.length_append,List.length_map,h8]; rfl
   have hcA:cellsA X N 0 10=some (T.hd.map iv ++ [.bool T.hole,.slice oq T.smp.length cq]):=by
     rw [cellsA_eq,hb0]
     simp only [Option.bind_some,cellsB]
     rw [if_pos (by rw [hlen]; omega),List.drop_zero,List.take_of_length_le (by rw [hlen]; omega)]
   have hc8:cellA X N 8=some (.bool T.hole):=by
     rw [cellA_eq,hb0]
     show (T.hd.map iv ++ [Value.bool T.hole,.slice oq T.smp.length cq])[8]? = _
     rw [List.getElem?_append_right (by rw [List.length_map]; omega),List.length_map,h8]
     rfl
   have hc9:cellA X N 9=some (.slice oq T.smp.length cq):=by
     rw [cellA_eq,hb0]
     show (T.hd.map iv ++ [Value.bool T.hole,.slice oq T.smp.length cq])[9]? = _
     rw [List.getElem?_append_right (by rw [List.length_map]; omega),List.length_map,h8]
     rfl
   have ck1:cellA X k1 0=some (iv t):=by rw [cellA_eq,hSB _ _ hk1]; rfl
   have ck2:cellA X k2 0=some (iv w):=by rw [cellA_eq,hSB _ _ hk2]; rfl
   have ck3:cellA X k3 0=some (iv st):=by rw [cellA_eq,hSB _ _ hk3]; rfl
   have ckW:cellA X kb 2=some (iv W):=by rw [cellA_eq,hSB _ _ hbox]; rfl
   have hXlt:∀ k b,hget X k=some b → k < N + 1:=fun k b hk=>namesOk_iff.1 hnmX (k,b) (hget_mem _ _ _ hk)
   have tk1:cellA (tidy (N + 1) X) k1 0=some (iv t):=by
     have:=hSB _ _ hk1
     rw [cellA_eq,hget_tidy.2 ⟨this,hXlt _ _ this,rfl⟩]; rfl
   have tk2:cellA (tidy (N + 1) X) k2 0=some (iv w):=by
     have:=hSB _ _ hk2
     rw [cellA_eq,hget_tidy.2 ⟨this,hXlt _ _ this,rfl⟩]; rfl
   have tkA:=cellsA_tidy (n:=N + 1) hXlt hcA
   have hRX:dR (frzH (tidy (N + 1) X)):=by
     show hget (frzH (tidy (N + 1) X)) 1=_
     have:=hSB _ _ hR
     rw [hget_frz,hget_tidy.2 ⟨this,hXlt _ _ this,rfl⟩]
     rfl
   have h170:∀ j,g170 [.agg ⟨T.hd.map iv ++ [.bool T.hole,.slice oq T.smp.length cq]⟩] (frzH (tidy (N + 1) X)) j=some (iv off,frzH (tidy (N + 1) X),j):=fun j=>by
     have:=decT_tidy _ (N + 1) _ _ hXlt (decT_mono _ _ _ _ hSB hdec)
     rw [← decT_frz] at this
     simp only [g170,this,hRX,hez,hoff,and_self,if_true]
   have h93:∀ Y j,g93 [iv t,iv off,iv w] Y j=some (iv m,Y,j):=fun Y j=>by
     simp only [g93,hin,hm,if_true]
   have hwts:IntKind.i64.wrap (t + st)=t + st:=W_in (by omega) (by omega)
   have hlN:∀ k b,hget B k=some b → k < N + 1:=fun k b hk=>namesOk_iff.1 hnmX (k,b) (hget_mem _ _ _ (hSB _ _ hk))
   have k1N:=hlN _ _ hk1
   have k2N:=hlN _ _ hk2
   have k3N:=hlN _ _ hk3
   have kbN:=hlN _ _ hbox
   refine E.skip (E.seq ?_)
   refine E.block (E.seq ?_)
   rw [hhd] at hX hld
   simp only [List.map_cons,List.map_nil,List.cons_append,List.nil_append] at hX hld
   refine E.reg hr (by simp [-loadA,-flat,hil,hf,hld]; rfl) ?_
   rw [hX]
   refine E.seq (E.seq (E.reg hr (by simp [-cellA,hc8]; rfl) ?_))
   by_cases hho:T.hole=true
   · refine E.cond (t:=true) (by simp [hho]) (fun _=>?_) (fun h=>by cases h)
     refine E.exit ?_
     refine E.reg hr (by simp [hw]; rfl) ?_
     rw [hho,Bool.not_true,Bool.false_and] at hlv
     have:=hsk [iv a0,iv a1,iv a2,iv a3,iv a4,iv a5,iv a6,iv a7,.bool T.hole,.slice oq T.smp.length cq] hlv
     rw [hX] at this
     exact ⟨(i + 1,X,N + 1),.keep rfl rfl rfl (by simp) (Sub.refl _),⟨hil,this⟩,by dsimp only; omega⟩
   have hho:T.hole=false:=by simpa using hho
   refine E.cond (t:=false) (by simp [hho]) (fun h=>by cases h) (fun _=>?_)
   refine E.skip (E.seq ?_)
   refine E.part (fun k b hk=>namesOk_iff.1 hnmX (k,b) (hget_mem _ _ _ hk)) (E.drawU mixed hr [4] [2,4] [0,1,2,4] (by kernel_rfl) (by simp [-cellA,-cellsA,-readA,cellA_read,cellsA_read,k1N,k2N,tk1,tk2,tkA,h170,h93]; exact ⟨rfl,rfl,rfl,rfl,rfl⟩) ⟨rfl,rfl⟩) ?_
   refine E.seq ?_
   rw [hho,Bool.not_false,Bool.true_and] at hlv
   by_cases h1:(m:Int) < W
   case' pos=>
     by_cases h2:(m:Int) ≤ t + st
     case' pos=>
       rw [decide_eq_true h1,decide_eq_true h2] at hlv
       have hmL:m < T.smp.length:=by have:=hwid hho; omega
       obtain ⟨b,hb⟩:∃ b,T.smp[m]=b:=⟨_,rfl⟩
       have hgb:good32 b=true:=by rw [← hb]; exact hgood _ (List.getElem_mem hmL)
       obtain ⟨aq,haq,hfq,hcq⟩:=hqr m hmL
       rw [hb] at hcq
       subst haq
       have hcq':=hSB.cell hcq
       obtain ⟨p,bb,H',N',hp,hyd,hbb⟩:=hyy [iv a0,iv a1,iv a2,iv a3,iv a4,iv a5,iv a6,iv a7,.bool T.hole,.slice (some aq) T.smp.length cq] b hlv hho (by
         rw [Int.toNat_natCast,List.getElem?_eq_getElem hmL,hb])
       rw [hX] at hyd
       obtain ⟨r,_,m2,m3,_⟩:=Gn.six_run (b:=b) (by
         unfold good32 at hgb; simp only [Bool.and_eq_true,decide_eq_true_eq] at hgb; exact hgb.1.1) (by
         unfold good32 at hgb; simp only [Bool.and_eq_true,decide_eq_true_eq] at hgb; exact hgb.1.2)
       refine E.reg hp (by simp [-cellA,-flat,ckW,ck1,ck3,hwts,h1,h2,hc9,hmL,hfq,hcq',opConvert,bin_fmul (k:=.f32) m2,m3,run_vcall_tmp,vcallF,target,hyd]; rfl) ?_
       cases bb with
       | true=>
         refine E.cond (t:=false) (by simp) (fun h=>by cases h) (fun _=>?_)
         refine E.skip (E.reg hr (by simp [hw]; rfl) ?_)
         exact ⟨(i + 1,H',N'),.keep rfl rfl rfl (by simp) (Sub.refl _),⟨hil,hbb⟩,by dsimp only; omega⟩
       | false=>
         refine E.cond (t:=true) (by simp) (fun _=>?_) (fun h=>by cases h)
         refine E.ret ?_
         exact ⟨.inr rfl,_,_,_,by simp [leaveF,shutA,resultsA,Tryz.results169,dropOk]; first | exact ⟨rfl,rfl,rfl⟩ | rfl,.inr hbb⟩
     case' neg=>
       rw [decide_eq_false h2,Bool.and_false] at hlv
       refine E.reg hr (by simp [-cellA,ckW,ck1,ck3,hwts,h1,h2]; rfl) ?_
   case' neg=>
     rw [decide_eq_false h1,Bool.false_and] at hlv
     refine E.reg hr (by simp [-cellA,ckW,h1]; rfl) ?_
   all_goals
     refine E.cond (t:=false) (by simp) (fun h=>by cases h) (fun _=>?_)
     refine E.skip (E.reg hr (by simp [hw]; rfl) ?_)
     have:=hsk [iv a0,iv a1,iv a2,iv a3,iv a4,iv a5,iv a6,iv a7,.bool T.hole,.slice oq T.smp.length cq] hlv
     rw [hX] at this
     exact ⟨(i + 1,X,N + 1),.keep rfl rfl rfl (by simp) (Sub.refl _),⟨hil,this⟩,by dsimp only; omega⟩
 · have hil':i=ts.length:=by omega
   subst hil'
   refine E.cond (t:=false) (by simp) (fun h=>by cases h) (fun _=>?_)
   refine E.exit ?_
   exact ⟨.inl rfl,_,_,_,by simp [leaveF,shutA,resultsA,Tryz.results169,dropOk]; first | exact ⟨rfl,rfl,rfl⟩ | rfl,.inl hG⟩
theorem within_zero {a lo hi:Int} (h:withinV a lo hi=0):lo ≤ a ∧ a ≤ hi:=by
 unfold withinV at h
 split at h
 · cases h
 · omega
theorem livL_live {ts:List Trc} {t w st:Int} {i:Nat} (h:livB ts t w st i=true):livL ts t w st (i + 1)=livL ts t w st i ++ [(i:Int)]:=by
 rw [livL,if_pos h]
theorem livL_dead {ts:List Trc} {t w st:Int} {i:Nat} (h:livB ts t w st i=false):livL ts t w st (i + 1)=livL ts t w st i:=by
 rw [livL,if_neg (by rw [h]; decide)]
end Go.Proofs.YtkongcnmkiihjaaGreatDoor
namespace Go.Ab
section
open Go
theorem shut_all:∀ (ms:List Nat) {H:Heap},ms.Nodup → (∀ m ∈ ms,hget H m=some .defd) → ∃ H2,shutA ms H=some H2 ∧ ∀ k,k ∉ ms → hget H2 k=hget H k
 | [],H,_,_=>⟨H,rfl,fun _ _=>rfl⟩
 | m :: ms,H,hn,hm=>by
   obtain ⟨h1,h2⟩:=List.nodup_cons.1 hn
   obtain ⟨H2,e1,e2⟩:=shut_all ms (H:=hdel H m) h2 fun k hk=>by
     rw [hget_hdel,if_neg (show ¬ k=m from fun e=>h1 (by rw [← e]; exact hk))]
     exact hm k (List.mem_cons_of_mem _ hk)
   refine ⟨H2,?_,fun k hk=>?_⟩
   · unfold shutA
     rw [hm m (List.mem_cons_self ..)]
     exact e1
   · rw [e2 k fun h=>hk (List.mem_cons_of_mem _ h),hget_hdel,if_neg (show ¬ k=m from fun e=>hk (by rw [e]; exact List.mem_cons_self ..))]
def sumI {α:Type} (f:α → Int):List α → Int
 | []=>0
 | x :: l=>f x + sumI f l
theorem sumI_snoc {α:Type} {f:α → Int} {x:α}:∀ l:List α,sumI f (l ++ [x])=sumI f l + f x
 | []=>by simp [sumI]
 | y :: l=>by
   rw [List.cons_append,sumI,sumI,sumI_snoc l]
   omega
theorem sumI_abs {α:Type} {f:α → Int} {M:Nat}:∀ (l:List α),(∀ x ∈ l,(f x).natAbs ≤ M) → (sumI f l).natAbs ≤ M * l.length
 | [],_=>Nat.le_refl _
 | y :: l,h=>by
   have h1:=h y (List.mem_cons_self ..)
   have h2:=sumI_abs l fun x hx=>h x (List.mem_cons_of_mem _ hx)
   rw [sumI,List.length_cons,Nat.mul_succ]
   omega
theorem sumI_nonneg {α:Type} {f:α → Int}:∀ (l:List α),(∀ x ∈ l,0 ≤ f x) → 0 ≤ sumI f l
 | [],_=>Int.le_refl _
 | y :: l,h=>by
   have h1:=h y (List.mem_cons_self ..)
   have h2:=sumI_nonneg l fun x hx=>h x (List.mem_cons_of_mem _ hx)
   rw [sumI]
   omega
theorem sq_abs {x:Int} {M:Nat} (h:x.natAbs ≤ M):0 ≤ x * x ∧ x * x ≤ (M * M:Nat):=by
 have h1:x * x=((x.natAbs * x.natAbs:Nat):Int):=by
   rw [Int.natCast_mul]
   exact (Int.natAbs_mul_self' x).symm
 have h2:x.natAbs * x.natAbs ≤ M * M:=Nat.mul_le_mul h h
 rw [h1]
 exact ⟨Int.natCast_nonneg _,by exact_mod_cast h2⟩
end
section
open Go Ieee
def smp (b:Nat) (n:Int):Prop:=fin32 b=true ∧ 16 * val32 b=n * UV
theorem abs16 {x y:Int} {u:Nat} (e:16 * x=y * u):16 * x.natAbs=y.natAbs * u:=by
 have h:=congrArg Int.natAbs e
 rw [Int.natAbs_mul,Int.natAbs_mul,Int.natAbs_natCast] at h
 exact h
theorem UVZ:(0:Int) < (UV:Int):=by exact_mod_cast UV_pos
theorem smp_ord {a b:Nat} {m n:Int} (ha:smp a m) (hb:smp b n):single.order a b=some (compare m n):=by
 rw [ord32 ha.1 hb.1,← compare_mul (a:=m) (c:=UV) UVZ,← ha.2,← hb.2,Int.mul_comm 16,Int.mul_comm 16,compare_mul (by decide)]
theorem smp_zero:smp 0 0:=by
 obtain ⟨h1,h2⟩:=fin0
 exact ⟨h1,by rw [h2]; simp⟩
theorem smp_told {n:Int} (hn:n.natAbs < 2 ^ 24):∃ r,single.div (FloatKind.f32.nearest n) 1098907648=some r ∧ smp r n:=by
 obtain ⟨r,h1,h2,h3⟩:=div16 hn
 exact ⟨r,h1,h2,h3⟩
theorem smp_abs {b:Nat} {n:Int} (h:smp b n) (hn:n.natAbs ≤ 16384):(val32 b).natAbs ≤ 2 ^ 10 * UV:=by
 have e2:=abs16 h.2
 have:n.natAbs * UV ≤ 16384 * UV:=Nat.mul_le_mul_right _ hn
 generalize UV=u at e2 this ⊢
 omega
theorem smp_good {b:Nat} {n:Int} (h:smp b n) (hn:n.natAbs ≤ 16384):good32 b=true ∧ six32 b=n:=by
 refine ⟨?_,?_⟩
 · unfold good32
   have hd:UV ∣ (16 * val32 b).natAbs:=by
     rw [Int.natAbs_mul,show (16:Int).natAbs=16 from rfl,abs16 h.2]
     exact Nat.dvd_mul_left _ _
   rw [h.1,decide_eq_true (smp_abs h hn),decide_eq_true hd]
   rfl
 · unfold six32
   rw [h.2,Int.mul_tdiv_cancel _ (Int.ne_of_gt UVZ)]
end
end Go.Ab
namespace Go.Proofs.YtkongcnmkiihjaaGreatDoor
open Go Go.Ab Go.Proofs
theorem names_sx (l c:Nat):Names1 fun m=>.slice (some ⟨m,0,some 0⟩) l c:=⟨fun φ ψ m n h1 h2=>by simp [den,h1,h2],fun p n h=>by simp [sc,h]⟩
theorem names_fl (l c:Nat):Names1 fun m=>.slice (some ⟨m,0,none⟩) l c:=⟨fun φ ψ m n h1 h2=>by simp [den,h1],fun p n h=>by simp [sc,h]⟩
def intQ (k:Nat) (l:List Int) (u:Value) (H:Heap):Prop:=∃ m,u = .slice (some ⟨m,0,some 0⟩) l.length 0 ∧ hget H m=some (.ext (l.map iv) 3 1) ∧ k ≤ m
theorem w34 (sh:List Int) (o c:Nat) (hne:sh ≠ []) (hl:sh.length ≤ 4096):∃ u H1 n1 H2,AC Tryz.prog 34 [.slice (some ⟨9,o,none⟩) sh.length c] [(9,.inp o (sh.map iv))] 10 u H1 n1 ∧ intQ 10 sh u H2 ∧ (af u=false → H1=H2):=by
 have hr:=recT_ok (P:=Tryz.prog) (l:=[]) (by simp)
 have hpos:0 < sh.length:=List.length_pos_iff.2 hne
 have ht:List.take sh.length (sh.map iv)=sh.map iv:=List.take_of_length_le (by simp)
 have hsm:sh.length * 8 ≤ 1099511627776 ∧ sh.length ≤ 1099511627776:=by omega
 have hn0:¬ sh.length=0:=by omega
 refine AC.out Tryz.func34 rfl (by kernel_rfl) rfl [] ?_
 refine E.seq (E.reg hr (by simp; rfl) ?_)
 refine E.seq (E.reg hr (by simp [ht,hsm,hne]; rfl) ?_)
 refine E.ret ?_
 refine outK.ret rfl rfl ?_
 exact ⟨11,by simp,by simp,by omega⟩
def emQ (k:Nat) (u:Value) (H:Heap):Prop:=∃ m,u = .slice (some ⟨m,0,none⟩) 0 0 ∧ hget H m=some (.cells [] 3) ∧ k ≤ m
theorem w34e (o c:Nat):∃ u H1 n1 H2,AC Tryz.prog 34 [.slice (some ⟨9,o,none⟩) 0 c] [(9,.inp o [])] 10 u H1 n1 ∧ emQ 10 u H2 ∧ (af u=false → H1=H2):=by
 have hr:=recT_ok (P:=Tryz.prog) (l:=[]) (by simp)
 refine AC.out Tryz.func34 rfl (by kernel_rfl) rfl [] ?_
 refine E.seq (E.reg hr (by simp; rfl) ?_)
 refine E.seq (E.reg hr (by simp; rfl) ?_)
 refine E.ret ?_
 refine outK.ret rfl rfl ?_
 exact ⟨10,by simp,by simp,by omega⟩
theorem w34n:∃ u H1 n1 H2,AC Tryz.prog 34 [.slice none 0 0] [] 9 u H1 n1 ∧ emQ 9 u H2 ∧ (af u=false → H1=H2):=by
 have hr:=recT_ok (P:=Tryz.prog) (l:=[]) (by simp)
 refine AC.out Tryz.func34 rfl (by kernel_rfl) rfl [] ?_
 refine E.seq (E.reg hr (by simp; rfl) ?_)
 refine E.seq (E.reg hr (by simp; rfl) ?_)
 refine E.ret ?_
 refine outK.ret rfl rfl ?_
 exact ⟨9,by simp,by simp,by omega⟩
def g34 (args:List Value) (H:Heap) (n:Nat):R:=match args with
 | [t]=>match intsW H t with
   | some sh=>if sh=[] then some (.slice (some ⟨n,0,none⟩) 0 0,(n,.cells [] 3) :: H,n + 1) else if sh.length ≤ 4096 then some (.slice (some ⟨n,0,some 0⟩) sh.length 0,(n,.ext (sh.map iv) 3 1) :: H,n + 1) else none
   | none=>none
 | _=>none
theorem ok34:EntOk Tryz.prog (34,g34):=by
 intro args H n v H' n' h'
 simp only [g34] at h'
 split at h'
 · split at h'
   · rename_i sh ht
     split at h'
     · rename_i he
       subst he
       injection h' with h'; injection h' with e1 e2; injection e2 with e2 e3; subst e1 e2 e3
       unfold intsW at ht
       split at ht
       · refine AC.liftF (names_fl 0 0) (.inl ⟨_,_,rfl,rfl⟩) (Part.plain (by simp) [] (by simp [Seen]) gsz ?_)
         obtain ⟨u,H1,n1,H2,hAC,⟨m,hu,hm,hle⟩,hh⟩:=w34n
         subst hu
         have:=hh (by simp)
         subst this
         exact ⟨m,_,_,hle,hm,hAC⟩
       · obtain ⟨hf,hc,hlen,_⟩:=intsAt_ok ht
         subst hlen
         refine AC.liftF (names_fl 0 0) (.inl ⟨_,_,rfl,rfl⟩) (Part.one (fun x=>[x]) (by intro φ φ0 s s0 h; simp [denL,h]) (by intro p s h; exact ⟨h,trivial⟩) hf hc (afL_iv []) [] (by simp [Seen]) gsz fun c=>?_)
         obtain ⟨u,H1,n1,H2,hAC,⟨m,hu,hm,hle⟩,hh⟩:=w34e _ c
         subst hu
         have:=hh (by simp)
         subst this
         exact ⟨m,_,_,hle,hm,hAC⟩
       · cases ht
     · rename_i hne
       split at h'
       · rename_i hl
         injection h' with h'; injection h' with e1 e2; injection e2 with e2 e3; subst e1 e2 e3
         unfold intsW at ht
         split at ht
         · injection ht with ht; exact absurd ht.symm hne
         · obtain ⟨hf,hc,hlen,_⟩:=intsAt_ok ht
           subst hlen
           refine AC.liftF (names_sx _ _) (.inr ⟨_,_,_,rfl,afL_iv _⟩) (Part.one (fun x=>[x]) (by intro φ φ0 s s0 h; simp [denL,h]) (by intro p s h; exact ⟨h,trivial⟩) hf hc (afL_iv sh) [] (by simp [Seen]) gsz fun c=>?_)
           obtain ⟨u,H1,n1,H2,hAC,⟨m,hu,hm,hle⟩,hh⟩:=w34 sh _ c hne hl
           subst hu
           have:=hh (by simp)
           subst this
           exact ⟨m,_,_,hle,hm,hAC⟩
         · cases ht
       · cases h'
   · cases h'
 · cases h'
abbrev setA (sl:Value) (w s e:Int):Value:=.agg ⟨[sl,iv w,iv s,iv e]⟩
theorem names_set (l c:Nat) (w s e:Int) (sp:Option Nat):Names1 fun m=>setA (.slice (some ⟨m,0,sp⟩) l c) w s e:=⟨fun φ ψ m n h1 h2=>by cases sp <;> simp [den,denL,h1,h2],fun p n h=>by simp [sc,scL,h]⟩
def setQ (k:Nat) (l:List Int) (w s e:Int) (u:Value) (H:Heap):Prop:=∃ m,u=setA (.slice (some ⟨m,0,some 0⟩) l.length 0) w s e ∧ hget H m=some (.ext (l.map iv) 3 1) ∧ k ≤ m
def setE0 (k:Nat) (w s e:Int) (u:Value) (H:Heap):Prop:=∃ m,u=setA (.slice (some ⟨m,0,none⟩) 0 0) w s e ∧ hget H m=some (.cells [] 3) ∧ k ≤ m
theorem build34 {fr : Fr} {H : Heap} {n : Nat} {x y z u : Operand} {a : Option Addr} {k c : Nat} {w s e : Int} (hx : evO Tryz.prog fr x = some (.slice a k c)) (hy : evO Tryz.prog fr y = some (iv w)) (hz : evO Tryz.prog fr z = some (iv s)) (hu : evO Tryz.prog fr u = some (iv e)) :
   opBuild Tryz.prog 34 #[(0,x),(1,y),(2,z),(3,u)] fr H n=some (setA (.slice a k c) w s e,H,n):=by
 unfold opBuild
 simp only [evPs_cons,evPs_nil,hx,hy,hz,hu]
 kernel_rfl
theorem intsOf_iv:∀ l:List Int,intsOf (l.map iv)=some l
 | []=>rfl
 | a :: l=>by simp [intsOf,intsOf_iv l]
set_option maxRecDepth 10000 in
theorem w21 (l:List Int) (o c:Nat) (w s e:Int) (hne:l ≠ []) (hl:l.length ≤ 4096):∃ u H1 n1 H2,AC Tryz.prog 21 [setA (.slice (some ⟨9,o,none⟩) l.length c) w s e] [(9,.inp o (l.map iv))] 10 u H1 n1 ∧ setQ 10 l w s e u H2 ∧ (af u=false → H1=H2):=by
 have hr:=recT_ok (P:=Tryz.prog) (l:=[(34,g34)]) (by simp [ok34])
 refine AC.out Tryz.func21 rfl (by kernel_rfl) rfl [] ?_
 have ht:List.take l.length (l.map iv)=l.map iv:=List.take_of_length_le (by simp)
 refine E.seq (E.reg hr (by simp; rfl) ?_)
 refine E.seq (E.drawC mixed hr [10] [2,10] [1,2,10] (by kernel_rfl) (by simp [build34 (a:=some ⟨12,0,some 0⟩) (k:=l.length) (c:=0) (w:=w) (s:=s) (e:=e),g34,intsW,intsAt,ht,intsOf_iv,hne,hl,show l.length < 2147483648 by omega]; rfl) ?_)
 refine E.ret ?_
 refine ⟨.inr rfl,rfl,[setA (.slice (some ⟨12,0,some 0⟩) l.length 0) w s e],?_,12,rfl,by simp,by omega⟩
 simp [resultsA,resultA,Tryz.f21,loadA]
set_option maxRecDepth 10000 in
theorem w21e (o c:Nat) (w s e:Int):∃ u H1 n1 H2,AC Tryz.prog 21 [setA (.slice (some ⟨9,o,none⟩) 0 c) w s e] [(9,.inp o [])] 10 u H1 n1 ∧ setE0 10 w s e u H2 ∧ (af u=false → H1=H2):=by
 have hr:=recT_ok (P:=Tryz.prog) (l:=[(34,g34)]) (by simp [ok34])
 refine AC.out Tryz.func21 rfl (by kernel_rfl) rfl [] ?_
 refine E.seq (E.reg hr (by simp; rfl) ?_)
 refine E.seq (E.drawC mixed hr [10] [2,10] [1,2,10] (by kernel_rfl) (by simp [build34 (a:=some ⟨12,0,none⟩) (k:=0) (c:=0) (w:=w) (s:=s) (e:=e),g34,intsW,intsAt,intsOf]; rfl) ?_)
 refine E.ret ?_
 refine ⟨.inr rfl,rfl,[setA (.slice (some ⟨12,0,none⟩) 0 0) w s e],?_,12,rfl,by simp,by omega⟩
 simp [resultsA,resultA,Tryz.f21,loadA]
set_option maxRecDepth 10000 in
theorem w21n (w s e:Int):∃ u H1 n1 H2,AC Tryz.prog 21 [setA (.slice none 0 0) w s e] [] 9 u H1 n1 ∧ setE0 9 w s e u H2 ∧ (af u=false → H1=H2):=by
 have hr:=recT_ok (P:=Tryz.prog) (l:=[(34,g34)]) (by simp [ok34])
 refine AC.out Tryz.func21 rfl (by kernel_rfl) rfl [] ?_
 refine E.seq (E.reg hr (by simp; rfl) ?_)
 refine E.seq (E.drawC mixed hr [10] [2,10] [1,2,10] (by kernel_rfl) (by simp [build34 (a:=some ⟨11,0,none⟩) (k:=0) (c:=0) (w:=w) (s:=s) (e:=e),g34,intsW]; rfl) ?_)
 refine E.ret ?_
 refine ⟨.inr rfl,rfl,[setA (.slice (some ⟨11,0,none⟩) 0 0) w s e],?_,11,rfl,by simp,by omega⟩
 simp [resultsA,resultA,Tryz.f21,loadA]
def g21 (args:List Value) (H:Heap) (n:Nat):R:=match args with
 | [.agg ⟨[t,.int .i64 w,.int .i64 s,.int .i64 e]⟩]=>match intsW H t with
   | some l=>if l=[] then some (setA (.slice (some ⟨n,0,none⟩) 0 0) w s e,(n,.cells [] 3) :: H,n + 1) else if l.length ≤ 4096 then some (setA (.slice (some ⟨n,0,some 0⟩) l.length 0) w s e,(n,.ext (l.map iv) 3 1) :: H,n + 1) else none
   | none=>none
 | _=>none
theorem set_den {w s e:Int}:∀ (φ φ0:Vl) (a a0:Value),den φ0 a0=den φ a → denL φ0 [setA a0 w s e]=denL φ [setA a w s e]:=fun φ φ0 a a0 h=>by simp [denL,den,h]
theorem set_sc {w s e:Int}:∀ (p:Nat → Prop) (a:Value),sc p a → scL p [setA a w s e]:=fun _ _ h=>⟨⟨h,trivial,trivial,trivial,trivial⟩,trivial⟩
theorem ok21:EntOk Tryz.prog (21,g21):=by
 intro args H n v H' n' h'
 simp only [g21] at h'
 split at h'
 · rename_i t w s e
   split at h'
   · rename_i sh ht
     split at h'
     · rename_i he
       subst he
       injection h' with h'; injection h' with e1 e2; injection e2 with e2 e3; subst e1 e2 e3
       unfold intsW at ht
       split at ht
       · refine AC.liftF (names_set 0 0 w s e none) (.inl ⟨_,_,rfl,rfl⟩) (Part.plain (by simp) [] (by simp [Seen]) gsz ?_)
         obtain ⟨u,H1,n1,H2,hAC,⟨m,hu,hm,hle⟩,hh⟩:=w21n w s e
         subst hu
         have:=hh (by simp)
         subst this
         exact ⟨m,_,_,hle,hm,hAC⟩
       · obtain ⟨hf,hc,hlen,_⟩:=intsAt_ok ht
         subst hlen
         refine AC.liftF (names_set 0 0 w s e none) (.inl ⟨_,_,rfl,rfl⟩) (Part.one (fun x=>[setA x w s e]) set_den set_sc hf hc (afL_iv []) [] (by simp [Seen]) gsz fun c=>?_)
         obtain ⟨u,H1,n1,H2,hAC,⟨m,hu,hm,hle⟩,hh⟩:=w21e _ c w s e
         subst hu
         have:=hh (by simp)
         subst this
         exact ⟨m,_,_,hle,hm,hAC⟩
       · cases ht
     · rename_i hne
       split at h'
       · rename_i hl
         injection h' with h'; injection h' with e1 e2; injection e2 with e2 e3; subst e1 e2 e3
         unfold intsW at ht
         split at ht
         · injection ht with ht; exact absurd ht.symm hne
         · obtain ⟨hf,hc,hlen,_⟩:=intsAt_ok ht
           subst hlen
           refine AC.liftF (names_set _ _ w s e (some 0)) (.inr ⟨_,_,_,rfl,afL_iv _⟩) (Part.one (fun x=>[setA x w s e]) set_den set_sc hf hc (afL_iv sh) [] (by simp [Seen]) gsz fun c=>?_)
           obtain ⟨u,H1,n1,H2,hAC,⟨m,hu,hm,hle⟩,hh⟩:=w21 sh _ c w s e hne hl
           subst hu
           have:=hh (by simp)
           subst this
           exact ⟨m,_,_,hle,hm,hAC⟩
         · cases ht
       · cases h'
   · cases h'
 · cases h'
def headE (n:Nat):Int:=firstV [whenV (decide (n=0)) 12,whenV (decide (16 < n)) 5]
def stepE (last v:Int):Int:=firstV [velV v,whenV (decide (v ≤ last)) 11]
def fanE:Int → List Int → Int
 | _,[]=>0
 | last,v :: l=>if stepE last v=0 then fanE v l else stepE last v
def tailE (w s e:Int):Int:=firstV [withinV w 0 16,withinV s 0 1024,withinV e 1 1024]
def setE (l:List Int) (w s e:Int):Int:=if headE l.length=0 then (if fanE 0 l=0 then tailE w s e else fanE 0 l) else headE l.length
theorem headE_int (k:Nat):firstV [whenV (decide (k=0)) 12,whenV (decide ((16:Int) < (k:Int))) 5]=headE k:=by
 have:decide ((16:Int) < (k:Int))=decide (16 < k):=by rw [decide_eq_decide]; omega
 rw [this]; rfl
theorem max33 (a b:Int) (c:Array Bool):runP Tryz.prog (builtin .max #[3,3] 3 c #[iv a,iv b])=some (.value (iv (max a b))):=by
 have h:runP Tryz.prog (builtin .max #[3,3] 3 c #[iv a,iv b])=some (.value (.int .i64 (if b > a then b else a))):=rfl
 rw [h]
 congr 3
 split <;> omega
theorem stepE_zero (v:Int):firstV [velV v,whenV false 11]=stepE 0 v:=by
 unfold stepE
 by_cases h:v ≤ 0
 · have:velV v=3:=by unfold velV withinV; rw [if_pos (by omega)]
   simp [firstV,this]
 · simp [h]
def lastV (l:List Int):Nat → Int
 | 0=>0
 | j + 1=>l.getD j 0
theorem w22n (w s e:Int):AC Tryz.prog 22 [setA (.slice none 0 0) w s e] [] 9 (iv 12) [] 9:=by
 have hr:=recT_ok (P:=Tryz.prog) (l:=[(99,g99),(94,g94)]) (by simp [ok99,ok94])
 refine AC.pure Tryz.func22 rfl (by kernel_rfl) rfl [1,4] rfl ?_
 refine E.seq (E.reg hr (by simp; rfl) ?_)
 refine E.seq (E.seq ?_)
 refine E.drawC mixed hr [9,10,11] [4,9,10,11] [1,4,9,10,11] (by kernel_rfl) (by simp [g99,g94,intsAt,intsOf,whenV,firstV]; rfl) ?_
 refine E.seq (E.reg hr (by simp; rfl) ?_)
 refine E.cond (by rfl) (fun h=>?_) (fun h=>?_)
 · refine E.seq ?_
   refine E.reg hr (by simp; rfl) ?_
   refine E.ret ?_
   exact pureK.ret rfl rfl (by simp) (by repeat first | exact sub_refl _ | refine sub_cons rfl ?_)
 · simp at h
theorem w22 (l:List Int) (k:Nat) (hk:l.length=k) (o c:Nat) (w s e:Int) (hl:k < 2 ^ 31):AC Tryz.prog 22 [setA (.slice (some ⟨9,o,none⟩) k c) w s e] [(9,.inp o (l.map iv))] 10 (iv (setE l w s e)) [(9,.inp o (l.map iv))] 10:=by
 have hr:=recT_ok (P:=Tryz.prog) (l:=[(99,g99),(94,g94),(64,g64),(37,g37),(65,g65),(66,g66)]) (by simp [ok99,ok94,ok64,ok37,ok65,ok66])
 refine AC.pure Tryz.func22 rfl (by kernel_rfl) rfl [1,4] rfl ?_
 refine E.seq (E.reg hr (by simp; rfl) ?_)
 refine E.seq (E.seq ?_)
 have hE:=headE_int k
 refine E.drawC mixed hr [9,10,11] [4,9,10,11] [1,4,9,10,11] (by kernel_rfl) (by simp [g99,g94,intsAt,intsOf,hE]; rfl) ?_
 refine E.seq (E.reg hr (by simp; rfl) ?_)
 refine E.cond (by rfl) (fun h=>?_) (fun h=>?_)
 · simp at h
   refine E.seq (E.reg hr (by simp; rfl) ?_)
   refine E.ret ?_
   exact pureK.ret rfl rfl (by simp [setE,hk,h]) (by repeat first | exact sub_refl _ | refine sub_cons rfl ?_)
 · simp at h
   have h0:=h
   refine E.skip (E.seq ?_)
   refine E.seq (E.reg hr (by simp; rfl) ?_)
   refine E.block (E.loop ?_)
   refine EL.ind (fun i:Nat=>{ fr:=[(1,.pointer (some ⟨10,0,none⟩)),(4,iv i)],sz:=68,H:=[(10,.cells [.slice (some ⟨9,o,none⟩) k c,iv w,iv s,iv e] 26),(9,.inp o (l.map iv))],n:=11,marks:=[],vs:=[1,4] }) (fun i=>k - i) (fun i=>i ≤ k ∧ fanE (lastV l i) (l.drop i)=fanE 0 l) 0 (Leads.ren [10] rfl rfl rfl ⟨rfl,rfl⟩ (by simp) (by simp)) ⟨Nat.zero_le _,rfl⟩ (fun _=>rfl) ?_
   intro i ⟨hi,hg⟩
   have hw:IntKind.i64.wrap ((i:Int) + 1)=(i:Int) + 1:=W_in (by omega) (by omega)
   refine E.seq (E.seq (E.reg hr (by simp; rfl) ?_))
   refine E.cond (by rfl) (fun h=>?_) (fun h=>?_)
   · simp at h
     have hil:i < l.length:=by omega
     rw [List.drop_eq_getElem_cons hil,fanE] at hg
     have hnext:fanE l[i] (l.drop (i + 1))=fanE (lastV l (i + 1)) (l.drop (i + 1)):=by
       simp [lastV,List.getD_eq_getElem?_getD,List.getElem?_eq_getElem hil]
     refine E.skip (E.seq ?_)
     refine E.block (E.seq ?_)
     cases i with
     | zero=>
       have hS:firstV [velV l[0],whenV false 11]=stepE (lastV l 0) l[0]:=stepE_zero _
       refine E.drawC mixed hr [5,23,24,25] [5,23,24,25] [1,4,5,10,15,17,20,23,24,25] (by kernel_rfl) (by simp [g64,g99,g94,intsAt,intsOf,h,hil,yieldedA,hS]; rfl) ?_
       refine E.seq (E.reg hr (by simp; rfl) ?_)
       refine E.cond (by rfl) (fun h1=>?_) (fun h1=>?_)
       · simp at h1
         refine E.seq (E.reg hr (by simp; rfl) ?_)
         refine E.ret ?_
         rw [if_neg h1] at hg
         exact pureK.ret rfl rfl (by simp [setE,hk,h0,← hg,h1]) (by repeat first | exact sub_refl _ | refine sub_cons rfl ?_)
       · simp at h1
         refine E.skip (E.reg hr (by simp [show IntKind.i64.wrap 1=1 from W_in (by omega) (by omega)]; rfl) ?_)
         rw [if_pos h1] at hg
         exact ⟨1,Leads.ren [10] rfl rfl rfl ⟨rfl,rfl⟩ (by simp) (by simp),⟨h,hnext ▸ hg⟩,by dsimp only; omega⟩
     | succ j=>
       have hj:j < k:=by omega
       have hjl:j < l.length:=by omega
       have hwj:IntKind.i64.wrap (j:Int)=(j:Int):=W_in (by omega) (by omega)
       have hm:max (0:Int) (j:Int)=(j:Int):=by omega
       have hlast:lastV l (j + 1)=l[j]:=by simp [lastV,List.getD_eq_getElem?_getD,List.getElem?_eq_getElem hjl]
       have hS:firstV [velV l[j + 1],whenV (decide (l[j + 1] ≤ l[j])) 11]=stepE (lastV l (j + 1)) l[j + 1]:=by rw [hlast]; rfl
       have hp:(0:Int) < (j:Int) + 1:=by omega
       have hjk:(j:Int) + 1 < (k:Int):=by omega
       have hw2:IntKind.i64.wrap ((j:Int) + 1 + 1)=(j:Int) + 1 + 1:=W_in (by omega) (by omega)
       refine E.drawC mixed hr [5,23,24,25] [5,23,24,25] [1,4,5,10,15,17,20,23,24,25] (by kernel_rfl) (by simp [g64,g99,g94,intsAt,intsOf,h,hjk,hil,hj,hjl,hwj,max33,hm,hp,yieldedA,hS]; rfl) ?_
       refine E.seq (E.reg hr (by simp; rfl) ?_)
       refine E.cond (by rfl) (fun h1=>?_) (fun h1=>?_)
       · simp at h1
         refine E.seq (E.reg hr (by simp; rfl) ?_)
         refine E.ret ?_
         rw [if_neg h1] at hg
         exact pureK.ret rfl rfl (by simp [setE,hk,h0,← hg,h1]) (by repeat first | exact sub_refl _ | refine sub_cons rfl ?_)
       · simp at h1
         refine E.skip (E.reg hr (by simp [hw2]; rfl) ?_)
         rw [if_pos h1] at hg
         exact ⟨j + 1 + 1,Leads.ren [10] rfl rfl rfl ⟨rfl,rfl⟩ (by simp) (by simp),⟨h,hnext ▸ hg⟩,by dsimp only; omega⟩
   · simp at h
     refine E.exit ?_
     refine E.seq ?_
     have hT:firstV [withinV w 0 16,withinV s 0 1024,withinV e 1 1024]=tailE w s e:=rfl
     refine E.drawC mixed hr [8,9,10] [2,5,8,9,10] [1,2,5,8,9,10] (by kernel_rfl) (by simp [g66,g65,g37,g94,intsAt,intsOf,hT]; rfl) ?_
     refine E.ret ?_
     rw [List.drop_eq_nil_of_le (by omega),fanE] at hg
     exact pureK.ret rfl rfl (by simp [setE,hk,h0,← hg]) (by repeat first | exact sub_refl _ | refine sub_cons rfl ?_)
def g22 (args:List Value) (H:Heap) (n:Nat):R:=match args with
 | [.agg ⟨[t,.int .i64 w,.int .i64 s,.int .i64 e]⟩]=>(intsW H t).map fun l=>(iv (setE l w s e),H,n)
 | _=>none
theorem ok22:EntOk Tryz.prog (22,g22):=by
 intro args H n v H' n' h
 simp only [g22] at h
 split at h
 · rw [Option.map_eq_some_iff] at h
   obtain ⟨l,h1,h⟩:=h
   injection h with e1 e2; injection e2 with e2 e3; subst e1 e2 e3
   unfold intsW at h1
   split at h1
   · injection h1 with h1; subst h1
     exact AC.liftP rfl (Part.plain (by simp) [] (by simp [Seen]) gsz ⟨_,_,w22n _ _ _⟩)
   · obtain ⟨hf,hc,hlen,hlt⟩:=intsAt_ok h1
     exact AC.liftP rfl (Part.one (fun x=>[setA x _ _ _]) set_den set_sc hf hc (afL_iv l) [] (by simp [Seen]) gsz fun c=>⟨_,_,w22 l _ hlen _ c _ _ _ (hlen ▸ hlt)⟩)
   · cases h1
 · cases h
attribute [simp] Tryz.t160 Tryz.t96
structure Pk where
 t:Int
 q:Int
 e:Int
abbrev Pk.cells (p:Pk):List Value:=[iv p.t,iv p.q,iv p.e]
def pcs (l:List Pk):List Value:=l.flatMap Pk.cells
def pksOf:List Value → Option (List Pk)
 | []=>some []
 | .int .i64 t :: .int .i64 q :: .int .i64 e :: vs=>(pksOf vs).map (⟨t,q,e⟩ :: ·)
 | _=>none
theorem pksOf_ok (cs:List Value):∀ l,pksOf cs=some l → cs=pcs l:=by
 fun_induction pksOf cs with
 | case1=>intro l h; injection h with h; subst h; rfl
 | case2 t q e vs ih=>
   intro l h
   rw [Option.map_eq_some_iff] at h
   obtain ⟨l',h1,h2⟩:=h
   subst h2
   rw [ih _ h1]
   simp [pcs]
 | case3=>intro l h; cases h
theorem pksOf_pcs (l:List Pk):pksOf (pcs l)=some l:=by
 induction l with
 | nil=>rfl
 | cons g l ih=>
   show pksOf (g.cells ++ pcs l)=_
   simp only [Pk.cells,List.cons_append,List.nil_append,pksOf,ih]
   rfl
@[simp] theorem pcs_length (l:List Pk):(pcs l).length=l.length * 3:=by
 induction l with
 | nil=>rfl
 | cons g l ih=>
   show (g.cells ++ pcs l).length=_
   rw [List.length_append,ih]
   simp
   omega
theorem afL_pcs (l:List Pk):afL (pcs l)=true:=by
 induction l with
 | nil=>rfl
 | cons g l ih=>
   show afL (g.cells ++ pcs l)=true
   simp [Pk.cells,afL,ih]
@[simp] theorem renL_pcs (ρ:Nat → Nat) (l:List Pk):renL ρ (pcs l)=pcs l:=by
 rw [renL_eq]
 induction l with
 | nil=>rfl
 | cons g l ih=>
   show (g.cells ++ pcs l).map (ren ρ)=g.cells ++ pcs l
   rw [List.map_append,ih]
   rfl
@[simp] theorem scL_pcs (p:Nat → Prop) (l:List Pk):scL p (pcs l):=scL_af p _ (afL_pcs l)
theorem pcs_drop (l:List Pk):∀ i,(pcs l).drop (i * 3)=pcs (l.drop i):=by
 induction l with
 | nil=>intro i; simp [pcs]
 | cons g l ih=>
   intro i
   cases i with
   | zero=>simp
   | succ i=>
     rw [List.drop_succ_cons,← ih i,show (i + 1) * 3=i * 3 + 3 by omega]
     show (g.cells ++ pcs l).drop (i * 3 + 3)=_
     rw [show i * 3 + 3=g.cells.length + i * 3 by simp; omega,List.drop_append]
     simp
theorem pcs_at {l:List Pk} {i:Nat} (h:i < l.length):(pcs l).drop (i * 3)=l[i].cells ++ pcs (l.drop (i + 1)):=by
 rw [pcs_drop,List.drop_eq_getElem_cons h]
 rfl
theorem pcs_take {l:List Pk} {i:Nat} (h:i < l.length):((pcs l).drop (i * 3)).take 3=l[i].cells:=by
 rw [pcs_at h,List.take_append_of_le_length (by simp)]
 rfl
def pksAt (H:Heap) (a:Addr) (len:Nat):Option (List Pk):=if flat a && Nat.blt len 9223372036854775808 then (cellsA H a.block a.off (len * 3)).bind pksOf else none
theorem pksAt_ok {H:Heap} {a:Addr} {len:Nat} {l:List Pk} (h:pksAt H a len=some l):flat a=true ∧ cellsA H a.block a.off (len * 3)=some (pcs l) ∧ l.length=len ∧ l.length < 2 ^ 63:=by
 unfold pksAt at h
 split at h
 · rename_i hf
   rw [Bool.and_eq_true] at hf
   rw [Option.bind_eq_some_iff] at h
   obtain ⟨cs,h1,h2⟩:=h
   have h3:=pksOf_ok _ _ h2
   subst h3
   have h4:=(cellsA_at h1).1
   rw [pcs_length] at h4
   exact ⟨hf.1,h1,by omega,by have:=(blt_iff _ _).1 hf.2; omega⟩
 · cases h
theorem pcs_succ {l:List Pk} {i:Nat} (h:i < l.length):pcs (l.take (i + 1))=pcs (l.take i) ++ l[i].cells:=by
 rw [List.take_succ_eq_append_getElem h]
 simp only [pcs,List.flatMap_append,List.flatMap_cons,List.flatMap_nil,List.append_nil]
def pksR (H:Heap):Value → Option (List Pk)
 | .slice none 0 0=>some []
 | .slice (some a) len _=>pksAt H a len
 | _=>none
end Go.Proofs.YtkongcnmkiihjaaGreatDoor
namespace Go.Ab
open Go
end Go.Ab
namespace Go.Proofs.YtkongcnmkiihjaaGreatDoor
open Go Go.Ab Go.Proofs
end Go.Proofs.YtkongcnmkiihjaaGreatDoor
namespace Go.Ab
open Go
end Go.Ab
namespace Go.Proofs.YtkongcnmkiihjaaGreatDoor
open Go Go.Ab Go.Proofs
end Go.Proofs.YtkongcnmkiihjaaGreatDoor
namespace Go.Ab
open Go
end Go.Ab
namespace Go.Proofs.YtkongcnmkiihjaaGreatDoor
open Go Go.Ab Go.Proofs
def gcdI (a b:Int):Int:=(Nat.gcd a.natAbs b.natAbs:Nat)
theorem build96 {fr:Fr} {H:Heap} {n:Nat} {x y:Operand} {a b:Int} (hx:evO Tryz.prog fr x=some (iv a)) (hy:evO Tryz.prog fr y=some (iv b)):opBuild Tryz.prog 96 #[(0,x),(1,y)] fr H n=some (.agg #[iv a,iv b],H,n):=by
 unfold opBuild
 simp only [evPs_cons,evPs_nil,hx,hy]
 kernel_rfl
theorem gcd_pos {a b:Int} (hb:1 ≤ b):1 ≤ gcdI a b:=by
 unfold gcdI
 have:0 < Nat.gcd a.natAbs b.natAbs:=Nat.gcd_pos_of_pos_right _ (by omega)
 omega
theorem tdiv_bound {a g:Int} (_hg:1 ≤ g) (h:-4611686018427387904 ≤ a ∧ a ≤ 4611686018427387904):IntKind.i64.wrap (a.tdiv g)=a.tdiv g:=by
 have h1:(a.tdiv g).natAbs ≤ a.natAbs:=by rw [Int.natAbs_tdiv]; exact Nat.div_le_self _ _
 exact W_in (by omega) (by omega)
abbrev ratV (a b:Int):Value:=.agg ⟨[iv (a.tdiv (gcdI a b)),iv (b.tdiv (gcdI a b))]⟩
set_option maxRecDepth 100000 in
theorem w124 (a b:Int) (ha:-4611686018427387904 ≤ a ∧ a ≤ 4611686018427387904) (hb:1 ≤ b ∧ b ≤ 4611686018427387904):AC Tryz.prog 124 [iv a,iv b] [] 9 (ratV a b) [] 9:=by
 have hr:=recT_ok (P:=Tryz.prog) (l:=[]) (by simp)
 have hn:IntKind.i64.wrap (-a) = -a:=W_in (by omega) (by omega)
 have hm:max a (-a)=(a.natAbs:Int):=by omega
 have hbn:b=(b.natAbs:Int):=by omega
 have hg:=gcd_pos (a:=a) hb.1
 refine AC.pure Tryz.func124 rfl (by kernel_rfl) rfl [0,1,4,5,6] rfl ?_
 refine E.seq (E.reg hr (by simp; rfl) ?_)
 refine E.seq (E.reg hr (by simp [max33,hn,hm]; rfl) ?_)
 refine E.seq (E.block ?_)
 refine E.loop ?_
 refine EL.ind (fun x:Nat × Nat=>{ fr:=[(0,iv a),(1,iv b),(4,.pointer (some ⟨9,0,none⟩)),(5,iv x.1),(6,iv x.2)],sz:=25,H:=[(9,.cells [iv 0,iv 0] 96)],n:=10,marks:=[],vs:=[0,1,4,5,6] }) (fun x=>x.2) (fun x=>(Nat.gcd x.1 x.2:Int)=gcdI a b) (a.natAbs,b.natAbs) (.less rfl rfl rfl (by simp [← hbn]) (by simp)) rfl (fun _=>rfl) ?_
 intro ⟨p,q⟩ hgood
 dsimp only at hgood
 refine E.seq (E.seq (E.reg hr (by simp; rfl) ?_))
 refine E.cond (by rfl) (fun h=>?_) (fun h=>?_)
 · simp at h
   have hq:(q:Int) ≠ 0:=by omega
   have hmod:(p:Int).tmod (q:Int)=((p % q:Nat):Int):=by
     rw [Int.tmod_eq_emod_of_nonneg (by omega)]
     exact (Int.natCast_emod p q).symm
   refine E.skip (E.block ?_)
   refine E.drawC mixed hr [] [] [] (by kernel_rfl) (by simp [bin_rem hq,hmod]; rfl) ?_
   refine ⟨(q,p % q),.less rfl rfl rfl (by simp) (by simp),?_,?_⟩
   · dsimp only
     rw [← hgood,Nat.gcd_comm q,← Nat.gcd_rec,Nat.gcd_comm]
   · exact Nat.mod_lt _ (by omega)
 · simp at h
   subst h
   have hp:(p:Int)=gcdI a b:=by simpa using hgood
   have hp0:(p:Int) ≠ 0:=by omega
   have e1:IntKind.i64.wrap (a.tdiv (p:Int))=a.tdiv (p:Int):=tdiv_bound (by omega) ha
   have e2:IntKind.i64.wrap (b.tdiv (p:Int))=b.tdiv (p:Int):=tdiv_bound (by omega) (by omega)
   refine E.exit ?_
   refine E.seq (E.drawC mixed hr [7] [7] [7] (by kernel_rfl) (by simp [bin_quo hp0,e1,e2,build96]; rfl) ?_)
   refine E.ret ?_
   exact pureK.ret rfl rfl (by simp [← hp]; kernel_rfl) (by repeat first | exact sub_refl _ | refine sub_cons rfl ?_)
theorem w166 (a b:Int) (ha:-4611686018427387904 ≤ a ∧ a ≤ 4611686018427387904) (hb:1 ≤ b ∧ b ≤ 4611686018427387904):AC Tryz.prog 166 [iv a,iv b] [] 9 (iv (gcdI a b)) [] 9:=by
 have hr:=recT_ok (P:=Tryz.prog) (l:=[]) (by simp)
 refine AC.pure Tryz.func166 rfl (by kernel_rfl) rfl [0,1] rfl ?_
 refine E.seq (E.reg hr (by simp; rfl) ?_)
 refine E.seq (E.block ?_)
 refine E.loop ?_
 refine EL.ind (fun x:Int × Int=>{ fr:=[(0,iv x.1),(1,iv x.2)],sz:=16,H:=[],n:=9,marks:=[],vs:=[0,1] }) (fun x=>x.2.natAbs) (fun x=>gcdI x.1 x.2=gcdI a b ∧ x.1.natAbs ≤ 4611686018427387904 ∧ x.2.natAbs ≤ 4611686018427387904) (a,b) (.less rfl rfl rfl (by simp) (by simp)) ⟨rfl,by dsimp only; omega,by dsimp only; omega⟩ (fun _=>rfl) ?_
 intro ⟨p,q⟩ ⟨hgood,hpb,hqb⟩
 dsimp only at hgood hpb hqb
 refine E.seq (E.seq (E.reg hr (by simp; rfl) ?_))
 refine E.cond (by rfl) (fun h=>?_) (fun h=>?_)
 · simp at h
   have hna:(p.tmod q).natAbs=p.natAbs % q.natAbs:=Int.natAbs_tmod ..
   refine E.skip (E.block ?_)
   refine E.drawC mixed hr [] [] [] (by kernel_rfl) (by simp [bin_rem h]; rfl) ?_
   have hlt:p.natAbs % q.natAbs < q.natAbs:=Nat.mod_lt _ (by omega)
   refine ⟨(q,p.tmod q),.less rfl rfl rfl (by simp) (by simp),⟨?_,?_,?_⟩,?_⟩
   · dsimp only
     rw [← hgood]
     unfold gcdI
     rw [hna,Nat.gcd_comm q.natAbs,← Nat.gcd_rec,Nat.gcd_comm]
   · dsimp only
     omega
   · dsimp only
     omega
   · dsimp only
     omega
 · simp at h
   subst h
   have hp:(p.natAbs:Int)=gcdI a b:=by rw [← hgood]; simp [gcdI]
   refine E.exit ?_
   refine E.seq (E.seq (E.reg hr (by simp; rfl) ?_))
   refine E.cond (by rfl) (fun h2=>?_) (fun h2=>?_)
   · simp at h2
     have hw:IntKind.i64.wrap (-p) = -p:=W_in (by omega) (by omega)
     refine E.seq (E.reg hr (by simp [hw]; rfl) ?_)
     refine E.ret ?_
     exact pureK.ret rfl rfl (by rw [← hp]; simp; omega) (by repeat first | exact sub_refl _ | refine sub_cons rfl ?_)
   · simp at h2
     refine E.skip (E.seq (E.reg hr (by simp; rfl) ?_))
     refine E.ret ?_
     exact pureK.ret rfl rfl (by rw [← hp]; simp; omega) (by repeat first | exact sub_refl _ | refine sub_cons rfl ?_)
def ratB (a b:Int):Prop:=(-4611686018427387904 ≤ a ∧ a ≤ 4611686018427387904) ∧ (1 ≤ b ∧ b ≤ 4611686018427387904)
instance (a b:Int):Decidable (ratB a b):=by unfold ratB; infer_instance
def gRat (F:Int → Int → Value) (args:List Value) (H:Heap) (n:Nat):R:=match args with
 | [.int .i64 a,.int .i64 b]=>if ratB a b then some (F a b,H,n) else none
 | _=>none
theorem okRat {f:FuncId} {F:Int → Int → Value} (hF:∀ a b,af (F a b)=true) (h:∀ a b,(-4611686018427387904 ≤ a ∧ a ≤ 4611686018427387904) → (1 ≤ b ∧ b ≤ 4611686018427387904) → AC Tryz.prog f [iv a,iv b] [] 9 (F a b) [] 9):EntOk Tryz.prog (f,gRat F):=by
 intro args H n v H' n' h'
 simp only [gRat] at h'
 split at h'
 · split at h'
   · rename_i hc
     injection h' with h'; injection h' with e1 e2; injection e2 with e2 e3; subst e1 e2 e3
     exact AC.liftP (hF _ _) (Part.plain (by simp) [] (by simp [Seen]) gsz ⟨_,_,h _ _ hc.1 hc.2⟩)
   · cases h'
 · cases h'
theorem ok124:EntOk Tryz.prog (124,gRat ratV):=okRat (fun _ _=>rfl) w124
theorem ok166:EntOk Tryz.prog (166,gRat fun a b=>iv (gcdI a b)):=okRat (fun _ _=>rfl) w166
set_option maxRecDepth 100000 in
theorem w128 (a b:Int) (ha:-4611686018427387904 ≤ a ∧ a ≤ 4611686018427387904) (hb:1 ≤ b ∧ b ≤ 4611686018427387904):AC Tryz.prog 128 [iv a,iv b] [] 9 (ratV a b) [] 9:=by
 have hr:=recT_ok (P:=Tryz.prog) (l:=[(166,gRat fun a b=>iv (gcdI a b))]) (by simp only [List.forall_mem_cons]; exact ⟨ok166,by simp⟩)
 have hg:=gcd_pos (a:=a) hb.1
 have hg0:gcdI a b ≠ 0:=by omega
 have hbn:¬ b < 0:=by omega
 have hrb:ratB a b:=⟨ha,hb⟩
 have e1:IntKind.i64.wrap (a.tdiv (gcdI a b))=a.tdiv (gcdI a b):=tdiv_bound hg ha
 have e2:IntKind.i64.wrap (b.tdiv (gcdI a b))=b.tdiv (gcdI a b):=tdiv_bound hg (by omega)
 refine AC.pure Tryz.func128 rfl (by kernel_rfl) rfl [] rfl ?_
 refine E.seq (E.reg hr (by simp; rfl) ?_)
 refine E.seq (E.seq (E.reg hr (by simp [hbn]; rfl) ?_))
 refine E.cond (by rfl) (fun h=>?_) (fun h=>?_)
 · simp at h
 refine E.skip (E.seq (E.reg hr (by simp [gRat,hrb]; rfl) ?_))
 refine E.seq (E.drawC mixed hr [7] [7] [7] (by kernel_rfl) (by simp [bin_quo hg0,e1,e2,build96]; rfl) ?_)
 refine E.ret ?_
 exact pureK.ret rfl rfl (by simp; kernel_rfl) (by repeat first | exact sub_refl _ | refine sub_cons rfl ?_)
theorem ok128:EntOk Tryz.prog (128,gRat ratV):=okRat (fun _ _=>rfl) w128
theorem min33 (a b:Int) (c:Array Bool):runP Tryz.prog (builtin .min #[3,3] 3 c #[iv a,iv b])=some (.value (iv (min a b))):=by
 have h:runP Tryz.prog (builtin .min #[3,3] 3 c #[iv a,iv b])=some (.value (.int .i64 (if b < a then b else a))):=rfl
 rw [h]
 congr 3
 split <;> omega
def smpN (ts:List Trc) (t w:Int) (i:Int):Int:=match ts[i.toNat]? with
 | some x=>six32 (x.smp.getD (movV t (offV x.hd) w).toNat 0)
 | none=>0
theorem six_zero:(six32 0).natAbs ≤ 16384:=by
 have h:good32 0=true:=(smp_good smp_zero (by decide)).1
 exact (good_six h).2
theorem smpN_abs {ts:List Trc} (hok:OkS ts) (t w i:Int):(smpN ts t w i).natAbs ≤ 16384:=by
 unfold smpN
 split
 · rename_i x hx
   rw [List.getD_eq_getElem?_getD]
   cases hb:x.smp[(movV t (offV x.hd) w).toNat]? with
   | none=>exact six_zero
   | some b=>exact (good_six (hok.good x (List.mem_of_getElem? hx) b (List.mem_of_getElem? hb))).2
 · exact Nat.zero_le _
abbrev livA (ts:List Trc) (t w st:Int):List Int:=livL ts t w st ts.length
def nuT (ts:List Trc) (t w st:Int):Int:=sumI (smpN ts t w) (livA ts t w st) * sumI (smpN ts t w) (livA ts t w st)
def deT (ts:List Trc) (t w st:Int):Int:=(livA ts t w st).length * sumI (fun i=>smpN ts t w i * smpN ts t w i) (livA ts t w st)
def accN (f:Int → Int) (a:Int):Nat → Int
 | 0=>0
 | k + 1=>accN f a k + f (a + k)
theorem accN_bound {f:Int → Int} {a:Int} {M:Int} (hf:∀ x,0 ≤ f x ∧ f x ≤ M):∀ k:Nat,0 ≤ accN f a k ∧ accN f a k ≤ M * k
 | 0=>by simp [accN]
 | k + 1=>by
   have h1:=accN_bound (a:=a) hf k
   have h2:=hf (a + k)
   rw [accN,Int.natCast_succ,Int.mul_add,Int.mul_one]
   omega
theorem nd_bound {ts:List Trc} (hok:OkS ts) (t w st:Int):(0 ≤ nuT ts t w st ∧ nuT ts t w st ≤ 1099511627776) ∧ (0 ≤ deT ts t w st ∧ deT ts t w st ≤ 1099511627776):=by
 have hl:(livA ts t w st).length ≤ ts.length:=livL_len ts t w st ts.length
 have h64:=hok.len.2
 have hs:=sumI_abs (f:=smpN ts t w) (M:=16384) (livA ts t w st) fun x _=>smpN_abs hok t w x
 have hs2:(sumI (smpN ts t w) (livA ts t w st)).natAbs ≤ 1048576:=by
   have:16384 * (livA ts t w st).length ≤ 16384 * 64:=Nat.mul_le_mul_left _ (by omega)
   omega
 have hq0:=sumI_nonneg (f:=fun i=>smpN ts t w i * smpN ts t w i) (livA ts t w st) fun x _=>(sq_abs (smpN_abs hok t w x)).1
 have hq:=sumI_abs (f:=fun i=>smpN ts t w i * smpN ts t w i) (M:=268435456) (livA ts t w st) fun x _=>by
   have:=sq_abs (smpN_abs hok t w x)
   omega
 refine ⟨?_,?_⟩
 · have:=sq_abs hs2
   unfold nuT
   omega
 · unfold deT
   have e1:268435456 * (livA ts t w st).length ≤ 268435456 * 64:=Nat.mul_le_mul_left _ (by omega)
   have e2:(sumI (fun i=>smpN ts t w i * smpN ts t w i) (livA ts t w st)) ≤ 17179869184:=by omega
   have e3:(((livA ts t w st).length:Nat):Int) ≤ 64:=by omega
   refine ⟨Int.mul_nonneg (by omega) hq0,?_⟩
   have:=Int.mul_le_mul e3 e2 hq0 (by decide)
   omega
def semA (t win:Int):Int:=max 0 (t - win)
def semC (ts:List Trc) (t win:Int):Nat:=(min ((widF ts).1 - 1) (t + win) - semA t win + 1).toNat
def semU (ts:List Trc) (t w win st:Int):Int:=accN (fun x=>nuT ts x w st) (semA t win) (semC ts t win)
def semD (ts:List Trc) (t w win st:Int):Int:=accN (fun x=>deT ts x w st) (semA t win) (semC ts t win)
def semV (ts:List Trc) (t w win st:Int):Value:=if semD ts t w win st=0 then .agg ⟨[iv 0,iv 1]⟩ else ratV (semU ts t w win st) (semD ts t w win st)
noncomputable def asg135:Code:=match rfOf (bodyOf' Tryz.f135) with
 | some x=>x.1
 | none=>.skip
noncomputable def bdy135:Code:=match rfOf (bodyOf' Tryz.f135) with
 | some x=>x.2
 | none=>.skip
abbrev fr135 (n N:Nat) (t w win st num den a:Int):Fr:=[(38,fn169 (N + 3)),(1,iv t),(2,iv w),(3,iv win),(4,iv st),(5,ptA n),(10,ptA (n + 1)),(11,iv num),(12,iv den),(13,iv a),(14,ptA N),(15,ptA (N + 1)),(16,ptA (N + 2))]
abbrev vs135:List Nat:=[1,2,3,4,5,10,11,12,13,14,15,16]
noncomputable abbrev lb135 (fr:Fr) (N:Nat) (ls:LoopState) (pe:Option Code):Blk:=.loop ls pe fr 67 vs135 #[39,40] asg135 bdy135 (N + 7)
noncomputable abbrev fs135 (fr:Fr) (N:Nat) (ls:LoopState) (pe:Option Code) (m s q:Int):List (Nat × Blk):=[(N + 7,.defd),(N + 8,lb135 fr N ls pe),(N,.cells [iv m] 3),(N + 1,.cells [iv s] 3),(N + 2,.cells [iv q] 3)]
set_option maxHeartbeats 1600000 in
set_option maxRecDepth 100000 in
theorem yield135 {B : Heap} {fr : Fr} {N0 N : Nat} {m s q x i : Int} {cs : List Value} {Hx : Heap} (hfr : lk fr 14 = some (ptA N0) ∧ lk fr 15 = some (ptA (N0 + 1)) ∧ lk fr 16 = some (ptA (N0 + 2))) (hI : Kp B (N0 + 9) (fs135 fr N0 .ready none m s q) Hx N) (hm : IntKind.i64.wrap (m + 1) = m + 1) (hs : IntKind.i64.wrap (s + x) = s + x) (hx : IntKind.i64.wrap (x * x) = x * x) (hq : IntKind.i64.wrap (q + x * x) = q + x * x) :
   ∃ r b H' N',RecOk Tryz.prog r 0 ∧ yieldF r (N0 + 8) [iv i,iv x] ((N,.cells cs 159) :: Hx) (N + 1)=some (.bool b,H',N') ∧ (b=true ∧ Kp B (N0 + 9) (fs135 fr N0 .ready none (m + 1) (s + x) (q + x * x)) H' N'):=by
 have hr0:=recT_ok (P:=Tryz.prog) (l:=[]) (by simp)
 have hS1:=hI.skip (.cells cs 159)
 obtain ⟨f1,f2,f3⟩:=hfr
 refine (yieldF_ex (K:=fun b H' N'=>b=true ∧ Kp B (N0 + 9) (fs135 fr N0 .ready none (m + 1) (s + x) (q + x * x)) H' N') (hS1.at' 1 _ rfl) rfl (fun c h=>by cases h) (fun c h=>by cases h) ?_)
 refine E.lead { fr:=[(40,iv x),(14,ptA N0),(15,ptA (N0 + 1)),(16,ptA (N0 + 2))],sz:=67,H:=(N,.cells cs 159) :: Hx,n:=N + 1,marks:=[],vs:=vs135 } (.keep rfl rfl rfl (by simp [f1,f2,f3]) (Sub.refl _)) ?_
 refine E.reg hr0 (by simp; rfl) ?_
 refine ⟨rfl,hS1.at' 1 _ rfl,?_⟩
 have hY:=hS1.put 1 rfl (lb135 fr N0 .busy none)
 obtain ⟨Y,hYe⟩:∃ Y,hset ((N,Blk.cells cs 159) :: Hx) (N0 + 8) (lb135 fr N0 .busy none)=Y:=⟨_,rfl⟩
 rw [hYe] at hY ⊢
 have c1:cellA Y N0 0=some (iv m):=hY.cell 2 rfl 0
 have s1:=hY.store 2 (v:=iv (m + 1)) rfl
 have hY2:=hY.put 2 rfl (.cells [iv (m + 1)] 3)
 obtain ⟨Y2,hY2e⟩:∃ Y2,hset Y N0 (.cells [iv (m + 1)] 3)=Y2:=⟨_,rfl⟩
 rw [hY2e] at hY2 s1
 have c2:cellA Y2 (N0 + 1) 0=some (iv s):=hY2.cell 3 rfl 0
 have s2:=hY2.store 3 (v:=iv (s + x)) rfl
 have hY3:=hY2.put 3 rfl (.cells [iv (s + x)] 3)
 obtain ⟨Y3,hY3e⟩:∃ Y3,hset Y2 (N0 + 1) (.cells [iv (s + x)] 3)=Y3:=⟨_,rfl⟩
 rw [hY3e] at hY3 s2
 have c3:cellA Y3 (N0 + 2) 0=some (iv q):=hY3.cell 4 rfl 0
 have s3:=hY3.store 4 (v:=iv (q + x * x)) rfl
 have hY4:=hY3.put 4 rfl (.cells [iv (q + x * x)] 3)
 refine E.block (E.seq (E.reg hr0 (by simp [-cellA,-storeA,c1,hm,s1]; rfl) ?_))
 refine E.seq (E.reg hr0 (by simp [-cellA,-storeA,c2,hs,s2]; rfl) ?_)
 refine E.reg hr0 (by simp [-cellA,-storeA,c3,hx,hq,s3]; rfl) ?_
 exact ⟨hY4.at' 1 _ rfl,.inl ⟨rfl,rfl,hY4.put 1 rfl (lb135 fr N0 .ready none)⟩⟩
theorem build96a {fr:Fr} {H:Heap} {n:Nat}:opBuild Tryz.prog 96 #[(1,.const (.int .i64 1))] fr H n=some (.agg ⟨[iv 0,iv 1]⟩,H,n):=by kernel_rfl
theorem load96 {H:Heap} {n:Nat} {a b:Value} (h:hget H n=some (.cells [a,b] 96)):loadA Tryz.prog 96 H (.pointer (some ⟨n,0,none⟩))=some (.agg ⟨[a,b]⟩):=by
 have:cellsA H n 0 2=some [a,b]:=by rw [cellsA_eq,h]; rfl
 simp only [loadA,ag96,sz96,this,Option.map_some]
set_option maxHeartbeats 6400000 in
set_option maxRecDepth 100000 in
theorem w135 {H:Heap} {n:Nat} {s:ByteArray} {u:Value} {ts:List Trc} {t w win st:Int} (hR:dR H) (hv:trcV H u=some ts) (hok:OkS ts) (htr:0 ≤ t ∧ t ≤ (widF ts).1 - 1) (hwr:1 ≤ w ∧ w ≤ 1000000000) (hnr:0 ≤ win ∧ win ≤ 16) (hsr:0 ≤ st ∧ st ≤ 1024):AC Tryz.prog 135 [.agg ⟨[.string s,u,iv (widF ts).1]⟩,iv t,iv w,iv win,iv st] H n (semV ts t w win st) H n:=by
 refine AC.given fun hold hsc hgn=>AC.tidied (B:=[]) (by simp) ?_
 replace hv:trcV (tidy n H) u=some ts:=listV_tidy decT_tidy (fun k b h=>(hold k b h).1) hv
 have h1n:1 < n:=by rw [gsz] at hgn; omega
 replace hR:hget (tidy n H) 1=some (.inp 0 rangesV):=hget_tidy.2 ⟨hR,h1n,rfl⟩
 have hr:=recT_ok (P:=Tryz.prog) (l:=[(133,g133),(124,gRat ratV)]) (by simp only [List.forall_mem_cons]; exact ⟨ok133,ok124,by simp⟩)
 have hr0:=recT_ok (P:=Tryz.prog) (l:=[]) (by simp)
 obtain ⟨oa,c,rfl,hlt,_,_⟩:=trcV_form hv
 have hT:∀ j,n ≤ j → hget (tidy n H) j=none:=fun j hj=>by
   cases hc:hget (tidy n H) j with
   | none=>rfl
   | some b=>exact absurd (tidy_lt _ _ hc) (by omega)
 have hw0:=hok.w0
 have hndb:=fun x=>nd_bound hok x w st
 obtain ⟨A,hA⟩:∃ A,semA t win=A:=⟨_,rfl⟩
 obtain ⟨C,hC⟩:∃ C,semC ts t win=C:=⟨_,rfl⟩
 have hAd:A=max 0 (t - win):=by rw [← hA]; rfl
 have hU:semU ts t w win st=accN (fun x=>nuT ts x w st) A C:=by rw [← hA,← hC]; rfl
 have hD:semD ts t w win st=accN (fun x=>deT ts x w st) A C:=by rw [← hA,← hC]; rfl
 have hCd:C=(min ((widF ts).1 - 1) (t + win) - A + 1).toNat:=by rw [← hA,← hC]; rfl
 have hV:semV ts t w win st=if accN (fun x=>deT ts x w st) A C=0 then .agg ⟨[iv 0,iv 1]⟩ else ratV (accN (fun x=>nuT ts x w st) A C) (accN (fun x=>deT ts x w st) A C):=by rw [← hU,← hD]; rfl
 obtain ⟨V,hVV⟩:∃ V,semV ts t w win st=V:=⟨_,rfl⟩
 rw [hVV] at hV ⊢
 have haf:af V=true:=by rw [hV]; split <;> rfl
 have hub:∀ k:Nat,0 ≤ accN (fun x=>nuT ts x w st) A k ∧ accN (fun x=>nuT ts x w st) A k ≤ 1099511627776 * k:=accN_bound fun x=>(hndb x).1
 have hdb:∀ k:Nat,0 ≤ accN (fun x=>deT ts x w st) A k ∧ accN (fun x=>deT ts x w st) A k ≤ 1099511627776 * k:=accN_bound fun x=>(hndb x).2
 obtain ⟨W,hW⟩:∃ W,(widF ts).1=W:=⟨_,rfl⟩
 rw [hW] at htr hw0 hCd ⊢
 have hC33:C ≤ 33:=by omega
 obtain ⟨X,hX⟩:∃ X,(n + 1,Blk.cells [iv 0,iv 0] 96) :: (n,Blk.cells [.string s,.slice oa ts.length c,iv W] 196) :: tidy n H=X:=⟨_,rfl⟩
 have hS:Sub (tidy n H) X:=by rw [← hX]; exact (Sub.cons (hT _ (Nat.le_refl _)) (Sub.refl _)).trans (Sub.cons (by rw [hget_cons,if_neg (by omega)]; exact hT _ (by omega)) (Sub.refl _))
 have hnm:namesOk (n + 2) X=true:=by rw [← hX]; exact namesOk_put (by omega) (namesOk_put (by omega) (by simp))
 have hbx:hget X n=some (.cells [.string s,.slice oa ts.length c,iv W] 196):=by rw [← hX,hget_cons,if_neg (by omega),hget_cons,if_pos rfl]
 have hbr:hget X (n + 1)=some (.cells [iv 0,iv 0] 96):=by rw [← hX,hget_cons,if_pos rfl]
 have hXlt:∀ k b,hget X k=some b → k < n + 2:=fun k b hk=>namesOk_iff.1 hnm (k,b) (hget_mem _ _ _ hk)
 have hws:IntKind.i64.wrap (t - win)=t - win:=W_in (by omega) (by omega)
 have hwa:IntKind.i64.wrap (t + win)=t + win:=W_in (by omega) (by omega)
 have hwW:IntKind.i64.wrap (W - 1)=W - 1:=W_in (by omega) (by omega)
 refine AC.pureM Tryz.func135 rfl (by kernel_rfl) rfl vs135 haf ?_
 refine E.seq (E.reg hr (by simp; rfl) ?_)
 rw [hX]
 refine E.seq (E.reg hr (by simp; rfl) ?_)
 refine E.seq (E.seq (E.reg hr (by simp [hws,max33,← hAd]; rfl) ?_))
 refine E.block (E.loop ?_)
 refine EL.ind (fun x:Nat × Heap × Nat × List Nat=>{ fr:=[(1,iv t),(2,iv w),(3,iv win),(4,iv st),(5,ptA n),(10,ptA (n + 1)),(11,iv (accN (fun x=>nuT ts x w st) A x.1)),(12,iv (accN (fun x=>deT ts x w st) A x.1)),(13,iv (A + (x.1:Nat)))],sz:=67,H:=x.2.1,n:=x.2.2.1,marks:=x.2.2.2,vs:=vs135 }) (fun x=>C - x.1) (fun x=>x.1 ≤ C ∧ Sub X x.2.1 ∧ namesOk x.2.2.1 x.2.1=true ∧ n + 2 ≤ x.2.2.1 ∧ x.2.2.2.Nodup ∧ ∀ m ∈ x.2.2.2,n + 2 ≤ m ∧ hget x.2.1 m=some .defd) (0,X,n + 2,[]) (.keep rfl rfl rfl (by simp [accN]) (Sub.refl _)) ⟨Nat.zero_le _,Sub.refl _,hnm,Nat.le_refl _,List.nodup_nil,fun m hm=>by cases hm⟩ (fun _=>rfl) ?_
 rintro ⟨k,Hx,N,ms⟩ ⟨hk,hSx,hnx,hNn,hnd,hms⟩
 dsimp only at hk hSx hnx hNn hnd hms ⊢
 have hHlt:∀ k b,hget Hx k=some b → k < N:=fun k b hk=>namesOk_iff.1 hnx (k,b) (hget_mem _ _ _ hk)
 have hHn:∀ j,N ≤ j → hget Hx j=none:=fun j hj=>by
   cases hc:hget Hx j with
   | none=>rfl
   | some b=>have:=hHlt _ _ hc; omega
 have hcW:cellA Hx n 2=some (iv W):=by rw [cellA_eq,hSx _ _ hbx]; rfl
 refine E.seq (E.seq (E.reg hr0 (by simp [-cellA,hcW,hwW,hwa,min33]; rfl) ?_))
 by_cases hkC:k < C
 · have hle:A + (k:Int) ≤ min (W - 1) (t + win):=by omega
   have hat:0 ≤ A + (k:Int) ∧ A + (k:Int) ≤ W - 1:=by omega
   refine E.cond (t:=true) (by simp; omega) (fun _=>?_) (fun h=>by cases h)
   have hub1:=hub k
   have hdb1:=hdb k
   have hac1:accN (fun x=>nuT ts x w st) A (k + 1)=accN (fun x=>nuT ts x w st) A k + nuT ts (A + k) w st:=rfl
   have hac2:accN (fun x=>deT ts x w st) A (k + 1)=accN (fun x=>deT ts x w st) A k + deT ts (A + k) w st:=rfl
   obtain ⟨nu,hnu⟩:∃ x,accN (fun x=>nuT ts x w st) A k=x:=⟨_,rfl⟩
   obtain ⟨de,hde⟩:∃ x,accN (fun x=>deT ts x w st) A k=x:=⟨_,rfl⟩
   obtain ⟨at',hat'⟩:∃ x,A + (k:Int)=x:=⟨_,rfl⟩
   have hndb':=hndb at'
   have hk1:A + ((k + 1:Nat):Int)=at' + 1:=by omega
   rw [hat'] at hac1 hac2 hat
   rw [hnu] at hub1 hac1
   rw [hde] at hdb1 hac2
   rw [hnu,hde,hat']
   refine E.skip (E.seq ?_)
   refine E.block (E.seq (E.reg hr0 (by simp; rfl) ?_))
   refine E.seq (E.seq ?_)
   have hld:=load196 (H:=(N + 2,Blk.cells [iv 0] 3) :: (N + 1,.cells [iv 0] 3) :: (N,.cells [iv 0] 3) :: Hx) (n:=n) (s:=s) (u:=.slice oa ts.length c) (W:=W) (by rw [hget_cons,if_neg (by omega),hget_cons,if_neg (by omega),hget_cons,if_neg (by omega)]; exact hSx _ _ hbx)
   refine E.reg hr (by simp [-loadA,hld,g133]; rfl) ?_
   refine E.block ?_
   refine E.lead { fr:=fr135 n N t w win st nu de at',sz:=67,H:=(N + 6,.cells [iv st] 3) :: (N + 5,.cells [iv w] 3) :: (N + 4,.cells [iv at'] 3) :: (N + 3,.cells [.string s,.slice oa ts.length c,iv W] 196) :: (N + 2,Blk.cells [iv 0] 3) :: (N + 1,.cells [iv 0] 3) :: (N,.cells [iv 0] 3) :: Hx,n:=N + 7,marks:=ms,vs:=vs135 } (.keep rfl rfl rfl (by simp) (Sub.refl _)) ?_
   refine E.rangeX (x:=asg135) (y:=bdy135) rfl ent169 ?_
   obtain ⟨fr,hfr⟩:∃ fr,fr135 n N t w win st nu de at'=fr:=⟨_,rfl⟩
   have hfl:lk fr 14=some (ptA N) ∧ lk fr 15=some (ptA (N + 1)) ∧ lk fr 16=some (ptA (N + 2)):=by rw [← hfr]; exact ⟨rfl,rfl,rfl⟩
   obtain ⟨B,hB⟩:∃ B,(N + 6,Blk.cells [iv st] 3) :: (N + 5,.cells [iv w] 3) :: (N + 4,.cells [iv at'] 3) :: (N + 3,.cells [.string s,.slice oa ts.length c,iv W] 196) :: Hx=B:=⟨_,rfl⟩
   have hHB:Sub Hx B:=by
     intro j b hj
     have:=hHlt _ _ hj
     rw [← hB,hget_cons,if_neg (by omega),hget_cons,if_neg (by omega),hget_cons,if_neg (by omega),hget_cons,if_neg (by omega)]
     exact hj
   have htB:trcV B (.slice oa ts.length c)=some ts:=listV_mono decT_mono (hS.trans (hSx.trans hHB)) hv
   have hBlt:∀ j b,hget B j=some b → j < N + 9:=fun j b hj=>by
     rw [← hB,hget_cons,hget_cons,hget_cons,hget_cons] at hj
     split at hj
     · omega
     split at hj
     · omega
     split at hj
     · omega
     split at hj
     · omega
     · have:=hHlt _ _ hj; omega
   have hBn:∀ j,N ≤ j → (j < N + 3 ∨ N + 6 < j) → hget B j=none:=fun j h1 h2=>by
     rw [← hB,hget_cons,if_neg (by omega),hget_cons,if_neg (by omega),hget_cons,if_neg (by omega),hget_cons,if_neg (by omega)]
     exact hHn j h1
   obtain ⟨Z,hZ⟩:∃ Z,(N + 6,Blk.cells [iv st] 3) :: (N + 5,.cells [iv w] 3) :: (N + 4,.cells [iv at'] 3) :: (N + 3,.cells [.string s,.slice oa ts.length c,iv W] 196) :: (N + 2,Blk.cells [iv 0] 3) :: (N + 1,.cells [iv 0] 3) :: (N,.cells [iv 0] 3) :: Hx=Z:=⟨_,rfl⟩
   have hZ0:hget Z N=some (.cells [iv 0] 3):=by rw [← hZ]; simp
   have hZ1:hget Z (N + 1)=some (.cells [iv 0] 3):=by rw [← hZ]; simp
   have hZ2:hget Z (N + 2)=some (.cells [iv 0] 3):=by rw [← hZ]; simp
   have hBZ:Sub B Z:=by
     intro j b hj
     rw [← hB,hget_cons,hget_cons,hget_cons,hget_cons] at hj
     rw [← hZ,hget_cons,hget_cons,hget_cons,hget_cons]
     split
     · rename_i e; rw [if_pos e] at hj; exact hj
     rename_i e1; rw [if_neg e1] at hj
     split
     · rename_i e; rw [if_pos e] at hj; exact hj
     rename_i e2; rw [if_neg e2] at hj
     split
     · rename_i e; rw [if_pos e] at hj; exact hj
     rename_i e3; rw [if_neg e3] at hj
     split
     · rename_i e; rw [if_pos e] at hj; exact hj
     rename_i e4; rw [if_neg e4] at hj
     have:=hHlt _ _ hj
     rw [hget_cons,if_neg (by omega),hget_cons,if_neg (by omega),hget_cons,if_neg (by omega)]
     exact hj
   have hZn:namesOk (N + 7) Z=true:=by rw [← hZ]; exact namesOk_put (by omega) (namesOk_put (by omega) (namesOk_put (by omega) (namesOk_put (by omega) (namesOk_put (by omega) (namesOk_put (by omega) (namesOk_put (by omega) (namesOk_mono (by omega) _ hnx)))))))
   have hZlt:∀ j b,hget Z j=some b → j < N + 7:=fun j b hj=>namesOk_iff.1 hZn (j,b) (hget_mem _ _ _ hj)
   let I:Nat → Heap → Nat → Prop:=fun i H N'=>Kp B (N + 9) (fs135 fr N .ready none (livL ts at' w st i).length (sumI (smpN ts at' w) (livL ts at' w st i)) (sumI (fun i=>smpN ts at' w i * smpN ts at' w i) (livL ts at' w st i))) H N'
   have hstart:I 0 ((N + 8,lb135 fr N .ready none) :: (N + 7,.defd) :: Z) (N + 9):=by
     have hs0:Sub B ((N + 8,lb135 fr N .ready none) :: (N + 7,.defd) :: Z):=fun j b hj=>by
       have:=hZlt _ _ (hBZ _ _ hj)
       rw [hget_cons,if_neg (by omega),hget_cons,if_neg (by omega)]
       exact hBZ _ _ hj
     refine (((((Kp.start hBlt hs0 (namesOk_put (by omega) (namesOk_put (by omega) (namesOk_mono (by omega) _ hZn))) (Nat.le_refl _)).more (l:=N + 2) (c:=.cells [iv 0] 3) ?_ (by omega) (hBn _ (by omega) (by omega)) (by simp)).more (l:=N + 1) (c:=.cells [iv 0] 3) ?_ (by omega) (hBn _ (by omega) (by omega)) (by simp)).more (l:=N) (c:=.cells [iv 0] 3) ?_ (by omega) (hBn _ (by omega) (by omega)) (by simp)).more (l:=N + 8) (c:=lb135 fr N .ready none) (by simp) (by omega) (hBn _ (by omega) (by omega)) (by simp)).more (l:=N + 7) (c:=.defd) (by simp) (by omega) (hBn _ (by omega) (by omega)) (by simp)
     · rw [hget_cons,if_neg (by omega),hget_cons,if_neg (by omega)]; exact hZ2
     · rw [hget_cons,if_neg (by omega),hget_cons,if_neg (by omega)]; exact hZ1
     · rw [hget_cons,if_neg (by omega),hget_cons,if_neg (by omega)]; exact hZ0
   obtain ⟨v',H',n',hAC,hend⟩:=it169 (B:=B) (l:=N + 8) (kb:=N + 3) (k1:=N + 4) (k2:=N + 5) (k3:=N + 6) (s:=s) (t:=at') (w:=w) (st:=st) (by rw [← hB,hW]; simp) (by rw [← hB]; simp) (by rw [← hB]; simp) (by rw [← hB]; simp) ((hS.trans (hSx.trans hHB)) _ _ hR) htB hok (by omega) hwr hsr I (fun _ _=>False) (fun i H N h=>h.sub) (fun i H N h=>h.nm)
     (fun i H N cs hi h hd=>by
       show Kp B _ (fs135 fr _ .ready none (livL ts at' w st (i + 1)).length _ _) _ _
       rw [livL_dead hd]; exact h.skip _)
     (fun i Hy N' cs b hi hI hlv hh hb=>by
       have hlen:=livL_len ts at' w st i
       have h64:=hok.len.2
       have hsa:=sumI_abs (f:=smpN ts at' w) (M:=16384) (livL ts at' w st i) fun x _=>smpN_abs hok at' w x
       have hqa:=sumI_abs (f:=fun i=>smpN ts at' w i * smpN ts at' w i) (M:=268435456) (livL ts at' w st i) fun x _=>by
         have:=sq_abs (smpN_abs hok at' w x)
         omega
       have hx:six32 b=smpN ts at' w (i:Int):=by
         unfold smpN
         rw [Int.toNat_natCast,List.getElem?_eq_getElem hi]
         dsimp only
         rw [List.getD_eq_getElem?_getD,hb]
         rfl
       have hxa:=smpN_abs hok at' w (i:Int)
       have hxs:=sq_abs hxa
       rw [hx]
       have e1:16384 * (livL ts at' w st i).length ≤ 16384 * 64:=Nat.mul_le_mul_left _ (by omega)
       have e2:268435456 * (livL ts at' w st i).length ≤ 268435456 * 64:=Nat.mul_le_mul_left _ (by omega)
       obtain ⟨r,bb,H2,N2,h1,h2,h3,h4⟩:=yield135 (cs:=cs) (i:=(i:Int)) (x:=smpN ts at' w (i:Int)) hfl hI (W_in (by omega) (by omega)) (W_in (by omega) (by omega)) (W_in (by omega) (by omega)) (W_in (by omega) (by omega))
       subst h3
       refine ⟨r,true,H2,N2,h1,h2,?_⟩
       rw [if_pos rfl]
       show Kp B _ (fs135 fr _ .ready none (livL ts at' w st (i + 1)).length _ _) _ _
       rw [livL_live hlv,sumI_snoc,sumI_snoc,List.length_append]
       exact h4)
     (H:=(N + 8,lb135 fr N .ready none) :: (N + 7,.defd) :: Z) (n:=N + 9) hstart
   rw [hZ,hfr]
   refine ⟨v',H',n',hAC,?_⟩
   rcases hend with hI | hI
   rotate_left
   · exact hI.elim
   refine .inl ⟨hI.at' 1 _ rfl,?_⟩
   have hY:=hI.put 1 rfl (lb135 fr N .exhausted none)
   have hYb:=hI.big
   show E Tryz.prog n none _ { fr:=fr,sz:=67,H:=hset H' (N + 8) (lb135 fr N .exhausted none),n:=n',marks:=(N + 7) :: ms,vs:=vs135 } _
   obtain ⟨Y,hYe⟩:∃ Y,hset H' (N + 8) (lb135 fr N .exhausted none)=Y:=⟨_,rfl⟩
   rw [hYe] at hY ⊢
   rw [← hfr]
   have c0:cellA Y N 0=_:=hY.cell 2 rfl 0
   have c1:cellA Y (N + 1) 0=_:=hY.cell 3 rfl 0
   have c2:cellA Y (N + 2) 0=_:=hY.cell 4 rfl 0
   simp only [List.getElem?_cons_zero] at c0 c1 c2
   have hn1:nuT ts at' w st=sumI (smpN ts at' w) (livL ts at' w st ts.length) * sumI (smpN ts at' w) (livL ts at' w st ts.length):=rfl
   have hd1:deT ts at' w st=(livL ts at' w st ts.length).length * sumI (fun i=>smpN ts at' w i * smpN ts at' w i) (livL ts at' w st ts.length):=rfl
   have hNY:Sub Hx Y:=hHB.trans hY.sub
   obtain ⟨S1,hS1⟩:∃ x,sumI (smpN ts at' w) (livL ts at' w st ts.length)=x:=⟨_,rfl⟩
   obtain ⟨S2,hS2⟩:∃ x,sumI (fun i=>smpN ts at' w i * smpN ts at' w i) (livL ts at' w st ts.length)=x:=⟨_,rfl⟩
   obtain ⟨S0,hS0⟩:∃ x:Int,((livL ts at' w st ts.length).length:Int)=x:=⟨_,rfl⟩
   rw [hS1] at c1 hn1
   rw [hS2] at c2 hd1
   rw [hS0] at c0 hd1
   rw [hn1] at hac1 hndb'
   rw [hd1] at hac2 hndb'
   have hkb:(1099511627776:Int) * k ≤ 1099511627776 * 33:=by omega
   have w1:IntKind.i64.wrap (S1 * S1)=S1 * S1:=W_in (by omega) (by omega)
   have w2:IntKind.i64.wrap (nu + S1 * S1)=nu + S1 * S1:=W_in (by omega) (by omega)
   have w3:IntKind.i64.wrap (S0 * S2)=S0 * S2:=W_in (by omega) (by omega)
   have w4:IntKind.i64.wrap (de + S0 * S2)=de + S0 * S2:=W_in (by omega) (by omega)
   have w5:IntKind.i64.wrap (at' + 1)=at' + 1:=W_in (by omega) (by omega)
   refine E.seq (E.reg hr0 (by simp [-cellA,c1,w1,w2]; rfl) ?_)
   refine E.reg hr0 (by simp [-cellA,c0,c2,w3,w4]; rfl) ?_
   refine E.reg hr0 (by simp [w5]; rfl) ?_
   refine ⟨(k + 1,Y,n',(N + 7) :: ms),.keep rfl rfl rfl (by simp [hac1,hac2]; omega) (Sub.refl _),⟨by omega,hSx.trans hNY,hY.nm,(by show n + 2 ≤ n'; omega),List.nodup_cons.2 ⟨fun h=>?_,hnd⟩,fun m hm=>?_⟩,by dsimp only; omega⟩
   · have:=hHlt _ _ (hms _ h).2
     omega
   · rcases List.mem_cons.1 hm with rfl | hm
     · exact ⟨by omega,hY.at' 0 _ rfl⟩
     · exact ⟨(hms m hm).1,hNY _ _ (hms m hm).2⟩
 · have hkC':k=C:=by omega
   subst hkC'
   refine E.cond (t:=false) (by simp; omega) (fun h=>by cases h) (fun _=>?_)
   refine E.exit ?_
   have hub1:=hub k
   have hdb1:=hdb k
   obtain ⟨nu,hnu⟩:∃ x,accN (fun x=>nuT ts x w st) A k=x:=⟨_,rfl⟩
   obtain ⟨de,hde⟩:∃ x,accN (fun x=>deT ts x w st) A k=x:=⟨_,rfl⟩
   rw [hnu,hde] at hV ⊢
   rw [hnu] at hub1
   rw [hde] at hdb1
   have hbr':=hSx _ _ hbr
   have hst:∀ a b:Value,storeA Hx (n + 1) 0 [a,b]=some (hset Hx (n + 1) (.cells [a,b] 96)):=fun a b=>store_all hbr' rfl
   have hfin:∀ a b:Int,∃ H2,shutA ms (hset Hx (n + 1) (.cells [iv a,iv b] 96))=some H2 ∧ loadA Tryz.prog 96 H2 (.pointer (some ⟨n + 1,0,none⟩))=some (.agg ⟨[iv a,iv b]⟩) ∧ Sub (tidy n H) H2:=fun a b=>by
     obtain ⟨H2,e1,e2⟩:=shut_all ms (H:=hset Hx (n + 1) (.cells [iv a,iv b] 96)) hnd fun m hm=>by
       have:=(hms m hm).1
       rw [hget_hset,if_neg (by omega)]
       exact (hms m hm).2
     refine ⟨H2,e1,load96 ?_,fun j x hj=>?_⟩
     · rw [e2 _ fun h=>by have:=(hms _ h).1; omega,hget_hset,if_pos rfl,hbr']
       rfl
     · have hjn:=tidy_lt _ _ hj
       rw [e2 _ fun h=>by have:=(hms _ h).1; omega,hget_hset,if_neg (by omega)]
       exact hSx _ _ (hS _ _ hj)
   refine E.seq (E.seq (E.reg hr0 (by simp; rfl) ?_))
   by_cases hz:de=0
   · rw [if_pos hz] at hV
     refine E.cond (t:=true) (by simp [hz]) (fun _=>?_) (fun h=>by cases h)
     refine E.seq (E.reg hr0 (by simp [-storeA,build96a,hst]; rfl) ?_)
     refine E.ret ?_
     obtain ⟨H2,e1,e2,e3⟩:=hfin 0 1
     show Ab.outM Tryz.prog Tryz.f135 (fun u H2 _=>u=V ∧ Ab.Sub (tidy n H) H2) .ret _
     exact outM.ret H2 e1 (vs:=[.agg ⟨[iv 0,iv 1]⟩]) (by simp [-loadA,resultsA,resultA,Tryz.results135,e2]) ⟨by rw [hV]; rfl,e3⟩
   · rw [if_neg hz] at hV
     refine E.cond (t:=false) (by simp [hz]) (fun h=>by cases h) (fun _=>?_)
     refine E.skip (E.seq ?_)
     have h124:gRat ratV [iv nu,iv de] Hx N=some (ratV nu de,Hx,N):=if_pos ⟨⟨by omega,by omega⟩,by omega,by omega⟩
     refine E.reg hr (by simp [-storeA,h124,hst]; rfl) ?_
     refine E.ret ?_
     obtain ⟨H2,e1,e2,e3⟩:=hfin (nu.tdiv (gcdI nu de)) (de.tdiv (gcdI nu de))
     show Ab.outM Tryz.prog Tryz.f135 (fun u H2 _=>u=V ∧ Ab.Sub (tidy n H) H2) .ret _
     exact outM.ret H2 e1 (vs:=[ratV nu de]) (by simp [-loadA,resultsA,resultA,Tryz.results135,e2]) ⟨by rw [hV]; rfl,e3⟩
def semOk (H:Heap) (u:Value) (ts:List Trc) (W t w win st:Int):Prop:=dR H ∧ trcV H u=some ts ∧ OkS ts ∧ W=(widF ts).1 ∧ (0 ≤ t ∧ t ≤ W - 1) ∧ (1 ≤ w ∧ w ≤ 1000000000) ∧ (0 ≤ win ∧ win ≤ 16) ∧ 0 ≤ st ∧ st ≤ 1024
open Classical in
noncomputable def g135 (args:List Value) (H:Heap) (n:Nat):R:=match args with
 | [.agg ⟨[.string _,u,.int .i64 W]⟩,.int .i64 t,.int .i64 w,.int .i64 win,.int .i64 st]=>match trcV H u with
   | some ts=>if semOk H u ts W t w win st then some (semV ts t w win st,H,n) else none
   | none=>none
 | _=>none
theorem ok135:EntOk Tryz.prog (135,g135):=by
 intro args H n v H' n' h
 simp only [g135] at h
 split at h
 · split at h
   · split at h
     · rename_i hc
       injection h with h; injection h with e1 e2; injection e2 with e2 e3; subst e1 e2 e3
       obtain ⟨h1,h2,h3,rfl,h5,h6,h7,h8⟩:=hc
       exact w135 h1 h2 h3 h5 h6 h7 h8
     · cases h
   · cases h
 · cases h
theorem inf159:Tryz.prog.info? 159=some Tryz.t159:=by kernel_rfl
theorem inf145:Tryz.prog.info? 145=some Tryz.t145:=by kernel_rfl
theorem w134 {n':Int} (h:n'.natAbs < 16777216):AC Tryz.prog 134 [iv n'] [] 9 (rv (sampB n')) [] 9:=by
 have hr:=recT_ok (P:=Tryz.prog) (l:=[]) (by simp)
 obtain ⟨r,h1,h2⟩:=smp_told (n:=n') h
 have h3:sampB n'=r:=by
   unfold sampB sampQ
   rw [show FloatKind.f32.format=Ieee.single from rfl,h1]
   rfl
 have hcv:runP Tryz.prog (convert 3 145 (iv n'))=some (rv (FloatKind.f32.nearest n')):=by kernel_rfl
 refine AC.pure Tryz.func134 rfl (by kernel_rfl) rfl [] rfl ?_
 refine E.seq (E.reg hr (by simp; rfl) ?_)
 refine E.seq (E.reg hr (by simp [opConvert,hcv,bin_fdiv (k:=.f32) h1]; rfl) ?_)
 refine E.ret ?_
 exact pureK.ret rfl rfl (by rw [h3]; rfl) (sub_refl _)
def g134 (args:List Value) (H:Heap) (n:Nat):R:=match args with
 | [.int .i64 a]=>if a.natAbs < 16777216 then some (rv (sampB a),H,n) else none
 | _=>none
theorem ok134:EntOk Tryz.prog (134,g134):=by
 intro args H n v H' n' h
 simp only [g134] at h
 split at h
 · split at h
   · rename_i hc
     injection h with h; injection h with e1 e2; injection e2 with e2 e3; subst e1 e2 e3
     exact AC.liftP rfl (Part.plain (by simp) [] (by simp [Seen]) gsz ⟨_,_,w134 hc⟩)
   · cases h
 · cases h
def dn (k i:Nat):Nat → Nat → Bool:=fun j t=>decide (t < k) || (decide (t=k) && decide (j < i))
end Go.Proofs.YtkongcnmkiihjaaGreatDoor
namespace Go.Ab
open Go
structure MadeS (H:Heap) (n:Nat) (H':Heap) (n':Nat) (u:Value) (x:ByteArray × List Trc):Prop where
 app:∃ B,H'=B ++ H ∧ (∀ b ∈ B,n ≤ b.1 ∧ b.1 < n') ∧ plainH B=true
 le:n ≤ n'
 view:shtV H' u=some x
theorem shtV_mk {H:Heap} {s:ByteArray} {l:Value} {ts:List Trc} (h:trcV H l=some ts):shtV H (.agg ⟨[.string s,l]⟩)=some (s,ts):=by
 show (trcV H l).map (fun ts=>(s,ts))=_
 rw [h]
 rfl
theorem made_sht {P : Program} {f : FuncId} {fn : Func} {c : Code} {args : List Value} {H : Heap} {n : Nat} {vf : Value → Value} {s : ByteArray} {ts : List Trc} (hf : P.funcs[f]? = some fn) (hb : fn.body = some c) (he : enterable P f = true) (hlen : Nat.ble args.length fn.ntmps = true) (vs : List Nat) (hlt : ∀ k b, hget H k = some b → k < n) (hvf : ∀ u, af (vf u) = af u) (hl : ts.length < 2147483648) (hls : ∀ x ∈ ts, x.smp.length < 2147483648)
   (h:E P n none c { fr:=argsFr args 0,sz:=fn.ntmps,H:=tidy n H,n,marks:=[],vs } (Ab.outM P fn fun v Z N=>∃ F t tb tf kb rs o,v=vf (.agg ⟨[.string s,outrV F o ts.length]⟩) ∧ (ts=[] → F=true) ∧ MS F (tidy n H) n t tb tf kb s ts rs Z N o)):∃ u H' n',AC P f args H n (vf u) H' n' ∧ MadeS H n H' n' u (s,ts):=by
 obtain ⟨v,H1,n1,Z,hAC,⟨F,t,tb,tf,kb,rs,o,rfl,hF,hM⟩,h1,h2⟩:=AC.outM hf hb he hlen vs h
 have hTlt:∀ k b,hget (tidy n H) k=some b → k < n:=fun k b hk=>tidy_lt _ _ hk
 by_cases h0:ts=[]
 · subst h0
   have hF:=hF rfl
   subst hF
   have ha:af (vf (.agg ⟨[.string s,outrV true o 0]⟩))=true:=by rw [hvf]; rfl
   have h3:AC P f args (tidy n H) n (vf (.agg ⟨[.string s,outrV true o 0]⟩)) (tidy n H) n:=hAC.tidy ha fun k b hk=>h2 k b hTlt hk (hM.sub k b hk)
   exact ⟨_,H,n,AC.tidied (B:=[]) (by simp) h3,⟨[],rfl,by simp,rfl⟩,Nat.le_refl _,rfl⟩
 · have ha:af (vf (.agg ⟨[.string s,outrV F o ts.length]⟩))=false:=by
     rw [hvf]
     have hne:ts.length ≠ 0:=fun e=>h0 (List.length_eq_zero_iff.1 e)
     cases F with
     | true=>
       show af (.agg ⟨[.string s,outS o ts.length]⟩)=false
       rw [outS_ne hne]
       rfl
     | false=>rfl
   obtain rfl:=h1 ha
   have h3:=AC.canon hlt hAC hM.sub
   obtain ⟨N,hN⟩:∃ N,n1=N:=⟨_,rfl⟩
   refine ⟨_,_,_,h3,⟨news n H1,rfl,fun b hb=>?_,plainH_mem fun x hx=>(news_mem hx).2.1⟩,hM.big,?_⟩
   · obtain ⟨g1,_,g3⟩:=news_mem hb
     exact ⟨g1,namesOk_iff.1 hM.nm _ (hget_mem _ _ _ g3)⟩
   · refine shtV_mk (hM.view (fun k b hk hp hg=>?_) hl hls)
     rw [hget_app,news_get hg hk hp]
theorem made_shtM {P : Program} {f : FuncId} {fn : Func} {c : Code} {args : List Value} {H : Heap} {n t tb tf : Nat} {F : Bool} {s : ByteArray} {ts : List Trc} (hf : P.funcs[f]? = some fn) (hb : fn.body = some c) (he : enterable P f = true) (hlen : Nat.ble args.length fn.ntmps = true) (vs : List Nat) (hlt : ∀ k b, hget H k = some b → k < n) (hl : ts.length < 2147483648) (hls : ∀ x ∈ ts, x.smp.length < 2147483648) (hne : ts ≠ [])
   (h:E P n none c { fr:=argsFr args 0,sz:=fn.ntmps,H:=tidy n H,n,marks:=[],vs } (Ab.outM P fn fun v Z N=>∃ kb rs o,v = .agg ⟨[.string s,outrV F o ts.length]⟩ ∧ MS F (tidy n H) n t tb tf kb s ts rs Z N o)):∃ u H' n',AC P f args H n u H' n' ∧ MadeS H n H' n' u (s,ts) ∧ ∃ kb rs o,u = .agg ⟨[.string s,outrV F o ts.length]⟩ ∧ MS F (tidy n H) n t tb tf kb s ts rs H' n' o:=by
 obtain ⟨v,H1,n1,Z,hAC,⟨kb,rs,o,rfl,hM⟩,h1,h2⟩:=AC.outM hf hb he hlen vs h
 have hn0:ts.length ≠ 0:=fun e=>hne (List.length_eq_zero_iff.1 e)
 have ha:af (.agg ⟨[.string s,outrV F o ts.length]⟩)=false:=by
   cases F with
   | true=>
     show af (.agg ⟨[.string s,outS o ts.length]⟩)=false
     rw [outS_ne hn0]
     rfl
   | false=>rfl
 obtain rfl:=h1 ha
 have h3:=AC.canon hlt hAC hM.sub
 have hup:∀ k b,n ≤ k → plainB2 b=true → hget H1 k=some b → hget (news n H1 ++ H) k=some b:=fun k b hk hp hg=>by
   rw [hget_app,news_get hg hk hp]
 have hnm:namesOk n1 (news n H1 ++ H)=true:=namesOk_iff.2 fun x hx=>by
   rcases List.mem_append.1 hx with hx | hx
   · exact namesOk_iff.1 hM.nm _ (hget_mem _ _ _ (news_mem hx).2.2)
   · have hb:=hM.big
     cases hg:hget H x.1 with
     | none=>
       exfalso
       have:∀ (H:Heap),x ∈ H → hget H x.1 ≠ none:=fun H=>by
         induction H with
         | nil=>intro h; cases h
         | cons y H ih=>
           intro h
           obtain ⟨j,b⟩:=y
           rw [hget_cons]
           split
           · intro e; cases e
           · rename_i hj
             rcases List.mem_cons.1 h with e | h
             · exact absurd (by rw [e]) hj
             · exact ih h
       exact this H hx hg
     | some b=>have:=hlt _ _ hg; omega
 refine ⟨_,_,_,h3,⟨⟨news n H1,rfl,fun b hb=>?_,plainH_mem fun x hx=>(news_mem hx).2.1⟩,hM.big,?_⟩,kb,rs,o,rfl,?_⟩
 · obtain ⟨g1,_,g3⟩:=news_mem hb
   exact ⟨g1,namesOk_iff.1 hM.nm _ (hget_mem _ _ _ g3)⟩
 · exact shtV_mk (hM.view hup hl hls)
 · refine ⟨fun k b hk=>?_,hnm,hM.big,hM.len,hM.h8,fun h0=>?_,hup _ _ hM.kbn.1 rfl hM.box,hM.kbn,fun i x r hx hr=>?_,hM.sep⟩
   · rw [hget_app]
     cases hc:hget (news n H1) k with
     | none=>exact (hget_tidy.1 hk).1
     | some c=>
       have:=(news_mem (hget_mem _ _ _ hc)).1
       have:=(hget_tidy.1 hk).2.1
       dsimp only at *
       omega
   · obtain ⟨g1,g2,g3,g4⟩:=hM.out h0
     exact ⟨hup _ _ g2 outrB_pl g1,g2,g3,g4⟩
   · obtain ⟨g1,g2,g3⟩:=hM.row i x r hx hr
     refine ⟨?_,g2,g3⟩
     rcases g1 with ⟨rfl,e⟩ | ⟨m,mk,k1,k2,rfl,k3⟩
     · exact .inl ⟨rfl,e⟩
     · exact .inr ⟨m,mk,k1,k2,rfl,hup _ _ k1 rowV_pl k3⟩
theorem Kp.write {B H:Heap} {b N:Nat} {fs:List (Nat × Blk)} (h:Kp B b fs H N) {m:Nat} {x:Blk} (hB:hget B m=none) (hf:∀ (i:Nat) y,fs[i]? = some y → y.1 ≠ m):Kp B b fs (hset H m x) N:=
 ⟨sub_hset h.sub hB,namesOk_hset h.nm,h.big,h.bl,h.low,h.nd,fun i y hy=>by
   rw [hget_hset,if_neg fun e=>hf i y hy e.symm]
   exact h.at' i y hy⟩
@[simp] theorem handA_nn:∀ H:Heap,handA [] [] H=[]
 | []=>rfl
 | (k,b) :: H=>by simp only [handA,memN,handA_nn H]
theorem storeA_form {H H':Heap} {b off:Nat} {vs:List Value} (h:storeA H b off vs=some H'):∃ x,H'=hset H b x:=by
 unfold storeA at h
 split at h
 · split at h
   · injection h with h; exact ⟨_,h.symm⟩
   · cases h
 · split at h
   · injection h with h; exact ⟨_,h.symm⟩
   · cases h
 · cases h
theorem RowOk.wide {tf:Nat} {H G:Heap} {n N N':Nat} {r:Value} {bs:List Nat} (h:RowOk tf H n N r bs) (hs:Sub H G) (hN:N ≤ N'):RowOk tf G n N' r bs:=by
 rcases h with ⟨rfl,rfl⟩ | ⟨m,mk,h1,h2,rfl,h3⟩
 · exact .inl ⟨rfl,rfl⟩
 · exact .inr ⟨m,mk,h1,by omega,rfl,hs _ _ h3⟩
theorem RowOk.low {tf:Nat} {H:Heap} {n n' N:Nat} {r:Value} {bs:List Nat} (h:RowOk tf H n N r bs) (hn:n' ≤ n):RowOk tf H n' N r bs:=by
 rcases h with ⟨rfl,rfl⟩ | ⟨m,mk,h1,h2,rfl,h3⟩
 · exact .inl ⟨rfl,rfl⟩
 · exact .inr ⟨m,mk,by omega,h2,rfl,h3⟩
section
variable {F:Bool} {L Hx G:Heap} {n t tb tf kb N N' o:Nat} {s:ByteArray} {ts:List Trc} {rs:List Value}
theorem MS.wide (h:MS F L n t tb tf kb s ts rs Hx N o) (hs:Sub Hx G) (hn:namesOk N' G=true) (hN:N ≤ N'):MS F L n t tb tf kb s ts rs G N' o:=by
 have hb:=h.big
 have hk:=h.kbn
 refine ⟨h.sub.trans hs,hn,by omega,h.len,h.h8,fun h0=>?_,hs _ _ h.box,by omega,fun i x r hx hr=>?_,h.sep⟩
 · obtain ⟨h1,h2,h3,h4⟩:=h.out h0
   exact ⟨hs _ _ h1,h2,by omega,h4⟩
 · obtain ⟨h1,h2,h3⟩:=h.row i x r hx hr
   exact ⟨h1.wide hs hN,h2,h3⟩
theorem MS.tidy (h:MS F L n t tb tf kb s ts rs Hx N o) (hL:∀ k b,hget L k=some b → k < N ∧ plainB2 b=true):MS F L n t tb tf kb s ts rs (Ab.tidy N Hx) N o:=by
 have hb:=h.big
 have hk:=h.kbn
 refine ⟨fun k b hk=>hget_tidy.2 ⟨h.sub k b hk,(hL k b hk).1,(hL k b hk).2⟩,namesOk_tidy,hb,h.len,h.h8,fun h0=>?_,hget_tidy.2 ⟨h.box,hk.2,rfl⟩,hk,fun i x r hx hr=>?_,h.sep⟩
 · obtain ⟨h1,h2,h3,h4⟩:=h.out h0
   exact ⟨hget_tidy.2 ⟨h1,h3,outrB_pl⟩,h2,h3,h4⟩
 · obtain ⟨h1,h2,h3⟩:=h.row i x r hx hr
   refine ⟨?_,h2,h3⟩
   rcases h1 with ⟨rfl,e⟩ | ⟨m,mk,g1,g2,rfl,g3⟩
   · exact .inl ⟨rfl,e⟩
   · exact .inr ⟨m,mk,g1,g2,rfl,hget_tidy.2 ⟨g3,g2,rowV_pl⟩⟩
theorem MS.at9 (h:MS F L n t tb tf kb s ts rs Hx N o) {i:Nat} {x:Trc} {r:Value} (hx:ts[i]? = some x) (hr:rs[i]? = some r):cellA Hx o (i * 10 + 9)=some r ∧ cellA Hx o (i * 10 + 8)=some (.bool x.hole):=by
 have hne:ts ≠ []:=fun e=>by rw [e] at hx; cases hx
 obtain ⟨h1,_⟩:=h.out hne
 have h8:=h.h8 x (List.mem_of_getElem? hx)
 have h2:=tcs_at i hx hr h.h8
 have one:∀ j,j < 10 → (tcs ts rs)[i * 10 + j]? = (tc x r)[j]?:=fun j hj=>by
   rw [← h2,List.getElem?_take,if_pos hj,List.getElem?_drop]
 have c:∀ j,cellA Hx o j=(tcs ts rs)[j]?:=fun j=>by
   rw [cellA_eq,h1]
   cases F <;> rfl
 rw [c,c,one 9 (by decide),one 8 (by decide),tc,List.getElem?_append_right (by rw [List.length_map]; omega),List.getElem?_append_right (by rw [List.length_map]; omega),List.length_map,h8]
 exact ⟨rfl,rfl⟩
end
end Go.Ab
namespace Go.Proofs.YtkongcnmkiihjaaGreatDoor
open Go Go.Ab Go.Proofs
def widN (ts:List Trc):Nat:=(widF ts).1.toNat
theorem shut_nm {N:Nat}:∀ (ms:List Nat) {H H2:Heap},shutA ms H=some H2 → namesOk N H=true → namesOk N H2=true
 | [],H,H2,h,hn=>by
   unfold shutA at h
   injection h with h
   rw [← h]; exact hn
 | m :: ms,H,H2,h,hn=>by
   unfold shutA at h
   split at h
   · exact shut_nm ms h (namesOk_hdel hn)
   · cases h
end Go.Proofs.YtkongcnmkiihjaaGreatDoor
