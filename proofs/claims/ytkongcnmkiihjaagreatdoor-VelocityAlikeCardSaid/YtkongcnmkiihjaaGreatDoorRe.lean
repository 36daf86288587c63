/-
Contracts and plain reckonings behind the law VelocityAlike, part 5 of 8 (each under the conditions in its statement).
-/
import Derived.Test.YtkongcnmkiihjaaGreatDoorRd
import Derived.Test.YtkongcnmkiihjaaGreatDoorRa
import Derived.Test.YtkongcnmkiihjaaGreatDoorAf
import Derived.Test.YtkongcnmkiihjaaGreatDoorRb
namespace Go.Proofs.YtkongcnmkiihjaaGreatDoor
open Go Go.Ab Go.Proofs
theorem tcs_hole {ts:List Trc} {rs:List Value} (i:Nat) {x:Trc} {r:Value} (hx:ts[i]? = some x) (hr:rs[i]? = some r) (h8:∀ x ∈ ts,x.hd.length=8):(tcs ts rs)[i * 10 + 8]? = some (.bool x.hole):=by
 have h2:=tcs_at i hx hr h8
 have h:=h8 x (List.mem_of_getElem? hx)
 have:(tcs ts rs)[i * 10 + 8]? = (tc x r)[8]?:=by rw [← h2,List.getElem?_take,if_pos (by decide),List.getElem?_drop]
 rw [this,tc,List.getElem?_append_right (by rw [List.length_map]; omega),List.length_map,h]
 rfl
theorem corG_zero {ts:List Trc} {w st:Int} {W:Nat} {i:Nat} {x:Trc} (h:ts[i]? = some x):(corG ts w st W (dn 0 0))[i]? = some ⟨x.hd,x.hole,if x.hole then [] else List.replicate W 0⟩:=by
 rw [corG_at h]
 congr 2
 split
 · rfl
 · refine List.eq_replicate_iff.2 ⟨by simp,fun b hb=>?_⟩
   obtain ⟨t,_,rfl⟩:=List.mem_map.1 hb
   simp [dn]
theorem shut_nm {N:Nat}:∀ (ms:List Nat) {H H2:Heap},shutA ms H=some H2 → namesOk N H=true → namesOk N H2=true
 | [],H,H2,h,hn=>by
   unfold shutA at h
   injection h with h
   rw [← h]; exact hn
 | m :: ms,H,H2,h,hn=>by
   unfold shutA at h
   split at h
   · exact shut_nm ms h (namesOk_hdel hn)
   · cases h
abbrev fs60a (n:Nat) (s:ByteArray) (L:Nat) (ts:List Trc) (rs:List Value):List (Nat × Blk):=[(n + 5,.cells [.string s,.slice (some ⟨n + 4,0,none⟩) L L] 110),(n + 4,.cells (tcs ts rs) 159)]
set_option maxHeartbeats 6400000 in
set_option maxRecDepth 100000 in
theorem w60 {H:Heap} {n:Nat} {v:Value} {s:ByteArray} {ts:List Trc} {w st:Int} (hR:dR H) (hv:shtV H v=some (s,ts)) (hlt:∀ k b,hget H k=some b → k < n) (h9:9 ≤ n):∃ u H' n',AC Tryz.prog 60 [v,iv w,iv st] H n (.tuple #[u,iv (corE s ts w st)]) H' n' ∧ MadeS H n H' n' u (corR s ts w st):=by
 replace hv:=shtV_tidy (n:=n) hlt hv
 have h1n:1 < n:=by omega
 replace hR:hget (tidy n H) 1=some (.inp 0 rangesV):=hget_tidy.2 ⟨hR,h1n,rfl⟩
 have hr:=recT_ok (P:=Tryz.prog) (l:=[(131,g131),(92,g92),(98,g98),(90,g90)]) (by simp only [List.forall_mem_cons]; exact ⟨ok131,ok92,ok98,ok90,by simp⟩)
 have hr0:=recT_ok (P:=Tryz.prog) (l:=[]) (by simp)
 have hv0:=hv
 obtain ⟨u,rfl,ht⟩:=shtV_form hv
 obtain ⟨oa,c,rfl,hlt31,_,_⟩:=trcV_form ht
 have hT:∀ j,n ≤ j → hget (tidy n H) j=none:=fun j hj=>by
   cases hc:hget (tidy n H) j with
   | none=>rfl
   | some b=>exact absurd (tidy_lt _ _ hc) (by omega)
 have hTp:∀ k b,hget (tidy n H) k=some b → k < n ∧ plainB2 b=true:=fun k b hk=>⟨(hget_tidy.1 hk).2.1,(hget_tidy.1 hk).2.2⟩
 have hTl:∀ k b,hget (tidy n H) k=some b → k < n:=fun k b hk=>(hTp k b hk).1
 have hRL:corR s ts w st=if corE s ts w st=0 then (s,corG ts w st (widN ts) (dn (widN ts) 0)) else (⟨#[]⟩,[]):=rfl
 have hE:corE s ts w st=firstV [shtE s ts,velV w,withinV st 0 1024]:=rfl
 have hsh:shtE s ts=0 → OkS ts:=shtE_ok
 obtain ⟨x0,hx0⟩:∃ x,corR s ts w st=x:=⟨_,rfl⟩
 rw [hx0] at hRL ⊢
 obtain ⟨s',ts'⟩:=x0
 have hlens:ts'.length < 2147483648 ∧ ∀ x ∈ ts',x.smp.length < 2147483648:=by
   by_cases hz:corE s ts w st=0
   · rw [if_pos hz] at hRL
     injection hRL with h1 h2
     subst h1 h2
     have hok:=hsh (firstc (hE.symm.trans hz)).1
     refine ⟨by rw [corG_len]; omega,fun x hx=>?_⟩
     obtain ⟨i,hi,rfl⟩:=List.getElem_of_mem hx
     rw [corG_len] at hi
     have:=corG_at (w:=w) (st:=st) (W:=widN ts) (d:=dn (widN ts) 0) (List.getElem?_eq_getElem hi)
     rw [List.getElem?_eq_getElem (by rw [corG_len]; exact hi)] at this
     injection this with this
     rw [this]
     dsimp only
     have hw0:=hok.w0
     have:widN ts ≤ 1024:=by unfold widN; omega
     split
     · simp
     · simp; omega
   · rw [if_neg hz] at hRL
     injection hRL with h1 h2
     subst h1 h2
     exact ⟨by simp,by simp⟩
 refine made_sht (vf:=fun u=>.tuple #[u,iv (corE s ts w st)]) Tryz.func60 rfl (by kernel_rfl) rfl vs60 hlt (fun u=>by cases u <;> simp [af,afL]) hlens.1 hlens.2 ?_
 have hWd:widE s ts=if shtE s ts=0 then (widF ts).1 else 0:=rfl
 obtain ⟨X,hX⟩:∃ X,(n + 1,Blk.cells [.string ⟨#[]⟩,.slice none 0 0] 110) :: (n,Blk.cells [.string s,.slice oa ts.length c] 110) :: tidy n H=X:=⟨_,rfl⟩
 have hS:Sub (tidy n H) X:=by rw [← hX]; exact (Sub.cons (hT _ (Nat.le_refl _)) (Sub.refl _)).trans (Sub.cons (by rw [hget_cons,if_neg (by omega)]; exact hT _ (by omega)) (Sub.refl _))
 have hnm:namesOk (n + 2) X=true:=by rw [← hX]; exact namesOk_put (by omega) (namesOk_put (by omega) (by simp))
 have hbx:hget X n=some (.cells [.string s,.slice oa ts.length c] 110):=by rw [← hX,hget_cons,if_neg (by omega),hget_cons,if_pos rfl]
 have hbr:hget X (n + 1)=some (.cells [.string ⟨#[]⟩,.slice none 0 0] 110):=by rw [← hX,hget_cons,if_pos rfl]
 have hXlt:∀ k b,hget X k=some b → k < n + 2:=fun k b hk=>namesOk_iff.1 hnm (k,b) (hget_mem _ _ _ hk)
 have hXn:∀ j,n + 2 ≤ j → hget X j=none:=fun j hj=>by
   cases hc:hget X j with
   | none=>rfl
   | some b=>exact absurd (hXlt _ _ hc) (by omega)
 have hld:=load110 hbx
 have hRX:dR X:=hS _ _ hR
 have h131:∀ m,g131 [.agg ⟨[.string s,.slice oa ts.length c]⟩] X m=some (.tuple #[.agg ⟨[.string s,.slice oa ts.length c,iv (widE s ts)]⟩,iv (shtE s ts)],X,m):=fun m=>by
   simp only [g131,shtV_mono hS hv0,hRX,and_self,if_true]
 obtain ⟨W,hW⟩:∃ W,widE s ts=W:=⟨_,rfl⟩
 obtain ⟨e0,he0⟩:∃ e,shtE s ts=e:=⟨_,rfl⟩
 obtain ⟨el,hel⟩:∃ e,corE s ts w st=e:=⟨_,rfl⟩
 rw [hW] at h131 hWd
 rw [he0] at h131 hE hsh hWd
 rw [hel] at hE hRL ⊢
 have hI3:∀ (N:Nat) (Y:Heap) m,g90 [.slice (some ⟨N,0,none⟩) 3 3] ((N,.cells [iv e0,iv (velV w),iv (withinV st 0 1024)] 29) :: Y) m=some (iv el,(N,.cells [iv e0,iv (velV w),iv (withinV st 0 1024)] 29) :: Y,m):=fun N Y m=>by
   simp [g90,intsAt,intsOf,hE]
 refine E.seq (E.reg hr (by simp; rfl) ?_)
 rw [hX]
 refine E.seq (E.reg hr (by simp [-loadA,hld,h131]; rfl) ?_)
 refine E.seq (E.seq ?_)
 have h92:∀ Y m,g92 [iv w] Y m=some (iv (velV w),Y,m):=fun _ _=>rfl
 have h98:∀ Y m,g98 [iv st] Y m=some (iv (withinV st 0 1024),Y,m):=fun _ _=>rfl
 refine E.reg hr (by simp [h92,h98,hI3]; rfl) ?_
 obtain ⟨G,hG⟩:∃ G,(n + 2,Blk.cells [.string s,.slice oa ts.length c,iv W] 196) :: X=G:=⟨_,rfl⟩
 have hXG:Sub X G:=by rw [← hG]; exact Sub.cons (hXn _ (Nat.le_refl _)) (Sub.refl _)
 have hSG:=hS.trans hXG
 have hGnm:namesOk (n + 3) G=true:=by rw [← hG]; exact namesOk_put (by omega) (namesOk_mono (by omega) _ hnm)
 have hGlt:∀ k b,hget G k=some b → k < n + 3:=fun k b hk=>namesOk_iff.1 hGnm (k,b) (hget_mem _ _ _ hk)
 have hGb:hget G (n + 2)=some (.cells [.string s,.slice oa ts.length c,iv W] 196):=by rw [← hG,hget_cons,if_pos rfl]
 have hGr:=hXG _ _ hbr
 have hGx:=hXG _ _ hbx
 have hGn:∀ j,n + 3 ≤ j → hget G j=none:=fun j hj=>by
   cases hc:hget G j with
   | none=>rfl
   | some b=>exact absurd (hGlt _ _ hc) (by omega)
 refine E.lead { fr:=[(1,iv w),(2,iv st),(3,ptA n),(6,ptA (n + 1)),(8,ptA (n + 2)),(10,iv el)],sz:=95,H:=G,n:=n + 4,marks:=[],vs:=vs60 } (.keep rfl rfl rfl (by simp) (by rw [← hG]; exact Sub.cons (by rw [hget_cons,if_neg (by omega)]; exact hXn _ (by omega)) (Sub.refl _))) ?_
 refine E.seq (E.reg hr0 (by simp; rfl) ?_)
 by_cases hz:el=0
 rotate_left
 · rw [if_neg hz] at hRL
   injection hRL with g1 g2
   subst g1 g2
   have hst:storeA G (n + 1) 0 [.string ⟨#[]⟩,.slice none 0 0]=some (hset G (n + 1) (.cells [.string ⟨#[]⟩,.slice none 0 0] 110)):=store_all hGr rfl
   have hfin:=load110 (H:=hset G (n + 1) (.cells [.string ⟨#[]⟩,.slice none 0 0] 110)) (n:=n + 1) (s:=⟨#[]⟩) (u:=.slice none 0 0) (by rw [hget_hset,if_pos rfl,hGr]; rfl)
   refine E.cond (t:=true) (by simp [hz]) (fun _=>?_) (fun h=>by cases h)
   refine E.seq (E.reg hr0 (by simp [-storeA,build110z,hst]; rfl) ?_)
   refine E.ret ?_
   show Ab.outM Tryz.prog Tryz.f60 (fun v Z N=>∃ F t tb tf kb rs o,v = .tuple #[.agg ⟨[.string ⟨#[]⟩,outrV F o 0]⟩,iv el] ∧ (([]:List Trc)=[] → F=true) ∧ MS F (tidy n H) n t tb tf kb ⟨#[]⟩ [] rs Z N o) .ret _
   refine outM.ret (hset G (n + 1) (.cells [.string ⟨#[]⟩,.slice none 0 0] 110)) rfl (vs:=[.agg ⟨[.string ⟨#[]⟩,.slice none 0 0]⟩,iv el]) (by simp [-loadA,resultsA,resultA,Tryz.results60,hfin]) ⟨true,0,110,0,n + 1,[],n,rfl,fun _=>rfl,sub_hset hSG (hT _ (by omega)),namesOk_hset (namesOk_mono (n:=n + 3) (m:=n + 4) (by omega) _ hGnm),by show n ≤ n + 4; omega,rfl,by simp,fun h=>absurd rfl h,?_,by show n ≤ n + 1 ∧ n + 1 < n + 4; omega,fun i x r hx=>by simp at hx,fun i j r q _ hr=>by simp at hr⟩
   rw [hget_hset,if_pos rfl,hGr]
   rfl
 rw [if_pos hz] at hRL
 injection hRL with g1 g2
 have g1:=g1.symm
 subst g1 g2
 rw [hz] at hE
 obtain ⟨f1,f2,f3⟩:=firstc hE.symm
 rw [if_pos f1] at hWd
 have hok:=hsh f1
 have g3:1 ≤ w ∧ w ≤ 1000000000:=within_zero f2
 have g4:=within_zero f3
 have hw0:=hok.w0
 have h64:=hok.len
 obtain ⟨M,hM⟩:∃ M,widN ts=M:=⟨_,rfl⟩
 have hMW:W=(M:Int):=by rw [← hM,hWd]; unfold widN; omega
 have hM1024:M ≤ 1024:=by omega
 have hne:ts ≠ []:=fun e=>by rw [e] at h64; simp at h64
 rw [hM]
 rw [hMW] at hGb
 obtain ⟨a,ha⟩:∃ a,oa=some a:=by
   obtain ⟨_,_,e,_,_,hrow⟩:=trcV_form ht
   injection e with e1 e2 e3
   obtain ⟨a,q,e,_⟩:=hrow 0 (by omega)
   exact ⟨a,e1.trans e⟩
 subst ha
 obtain ⟨hfa,qs,hql,hqc,hq8,hqr⟩:=trc_cells_all ht hne
 have hqs:∀ r ∈ qs,isS r=true:=fun r hr=>by
   obtain ⟨i,hi,rfl⟩:=List.getElem_of_mem hr
   obtain ⟨oq,cq,e,_⟩:=reaV_form (hqr i _ ts[i] (List.getElem?_eq_getElem hi) (List.getElem?_eq_getElem (by omega)))
   rw [e]; rfl
 refine E.cond (t:=false) (by simp [hz]) (fun h=>by cases h) (fun _=>?_)
 refine E.skip (E.seq ?_)
 have hc0:cellA G n 0=some (.string s):=by rw [cellA_eq,hGx]; rfl
 have hc1:cellA G n 1=some (.slice (some a) ts.length c):=by rw [cellA_eq,hGx]; rfl
 have hGnm4:namesOk (n + 4) G=true:=namesOk_mono (by omega) _ hGnm
 have hGnm5:namesOk (n + 4 + 1) G=true:=namesOk_mono (by omega) _ hGnm
 have hGnm6:namesOk (n + 4 + 1 + 1) G=true:=namesOk_mono (by omega) _ hGnm
 have hmk:=fun (fr:Fr) (H:Heap) (m:Nat) (h:evO Tryz.prog fr (.tmp 36)=some (iv ts.length))=>mk108' (fr:=fr) (H:=H) (n:=m) (x:=.tmp 36) (y:=.tmp 36) h64.2 h h
 have hbd:=fun (fr:Fr) (H:Heap) (m:Nat) (h1:evO Tryz.prog fr (.tmp 33)=some (.string s)) (h2:evO Tryz.prog fr (.tmp 37)=some (.slice (some ⟨n + 4,0,none⟩) ts.length ts.length))=>build110 (fr:=fr) (H:=H) (n:=m) h1 h2
 refine E.drawU mixed hr0 [8] [5,7,8] [1,3,5,8] (by kernel_rfl) (by simp [-cellA,-readA,cellA_read,hGnm4,hGnm6,hc0,hc1,hmk,hbd]; rfl) ?_
 obtain ⟨G5,hG5⟩:∃ G5,(n + 5,Blk.cells [.string s,.slice (some ⟨n + 4,0,none⟩) ts.length ts.length] 110) :: (n + 4,.cells (zs108 ts.length) 159) :: G=G5:=⟨_,rfl⟩
 have hGG5:Sub G G5:=by
   intro k b hk
   have:=hGlt _ _ hk
   rw [← hG5,hget_cons,if_neg (by omega),hget_cons,if_neg (by omega)]
   exact hk
 have hn5:namesOk (n + 6) G5=true:=by rw [← hG5]; exact namesOk_put (by omega) (namesOk_put (by omega) (namesOk_mono (by omega) _ hGnm))
 have h5b:hget G5 (n + 5)=some (.cells [.string s,.slice (some ⟨n + 4,0,none⟩) ts.length ts.length] 110):=by rw [← hG5]; simp
 have h5z:hget G5 (n + 4)=some (.cells (zs108 ts.length) 159):=by rw [← hG5]; simp
 refine E.lead { fr:=[(1,iv w),(2,iv st),(3,ptA n),(6,ptA (n + 1)),(8,ptA (n + 2)),(11,ptA (n + 5))],sz:=95,H:=G5,n:=n + 6,marks:=[],vs:=vs60 } (.keep rfl rfl rfl (by simp) (by rw [← hG5]; exact Sub.refl _)) ?_
 have d1:cellA G5 (n + 5) 1=some (.slice (some ⟨n + 4,0,none⟩) ts.length ts.length):=by rw [cellA_eq,h5b]; rfl
 have d2:cellA G5 n 1=some (.slice (some a) ts.length c):=by rw [cellA_eq,hGG5 _ _ hGx]; rfl
 have hcp:=fun m=>copy108 (Y:=G5) (o:=n + 4) (m:=m) (c:=c) (a:=a) (ts:=ts) (rs:=qs) (zs:=zs108 ts.length) hfa hne h5z (zs108_len _) hql hq8 ((hSG.trans hGG5).cells hqc) hqs
 refine E.seq (E.reg hr0 (by simp [-cellA,-builtinA,d1,d2,hcp]; rfl) ?_)
 have hkp:Kp G (n + 6) (fs60a n s ts.length ts qs) (hset G5 (n + 4) (.cells (tcs ts qs) 159)) (n + 6):=
   (((Kp.start (fun k b hk=>by have:=hGlt _ _ hk; omega) hGG5 hn5 (Nat.le_refl _)).more h5z (by omega) (hGn _ (by omega)) (by simp)).more h5b (by omega) (hGn _ (by omega)) (by simp)).put 1 rfl (.cells (tcs ts qs) 159)
 obtain ⟨G6,hG6⟩:∃ G6,hset G5 (n + 4) (.cells (tcs ts qs) 159)=G6:=⟨_,rfl⟩
 rw [hG6] at hkp ⊢
 have e1:cellA G6 (n + 5) 1=some (.slice (some ⟨n + 4,0,none⟩) ts.length ts.length):=hkp.cell 0 rfl 1
 refine E.seq (E.seq (E.reg hr0 (by simp [-cellA,e1]; rfl) ?_))
 refine E.block (E.loop ?_)
 refine EL.ind (fun x:Nat × Heap × Nat × List Value=>{ fr:=[(1,iv w),(2,iv st),(6,ptA (n + 1)),(8,ptA (n + 2)),(11,ptA (n + 5)),(46,iv ts.length),(47,iv x.1)],sz:=95,H:=x.2.1,n:=x.2.2.1,marks:=[],vs:=vs60 }) (fun x=>ts.length - x.1) (fun x=>x.1 ≤ ts.length ∧ Kp G (n + 6) (fs60a n s ts.length ts x.2.2.2) x.2.1 x.2.2.1 ∧ RP (n + 6) ts M x.1 x.2.2.2 x.2.1 x.2.2.1) (0,G6,n + 6,qs) (.keep rfl rfl rfl (by simp) (Sub.refl _)) ⟨Nat.zero_le _,hkp,RP.start hql⟩ (fun _=>rfl) ?_
 rintro ⟨i,Hx,N,rs⟩ ⟨hi,hK,hP⟩
 dsimp only at hi hK hP ⊢
 have hbig:=hK.big
 have hw:IntKind.i64.wrap ((i:Int) + 1)=(i:Int) + 1:=W_in (by omega) (by omega)
 refine E.seq (E.reg hr0 (by simp; rfl) ?_)
 refine E.seq ?_
 by_cases hil:i < ts.length
 · refine E.cond (t:=true) (by simp [hil]) (fun _=>?_) (fun h=>by cases h)
   have hir:i < rs.length:=by rw [← hP.len]; exact hil
   have hlen10:=tcs_len hP.len hq8
   have hi9:i * 10 + 9 < (tcs ts rs).length:=by omega
   have c1:cellA Hx (n + 5) 1=some (.slice (some ⟨n + 4,0,none⟩) ts.length ts.length):=hK.cell 0 rfl 1
   have s1:=store_at (v:=.slice none 0 0) (hK.at' 1 _ rfl) hi9
   rw [tcs_set i hP.len hq8 hil] at s1
   have hK1:=hK.put 1 rfl (.cells (tcs ts (rs.set i (.slice none 0 0))) 159)
   have hP1:=hP.next (N':=N) (Hy:=hset Hx (n + 4) (.cells (tcs ts (rs.set i (.slice none 0 0))) 159)) (v:=.slice none 0 0) (x:=⟨ts[i].hd,true,[]⟩)
   obtain ⟨Hy,hHy⟩:∃ Hy,hset Hx (n + 4) (.cells (tcs ts (rs.set i (.slice none 0 0))) 159)=Hy:=⟨_,rfl⟩
   rw [hHy] at s1 hK1
   have c2:cellA Hy (n + 5) 1=some (.slice (some ⟨n + 4,0,none⟩) ts.length ts.length):=hK1.cell 0 rfl 1
   have c3:cellA Hy (n + 4) (i * 10 + 8)=some (.bool ts[i].hole):=by
     have:cellA Hy (n + 4) (i * 10 + 8)=_:=hK1.cell 1 rfl (i * 10 + 8)
     rw [this]
     exact tcs_hole i (List.getElem?_eq_getElem hil) (List.getElem?_eq_getElem (by rw [List.length_set]; exact hir)) hq8
   have hkeep:∀ m b,n + 6 ≤ m → m < N → hget Hx m=some b → hget Hy m=some b:=fun m b h1 h2 h3=>by
     rw [← hHy,hget_hset,if_neg (by omega)]; exact h3
   refine E.skip (E.seq ?_)
   refine E.block (E.seq (E.reg hr0 (by simp; rfl) ?_))
   refine E.seq (E.reg hr0 (by simp [-cellA,-storeA,c1,hil,s1]; rfl) ?_)
   refine E.seq (E.reg hr0 (by simp [-cellA,c2,hil,c3]; rfl) ?_)
   cases hho:ts[i].hole with
   | true=>
     refine E.cond (t:=false) (by simp) (fun h=>by cases h) (fun _=>?_)
     refine E.skip (E.reg hr0 (by simp [hw]; rfl) ?_)
     exact ⟨(i + 1,Hy,N,rs.set i (.slice none 0 0)),.keep rfl rfl rfl (by simp) (Sub.refl _),⟨hil,hK1,hP.next (List.getElem?_eq_getElem hil) (Nat.le_refl _) hkeep (by rw [hho]; exact .inl ⟨rfl,rfl⟩) (fun m h=>by cases h)⟩,by dsimp only; omega⟩
   | false=>
     refine E.cond (t:=true) (by simp) (fun _=>?_) (fun h=>by cases h)
     have hlen10':(tcs ts (rs.set i (.slice none 0 0))).length=ts.length * 10:=tcs_len (by rw [List.length_set]; exact hP.len) hq8
     have hK2:=hK1.skip (.cells ((List.replicate M 0).map rv) 145)
     have s2:=store_at (v:=.slice (some ⟨N,0,none⟩) M M) (hK2.at' 1 _ rfl) (i:=i * 10 + 9) (by omega)
     rw [tcs_set i (by rw [List.length_set]; exact hP.len) hq8 hil,List.set_set] at s2
     have hK3:=hK2.put 1 rfl (.cells (tcs ts (rs.set i (.slice (some ⟨N,0,none⟩) M M))) 159)
     have hnmy:=hK1.nm
     have hN4:¬ N=n + 4:=by omega
     have hcons:∀ x,hset ((N,Blk.cells ((List.replicate M 0).map rv) 145) :: Hy) (n + 4) x=(N,Blk.cells ((List.replicate M 0).map rv) 145) :: hset Hy (n + 4) x:=fun x=>by simp [hN4]
     rw [hcons] at s2 hK3
     have hnmy2:∀ b,namesOk (N + 1) (hset Hy (n + 4) b)=true:=fun b=>namesOk_hset (namesOk_mono (Nat.le_succ _) _ hnmy)
     have hnmy1:namesOk (N + 1) Hy=true:=namesOk_mono (Nat.le_succ _) _ hnmy
     have cW:cellA Hy (n + 2) 2=some (iv M):=by rw [cellA_eq,hK1.sub _ _ hGb]; rfl
     have l1:n + 5 < N:=by omega
     have l2:n + 2 < N:=by omega
     have hmk2:=fun (fr:Fr) (H:Heap) (m:Nat) (h:evO Tryz.prog fr (.tmp 66)=some (iv M))=>mk126 (fr:=fr) (H:=H) (n:=m) (x:=.tmp 66) (y:=.tmp 66) hM1024 h h
     refine E.drawU mixed hr0 [8] [5,8] [1,4,5,8] (by kernel_rfl) (by simp [-cellA,-readA,-storeA,-List.map_replicate,cellA_read,l1,l2,hnmy,hnmy2,c2,cW,hil,hmk2,s2]; rfl) ?_
     obtain ⟨Hw,hHw⟩:∃ Hw,(N,Blk.cells ((List.replicate M 0).map rv) 145) :: hset Hy (n + 4) (.cells (tcs ts (rs.set i (.slice (some ⟨N,0,none⟩) M M))) 159)=Hw:=⟨_,rfl⟩
     rw [hHw] at hK3
     refine E.lead { fr:=[(1,iv w),(2,iv st),(6,ptA (n + 1)),(8,ptA (n + 2)),(11,ptA (n + 5)),(46,iv ts.length),(47,iv i)],sz:=95,H:=Hw,n:=N + 1,marks:=[],vs:=vs60 } (.keep rfl rfl rfl (by simp) (by rw [← hHw]; exact Sub.refl _)) ?_
     refine E.reg hr0 (by simp [hw]; rfl) ?_
     refine ⟨(i + 1,Hw,N + 1,rs.set i (.slice (some ⟨N,0,none⟩) M M)),.keep rfl rfl rfl (by simp) (Sub.refl _),⟨hil,hK3,hP.next (N':=N + 1) (List.getElem?_eq_getElem hil) (Nat.le_succ _) (fun m b h1 h2 h3=>?_) ?_ (fun m h=>?_)⟩,by dsimp only; omega⟩
     · rw [← hHw,hget_cons,if_neg (by omega),hget_hset,if_neg (by omega)]; exact hkeep m b h1 h2 h3
     · rw [hho]
       refine .inr ⟨N,true,by omega,by omega,?_,?_⟩
       · show Value.slice (some ⟨N,0,none⟩) M M = .slice (some ⟨N,0,none⟩) (List.replicate M 0).length (List.replicate M 0).length
         rw [List.length_replicate]
       rw [← hHw,hget_cons,if_pos rfl]
       rfl
     · have h:some N=some m:=h
       injection h with h; omega
 · have hil':i=ts.length:=by omega
   subst hil'
   refine E.cond (t:=false) (by simp) (fun h=>by cases h) (fun _=>?_)
   refine E.lead { fr:=[(1,iv w),(2,iv st),(6,ptA (n + 1)),(8,ptA (n + 2)),(11,ptA (n + 5))],sz:=95,H:=Hx,n:=N,marks:=[],vs:=vs60 } (.keep rfl rfl rfl (by simp) (Sub.refl _)) ?_
   refine E.exit ?_
   have hrlt:∀ (j:Nat) r m,rs[j]? = some r → nmO r=some m → n + 6 ≤ m ∧ m < N:=fun j r m hr hm=>by
     have hj:j < ts.length:=by have:=(List.getElem?_eq_some_iff.1 hr).1; rw [hP.len]; exact this
     exact (hP.row j _ r hj (List.getElem?_eq_getElem hj) hr).lt hm
   have hMS:MS false (tidy n H) n 159 110 145 (n + 5) s (corG ts w st M (dn 0 0)) rs Hx N (n + 4):=by
     refine ⟨hSG.trans hK.sub,hK.nm,by omega,by rw [corG_len]; exact hP.len,fun y hy=>?_,fun _=>⟨?_,by omega,by omega,by omega⟩,?_,by omega,fun j y r hy hr=>?_,fun j k r q hjk hr hq=>?_⟩
     · obtain ⟨j,hj,rfl⟩:=List.getElem_of_mem hy
       rw [corG_len] at hj
       have:=corG_at (w:=w) (st:=st) (W:=M) (d:=dn 0 0) (List.getElem?_eq_getElem hj)
       rw [List.getElem?_eq_getElem (by rw [corG_len]; exact hj)] at this
       injection this with this
       rw [this]
       exact hq8 ts[j] (List.getElem_mem hj)
     · rw [hK.at' 1 _ rfl]
       show some (Blk.cells (tcs ts rs) 159)=some (Blk.cells (tcs (corG ts w st M (dn 0 0)) rs) 159)
       have e:=tcs_smp (ts:=ts) (us:=corG ts w st M (dn 0 0)) (rs:=rs) corG_len.symm fun j x y hx hy=>by
         rw [corG_at hx] at hy
         injection hy with hy
         rw [← hy]
         exact ⟨rfl,rfl⟩
       rw [e]
     · rw [hK.at' 0 _ rfl,corG_len]
       rfl
     · have hj:j < ts.length:=by have:=(List.getElem?_eq_some_iff.1 hr).1; rw [hP.len]; exact this
       rw [corG_zero (List.getElem?_eq_getElem hj)] at hy
       injection hy with hy
       subst hy
       have:=hP.row j _ r hj (List.getElem?_eq_getElem hj) hr
       refine ⟨this.low (by omega),fun e=>?_,fun _ e=>?_⟩
       · have:=hrlt j r _ hr e; omega
       · have:=hrlt j r _ hr e; omega
     · have hj:j < ts.length:=by have:=(List.getElem?_eq_some_iff.1 hr).1; rw [hP.len]; exact this
       have hk:k < ts.length:=by have:=(List.getElem?_eq_some_iff.1 hq).1; rw [hP.len]; exact this
       exact hP.sep j k r q hj hk hjk hr hq
   have cW:cellA Hx (n + 2) 2=some (iv M):=by rw [cellA_eq,hK.sub _ _ hGb]; rfl
   refine E.seq (E.seq (E.reg hr0 (by simp [-cellA,cW]; rfl) ?_))
   refine E.lead { fr:=[(1,iv w),(2,iv st),(6,ptA (n + 1)),(8,ptA (n + 2)),(11,ptA (n + 5)),(72,iv M),(73,iv 0)],sz:=95,H:=Hx,n:=N,marks:=[],vs:=vs60 } (.keep rfl rfl rfl (by simp) (Sub.refl _)) ?_
   refine t60 (L:=tidy n H) (X0:=G) (nr:=N) (rs:=rs) hTp hSG hGlt hGb hR ht hok (by rw [← hMW,hWd]) g3 g4 (by omega) (fun r hr m hm=>by obtain ⟨j,hj,rfl⟩:=List.getElem_of_mem hr; exact hrlt j _ m (List.getElem?_eq_getElem hj) hm) hK.sub hMS (fun Hy N' ms hy1 hy2 hy3 hy4=>?_)
   have hbox:=hy2.box
   rw [corG_len] at hbox
   have hld5:=load110 (H:=Hy) (n:=n + 5) (s:=s) (u:=.slice (some ⟨n + 4,0,none⟩) ts.length ts.length) hbox
   have hy6:=hy1 _ _ hGr
   have s6:=store_all (cs:=[.string s,.slice (some ⟨n + 4,0,none⟩) ts.length ts.length]) hy6 rfl
   obtain ⟨H2,e2,e3⟩:=shut_all ms (H:=hset Hy (n + 1) (.cells [.string s,.slice (some ⟨n + 4,0,none⟩) ts.length ts.length] 110)) hy3 fun m hm=>by
     have:=(hy4 m hm).1
     rw [hget_hset,if_neg (by omega)]
     exact (hy4 m hm).2
   have hn1:n + 1 ∉ ms:=fun h=>by have:=(hy4 _ h).1; omega
   have hld6:=load110 (H:=H2) (n:=n + 1) (s:=s) (u:=.slice (some ⟨n + 4,0,none⟩) ts.length ts.length) (by rw [e3 _ hn1,hget_hset,if_pos rfl,hy6]; rfl)
   have hnm2:namesOk N' H2=true:=shut_nm ms e2 (namesOk_hset hy2.nm)
   refine E.seq (E.reg hr0 (by simp [-loadA,-storeA,hld5,s6]; rfl) ?_)
   refine E.ret ?_
   rw [hz]
   show Ab.outM Tryz.prog Tryz.f60 (fun v Z N=>∃ F t tb tf kb rs o,v = .tuple #[.agg ⟨[.string s,outrV F o (corG ts w st M (dn M 0)).length]⟩,iv 0] ∧ (corG ts w st M (dn M 0)=[] → F=true) ∧ MS F (tidy n H) n t tb tf kb s (corG ts w st M (dn M 0)) rs Z N o) .ret _
   refine outM.ret H2 e2 (vs:=[.agg ⟨[.string s,.slice (some ⟨n + 4,0,none⟩) ts.length ts.length]⟩,iv 0]) (by simp [-loadA,resultsA,resultA,Tryz.results60,hld6]) ⟨false,159,110,145,n + 5,rs,n + 4,by rw [corG_len]; rfl,fun e=>?_,?_⟩
   · have:=congrArg List.length e
     rw [corG_len] at this
     exact absurd this (by simp; omega)
   · refine hy2.other (Nat.le_refl _) hnm2 (fun k b hk=>?_) fun m hm1 hm2 hm=>?_
     · have hkn:=hTl _ _ hk
       rw [e3 _ fun h=>by have:=(hy4 _ h).1; omega,hget_hset,if_neg (by omega)]
       exact hy2.sub _ _ hk
     · have hmb:m ≠ n + 1 ∧ m < N:=by
         rcases hm with rfl | rfl | ⟨r,hr,hm⟩
         · omega
         · omega
         · obtain ⟨j,hj,rfl⟩:=List.getElem_of_mem hr
           have:=hrlt j _ m (List.getElem?_eq_getElem hj) hm
           omega
       rw [e3 _ fun h=>by have:=(hy4 _ h).1; omega,hget_hset,if_neg fun e=>hmb.1 e.symm]
def g137 (args:List Value) (H:Heap) (n:Nat):R:=match args with
 | [.agg a]=>match decT H a.toList with
   | some t=>some (iv (trcE t),H,n)
   | none=>none
 | _=>none
theorem ok137:EntOk Tryz.prog (137,g137):=by
 intro args H n v H' n' h
 simp only [g137] at h
 split at h
 · split at h
   · rename_i t ht
     injection h with h; injection h with e1 e2; injection e2 with e2 e3; subst e1 e2 e3
     exact w137 ht
   · cases h
 · cases h
set_option maxHeartbeats 1600000 in
set_option maxRecDepth 50000 in
theorem w62 {H:Heap} {n:Nat} {v:Value} {s:ByteArray} {ts:List Trc} (hv:shtV H v=some (s,ts)):AC Tryz.prog 62 [v] H n (iv (shtE s ts)) H n:=by
 refine AC.given fun hold hsc hgn=>AC.tidied (B:=[]) (by simp) ?_
 replace hv:=shtV_tidy (fun k b h=>(hold k b h).1) hv
 replace hold:=tidy_old hold
 have hr:=recT_ok (P:=Tryz.prog) (l:=[(136,Gn.gSB Gn.nameB),(137,g137),(138,g138)]) (by simp only [List.forall_mem_cons]; exact ⟨Gn.ok136,ok137,ok138,by simp⟩)
 have hr0:=recT_ok (P:=Tryz.prog) (l:=[]) (by simp)
 have hv2:=hv
 obtain ⟨u,rfl,ht⟩:=shtV_form hv
 obtain ⟨oa,c,rfl,hlt,_,hrow⟩:=trcV_form ht
 obtain ⟨X,hX⟩:∃ X,(n,Blk.cells [.string s,.slice oa ts.length c] 103) :: tidy n H=X:=⟨_,rfl⟩
 have hS:Sub (tidy n H) X:=by rw [← hX]; exact Sub.cons (by simp) (Sub.refl _)
 have hb:hget X n=some (.cells [.string s,.slice oa ts.length c] 103):=by rw [← hX,hget_cons,if_pos rfl]
 have hc0:cellA X n 0=some (.string s):=by rw [cellA_eq,hb]; rfl
 have hc1:cellA X n 1=some (.slice oa ts.length c):=by rw [cellA_eq,hb]; rfl
 have hl1:loadA Tryz.prog 101 X (.pointer (some ⟨n,1,none⟩))=some (.slice oa ts.length c):=by simp [-cellA,hc1]
 have hld:=load103 hb
 have h138:∀ m,g138 [.agg ⟨[.string s,.slice oa ts.length c]⟩] X m=some (.tuple #[iv (widF ts).1,.bool (widF ts).2],X,m):=fun m=>by
   simp only [g138,shtV_mono hS hv2]
 obtain ⟨b1,hb1⟩:∃ b1,Gn.nameB s=b1:=⟨_,rfl⟩
 have hw136:∀ X m,Gn.gSB Gn.nameB [.string s] X m=some (.bool b1,X,m):=fun X m=>by rw [← hb1]
 have hE : shtE s ts = (let e1 := firstV [whenV (!b1) 8, whenV (decide (ts.length = 0)) 12, whenV (decide (64 < ts.length)) 5]
     if e1=0 then (if firstV (ts.map trcE)=0 then (if ts.all (widB (widF ts).1) then 0 else 2) else firstV (ts.map trcE)) else e1):=by rw [← hb1]; rfl
 obtain ⟨W,hW⟩:∃ W,(widF ts).1=W:=⟨_,rfl⟩
 rw [hW] at hE h138
 dsimp only at hE
 obtain ⟨eR,heR⟩:∃ e,shtE s ts=e:=⟨_,rfl⟩
 rw [heR] at hE ⊢
 refine AC.pure Tryz.func62 rfl (by kernel_rfl) rfl [1,2,3,4,5,7] rfl ?_
 refine E.seq (E.reg hr (by simp; rfl) ?_)
 rw [hX]
 refine E.seq (E.seq (E.reg hr (by simp [-cellA,hc0,hw136]; rfl) ?_))
 cases b1 with
 | false=>
   refine E.cond (t:=true) (by simp) (fun _=>?_) (fun h=>by cases h)
   refine E.seq (E.reg hr0 (by simp; rfl) ?_)
   refine E.ret ?_
   exact pureK.ret rfl rfl (by rw [hE]; simp [whenV,firstV]) hS
 | true=>
 refine E.cond (t:=false) (by simp) (fun h=>by cases h) (fun _=>?_)
 refine E.skip (E.seq ?_)
 refine E.seq ?_
 by_cases h0:ts.length=0
 · have h0':ts=[]:=List.length_eq_zero_iff.1 h0
   refine E.reg hr0 (by simp [-loadA,hl1,h0']; rfl) ?_
   refine E.cond (t:=true) (by simp) (fun _=>?_) (fun h=>by cases h)
   refine E.seq (E.reg hr0 (by simp; rfl) ?_)
   refine E.ret ?_
   exact pureK.ret rfl rfl (by rw [hE,h0']; simp [whenV,firstV]) hS
 have h0':¬ ts=[]:=fun e=>h0 (by rw [e]; rfl)
 refine E.reg hr0 (by simp [-loadA,hl1,h0']; rfl) ?_
 refine E.cond (t:=false) (by simp) (fun h=>by cases h) (fun _=>?_)
 refine E.skip (E.seq ?_)
 refine E.seq ?_
 by_cases h6:64 < ts.length
 · have h6':(64:Int) < ts.length:=by omega
   refine E.reg hr0 (by simp [-loadA,hl1,h6']; rfl) ?_
   refine E.cond (t:=true) (by simp) (fun _=>?_) (fun h=>by cases h)
   refine E.seq (E.reg hr0 (by simp; rfl) ?_)
   refine E.ret ?_
   exact pureK.ret rfl rfl (by rw [hE,decide_eq_true h6,decide_eq_false h0]; simp [whenV,firstV]) hS
 have h6':¬ (64:Int) < ts.length:=by omega
 have h1e:firstV [whenV (!true) 8,whenV (decide (ts.length=0)) 12,whenV (decide (64 < ts.length)) 5]=0:=by rw [decide_eq_false h0,decide_eq_false h6]; rfl
 rw [h1e,if_pos rfl] at hE
 refine E.reg hr0 (by simp [-loadA,hl1,h6']; rfl) ?_
 refine E.cond (t:=false) (by simp) (fun h=>by cases h) (fun _=>?_)
 refine E.skip (E.seq ?_)
 refine E.seq (E.reg hr0 (by simp; rfl) ?_)
 refine E.block (E.loop ?_)
 refine EL.ind (fun i:Nat=>{ fr:=[(1,ptA n),(3,iv i)],sz:=66,H:=X,n:=n + 1,marks:=[],vs:=[1,2,3,4,5,7] }) (fun i=>ts.length - i) (fun i=>i ≤ ts.length ∧ firstV (ts.map trcE)=firstV ((ts.drop i).map trcE)) 0 (.keep rfl rfl rfl (by simp) (Sub.refl _)) ⟨Nat.zero_le _,by rw [List.drop_zero]⟩ (fun _=>rfl) ?_
 rintro i ⟨hi,hg⟩
 have hw:IntKind.i64.wrap ((i:Int) + 1)=(i:Int) + 1:=W_in (by omega) (by omega)
 refine E.seq (E.seq (E.reg hr0 (by simp [-loadA,hl1]; rfl) ?_))
 by_cases hil:i < ts.length
 · refine E.cond (t:=true) (by simp [hil]) (fun _=>?_) (fun h=>by cases h)
   obtain ⟨a,q,rfl,hf,hcs,h8,hq⟩:=hrow i hil
   have hldt:=load144 (hS.cells hcs)
   have h137:∀ m,g137 [.agg ⟨ts[i].hd.map iv ++ [.bool ts[i].hole,q]⟩] X m=some (iv (trcE ts[i]),X,m):=fun m=>by
     have:=decT_mk (H:=X) h8 (listV_mono decR_mono hS hq)
     simp only [g137,this]
   rw [List.drop_eq_getElem_cons hil,List.map_cons,firstV] at hg
   obtain ⟨e,he⟩:∃ e,trcE ts[i]=e:=⟨_,rfl⟩
   rw [he] at h137 hg
   refine E.skip (E.seq ?_)
   refine E.block (E.seq (E.reg hr (by simp [-loadA,-flat,hl1,hil,hf,hldt,h137]; rfl) ?_))
   refine E.seq (E.reg hr0 (by simp; rfl) ?_)
   by_cases hz:e=0
   · rw [if_pos hz] at hg
     refine E.cond (t:=false) (by simp [hz]) (fun h=>by cases h) (fun _=>?_)
     refine E.skip (E.reg hr0 (by simp [hw]; rfl) ?_)
     exact ⟨i + 1,.keep rfl rfl rfl (by simp) (Sub.refl _),⟨hil,hg⟩,by dsimp only; omega⟩
   · rw [if_neg hz] at hg
     rw [hg,if_neg hz] at hE
     refine E.cond (t:=true) (by simp [hz]) (fun _=>?_) (fun h=>by cases h)
     refine E.seq (E.reg hr0 (by simp; rfl) ?_)
     refine E.ret ?_
     exact pureK.ret rfl rfl (by rw [hE]; simp) hS
 refine E.cond (t:=false) (by simp [hil]) (fun h=>by cases h) (fun _=>?_)
 refine E.exit ?_
 rw [List.drop_of_length_le (by omega)] at hg
 rw [hg,show firstV (([]:List Trc).map trcE)=0 from rfl,if_pos rfl] at hE
 refine E.seq (E.reg hr (by simp [-loadA,hld,h138]; rfl) ?_)
 refine E.seq (E.seq (E.reg hr0 (by simp; rfl) ?_))
 refine E.block (E.loop ?_)
 refine EL.ind (fun i:Nat=>{ fr:=[(1,ptA n),(5,iv W),(7,iv i)],sz:=66,H:=X,n:=n + 1,marks:=[],vs:=[1,2,3,4,5,7] }) (fun i=>ts.length - i) (fun i=>i ≤ ts.length ∧ ts.all (widB W)=(ts.drop i).all (widB W)) 0 (.keep rfl rfl rfl (by simp) (Sub.refl _)) ⟨Nat.zero_le _,by rw [List.drop_zero]⟩ (fun _=>rfl) ?_
 rintro i ⟨hi,hg⟩
 have hw:IntKind.i64.wrap ((i:Int) + 1)=(i:Int) + 1:=W_in (by omega) (by omega)
 refine E.seq (E.seq (E.reg hr0 (by simp [-loadA,hl1]; rfl) ?_))
 by_cases hil:i < ts.length
 · refine E.cond (t:=true) (by simp [hil]) (fun _=>?_) (fun h=>by cases h)
   obtain ⟨a,q,rfl,hf,hcs,h8,hq⟩:=hrow i hil
   obtain ⟨oq,cq,rfl,hlq,_,_⟩:=reaV_form hq
   obtain ⟨hc8,hc9,_⟩:=trc_cells (hS.cells hcs) h8
   have hl8:loadA Tryz.prog 4 X (.pointer (some ⟨a.block,a.off + i * 10 + 8,none⟩))=some (.bool ts[i].hole):=by simp [-cellA,hc8]
   have hl9:loadA Tryz.prog 126 X (.pointer (some ⟨a.block,a.off + i * 10 + 9,none⟩))=some (.slice oq ts[i].smp.length cq):=by simp [-cellA,hc9]
   rw [List.drop_eq_getElem_cons hil,List.all_cons,widB] at hg
   refine E.skip (E.seq ?_)
   refine E.block (E.seq ?_)
   cases hho:ts[i].hole with
   | true=>
     rw [hho] at hl8
     rw [hho,Bool.true_or,Bool.true_and] at hg
     refine E.reg hr0 (by simp [-loadA,-flat,hl1,hl8,hil,hf]; rfl) ?_
     refine E.cond (t:=false) (by simp) (fun h=>by cases h) (fun _=>?_)
     refine E.skip (E.reg hr0 (by simp [hw]; rfl) ?_)
     exact ⟨i + 1,.keep rfl rfl rfl (by simp) (Sub.refl _),⟨hil,hg⟩,by dsimp only; omega⟩
   | false=>
     rw [hho] at hl8
     rw [hho,Bool.false_or] at hg
     by_cases hwd:(ts[i].smp.length:Int)=W
     · rw [decide_eq_true hwd,Bool.true_and] at hg
       refine E.reg hr0 (by simp [-loadA,-flat,hl1,hl8,hl9,hil,hf,hwd]; rfl) ?_
       refine E.cond (t:=false) (by simp) (fun h=>by cases h) (fun _=>?_)
       refine E.skip (E.reg hr0 (by simp [hw]; rfl) ?_)
       exact ⟨i + 1,.keep rfl rfl rfl (by simp) (Sub.refl _),⟨hil,hg⟩,by dsimp only; omega⟩
     · rw [decide_eq_false hwd,Bool.false_and] at hg
       rw [hg,if_neg (by decide)] at hE
       refine E.reg hr0 (by simp [-loadA,-flat,hl1,hl8,hl9,hil,hf,hwd]; rfl) ?_
       refine E.cond (t:=true) (by simp) (fun _=>?_) (fun h=>by cases h)
       refine E.seq (E.reg hr0 (by simp; rfl) ?_)
       refine E.ret ?_
       exact pureK.ret rfl rfl (by rw [hE]; simp) hS
 · refine E.cond (t:=false) (by simp [hil]) (fun h=>by cases h) (fun _=>?_)
   refine E.exit ?_
   rw [List.drop_of_length_le (by omega),List.all_nil] at hg
   rw [hg,if_pos rfl] at hE
   refine E.seq (E.reg hr0 (by simp; rfl) ?_)
   refine E.ret ?_
   exact pureK.ret rfl rfl (by rw [hE]; simp) hS
def g62 (args:List Value) (H:Heap) (n:Nat):R:=match args with
 | [v]=>match shtV H v with
   | some x=>some (iv (shtE x.1 x.2),H,n)
   | none=>none
 | _=>none
theorem ok62:EntOk Tryz.prog (62,g62):=by
 intro args H n v H' n' h
 simp only [g62] at h
 split at h
 · split at h
   · rename_i x hx
     injection h with h; injection h with e1 e2; injection e2 with e2 e3; subst e1 e2 e3
     exact w62 (s:=x.1) (ts:=x.2) hx
   · cases h
 · cases h
theorem MS.low {F:Bool} {L L' Hx:Heap} {n n' t tb tf kb N o:Nat} {s:ByteArray} {ts:List Trc} {rs:List Value} (h:Ab.MS F L' n' t tb tf kb s ts rs Hx N o) (hs:Sub L L') (hn:n ≤ n'):Ab.MS F L n t tb tf kb s ts rs Hx N o:=by
 have hb:=h.big
 have hk:=h.kbn
 refine ⟨hs.trans h.sub,h.nm,by omega,h.len,h.h8,fun h0=>?_,h.box,by omega,fun i x r hx hr=>?_,h.sep⟩
 · obtain ⟨h1,h2,h3,h4⟩:=h.out h0
   exact ⟨h1,by omega,h3,h4⟩
 · obtain ⟨h1,h2,h3⟩:=h.row i x r hx hr
   exact ⟨h1.low hn,h2,h3⟩
theorem rea_src {H:Heap} {v:Value} {l:List Nat} (h:reaV H v=some l) (hne:l.length ≠ 0):∃ a c,v = .slice (some a) l.length c ∧ flat a=true ∧ l.length < 2147483648 ∧ cellsA H a.block a.off l.length=some (l.map rv):=by
 obtain ⟨oa,c,e,hlt,_,hrow⟩:=reaV_form h
 obtain ⟨a,rfl,hf,_⟩:=hrow 0 (by omega)
 refine ⟨a,c,e,hf,hlt,?_⟩
 subst e
 unfold reaV listV at h
 simp only [if_pos hlt,if_neg hne,hf,if_true,Nat.mul_one] at h
 obtain ⟨cs,hc,hm⟩:=Option.bind_eq_some_iff.1 h
 rw [hc]
 have hcl:cs.length=l.length:=(cellsA_cell hc (i:=0) (by omega)).2
 congr 1
 refine List.ext_getElem? fun i=>?_
 by_cases hi:i < l.length
 · obtain ⟨a',e1,_,h3⟩:=hrow i hi
   injection e1 with e1
   subst e1
   have h4:=(cellsA_cell hc hi).1
   rw [← h4,h3,List.getElem?_map,List.getElem?_eq_getElem hi]
   rfl
 · rw [List.getElem?_eq_none (by omega),List.getElem?_eq_none (by simp; omega)]
theorem oneL_rv:∀ l:List Nat,oneL (l.map rv)=true
 | []=>rfl
 | _ :: l=>oneL_rv l
set_option maxRecDepth 20000 in
theorem app126 {X:Heap} {N M:Nat} {v:Value} {bs:List Nat} (hv:reaV X v=some bs) (hne:bs.length ≠ 0) (hN:hget X N=some (.cells [] 145)) (hs:bs.length ≤ 1048576):builtinA Tryz.prog .append #[126,126] X M [.slice (some ⟨N,0,none⟩) 0 0,v]=some (.slice (some ⟨M,0,some 0⟩) bs.length 0,(M,.ext (bs.map rv) 145 1) :: X,M + 1):=by
 obtain ⟨a,c,rfl,hf,hlt,hc⟩:=rea_src hv hne
 have hsz:Tryz.t145.size=1:=by kernel_rfl
 have hb:Tryz.t145.bytes=4:=by kernel_rfl
 have hz:zeroOk Tryz.t145=true:=by kernel_rfl
 have hsm:smallA 4 bs.length=true:=by
   unfold smallA
   rw [Bool.and_eq_true]
   exact ⟨decide_eq_true (by omega),decide_eq_true (by omega)⟩
 have hnb:Nat.beq (bs.map rv).length bs.length=true:=by rw [List.length_map,Nat.beq_refl]
 have h0:cellsA X N 0 0=some []:=by rw [cellsA_eq,hN]; rfl
 rw [show builtinA Tryz.prog .append #[126,126] X M [.slice (some ⟨N,0,none⟩) 0 0,.slice (some a) bs.length c]=appendA Tryz.prog #[126,126] X M (.slice (some ⟨N,0,none⟩) 0 0) (.slice (some a) bs.length c) from rfl]
 unfold appendA
 simp only [List.getElem?_toArray,List.getElem?_cons_zero,List.getElem?_cons_succ,Tryz.underlying126,inf145,lenX,lenV,srcX,srcA,hsz,Nat.mul_one,if_neg hne,hf,if_true,hc,hnb,oneL_rv,Bool.and_self]
 unfold appendTo
 simp only [Nat.zero_add,Nat.le_zero,hne,if_false,hsz,Nat.zero_mul,h0,hb,hsm,hz,Bool.and_self,if_true,List.nil_append]
 rfl
set_option maxRecDepth 20000 in
theorem app126e {X:Heap} {N M c:Nat} {oa:Option Addr}:builtinA Tryz.prog .append #[126,126] X M [.slice (some ⟨N,0,none⟩) 0 0,.slice oa 0 c]=some (.slice (some ⟨N,0,none⟩) 0 0,X,M):=by
 have hsz:Tryz.t145.size=1:=by kernel_rfl
 rw [show builtinA Tryz.prog .append #[126,126] X M [.slice (some ⟨N,0,none⟩) 0 0,.slice oa 0 c]=appendA Tryz.prog #[126,126] X M (.slice (some ⟨N,0,none⟩) 0 0) (.slice oa 0 c) from rfl]
 unfold appendA
 simp only [List.getElem?_toArray,List.getElem?_cons_zero,List.getElem?_cons_succ,Tryz.underlying126,inf145,lenX,lenV,srcX,srcA,hsz,Nat.zero_mul,if_true]
 cases oa <;> rfl
theorem inf144:Tryz.prog.info? 144=some Tryz.t144:=by kernel_rfl
theorem sz144i:Tryz.t144.size=10:=by kernel_rfl
theorem by144:Tryz.t144.bytes ≤ 128:=by decide +kernel
theorem zo144:zeroOk Tryz.t144=true:=by kernel_rfl
theorem build103a {fr:Fr} {H:Heap} {n:Nat} {x:Operand} {s:ByteArray} (hx:evO Tryz.prog fr x=some (.string s)):opBuild Tryz.prog 103 #[(0,x)] fr H n=some (.agg #[.string s,.slice none 0 0],H,n):=by
 unfold opBuild
 simp only [evPs_cons,evPs_nil,hx]
 kernel_rfl
abbrev fr82 (n i:Nat):Fr:=[(1,ptA n),(2,ptA (n + 1)),(3,ptA (n + 2)),(4,iv i)]
end Go.Proofs.YtkongcnmkiihjaaGreatDoor
namespace Go.Ab
open Go
def handX (P:Program) (r:Rec) (mk:List Nat) (i:Nat) (o:Oper) (see put:List Nat) (fr:Fr) (st:St):Option St:=
 match runOp P r o { st with fr:=fr,H:=handA see put st.H } with
 | some (v,H,k)=>match Nat.ble st.n k && namesOk k (takeNew st.n H) && (Nat.beq k st.n || memN mk i) with
   | true=>some { st with fr:=putA st.fr o.dst v,H:=takeNew st.n H ++ backA put H st.H,n:=k }
   | false=>none
 | none=>none
def doneX (P:Program) (r:Rec) (al mk late pt:List Nat) (n0 i:Nat) (o:Oper) (fr:Fr) (st:St):Option St:=
 match isPure o.op with
 | true=>pureS P o fr st
 | false=>match isRead o.op with
   | true=>match footA P fr o.op with
     | some f=>readT P late n0 i o fr st f.see
     | none=>none
   | false=>match memN al i with
     | true=>aloneT P r mk i o fr st
     | false=>match footA P fr o.op with
       | some f=>match f.put.isEmpty && visT late n0 i st.n f.see with
         | true=>handT P r mk i o f.see fr st
         | false=>match memN pt i && f.put.all (Nat.ble n0 ·) && f.put.all (memN f.see) && memN late i && f.see.all (Nat.blt · st.n) with
           | true=>handX P r mk i o f.see f.put fr st
           | false=>none
       | none=>match memN late i && plainH st.H with
         | true=>handU P r mk i o fr st
         | false=>none
def oneX (P:Program) (r:Rec) (ops:Array Oper) (al mk late pt:List Nat) (n0 i:Nat) (o:Oper) (st:St):Option St:=
 match dstOk st.sz o.dst with
 | false=>none
 | true=>match wantedA ops (trim (lookTmps ops o) st.fr) o with
   | none=>none
   | some false=>some { st with fr:=putA st.fr o.dst undefV }
   | some true=>doneX P r al mk late pt n0 i o (trim (lookTmps ops o) st.fr) st
def opsX (P:Program) (r:Rec) (ops:Array Oper) (al mk late pt:List Nat) (n0:Nat):List Oper → Nat → St → Option St
 | [],_,st=>some st
 | o :: os,i,st=>match oneX P r ops al mk late pt n0 i o st with
   | some st'=>opsX P r ops al mk late pt n0 os (i + 1) st'
   | none=>none
def runX (P:Program) (r:Rec) (ops:Array Oper) (al mk late pt:List Nat) (st:St):Option St:=
 match namesOk st.n st.H with
 | true=>opsX P r ops al mk late pt st.n ops.toList 0 st
 | false=>none
def ptOk (bef:Array Nat) (late pt:List Nat):Bool:=pt.all fun i=>memN late i && late.all fun j=>Nat.beq i j || (if Nat.blt j i then ahead bef j i else ahead bef i j)
structure InvX (mk late pt:List Nat) (n0 i:Nat) (ds:List Done) (st:St):Prop where
 put:∀ d ∈ ds,d.put=[] ∨ (memN pt d.i=true ∧ ∀ k ∈ d.put,n0 ≤ k)
 see:∀ d ∈ ds,memN late d.i=true ∨ ∀ k ∈ d.see,k < n0
 idx:∀ d ∈ ds,d.i < i
 cov:∀ k,n0 ≤ k → k < st.n → ∃ d ∈ ds,d.lo ≤ k ∧ k < d.hi ∧ memN mk d.i=true ∧ d.i < i
 nam:∀ x ∈ st.H,x.1 < st.n
theorem lateOk_visX {bef:Array Nat} {mk late pt:List Nat} (hl:lateOk bef mk late=true) {n0 i:Nat} (hi:memN late i=true) {ds:List Done} {st:St} (hI:InvX mk late pt n0 i ds st) {k:Nat} (hk:k < st.n):visA bef n0 i ds k=true:=by
 unfold visA
 rw [Bool.or_eq_true]
 rcases Nat.lt_or_ge k n0 with h | h
 · exact .inl ((blt_iff _ _).2 h)
 · obtain ⟨d,hd,h1,h2,h3,h4⟩:=hI.cov k h hk
   refine .inr (List.any_eq_true.2 ⟨d,hd,?_⟩)
   have:=List.all_eq_true.1 (List.all_eq_true.1 hl i ((memN_iff _ _).1 hi)) d.i ((memN_iff _ _).1 h3)
   rw [Bool.or_eq_true] at this
   rcases this with h | h
   · have:=Nat.le_of_ble_eq_true h
     omega
   · simp only [Bool.and_eq_true]
     exact ⟨⟨Nat.ble_eq_true_of_le h1,(blt_iff _ _).2 h2⟩,h⟩
theorem ptOk_ahead {bef:Array Nat} {late pt:List Nat} (hp:ptOk bef late pt=true) {a c:Nat} (hac:a < c) (h:(memN pt a=true ∧ memN late c=true) ∨ (memN late a=true ∧ memN pt c=true)):ahead bef a c=true:=by
 unfold ptOk at hp
 rcases h with ⟨h1,h2⟩ | ⟨h1,h2⟩
 · have:=List.all_eq_true.1 hp a ((memN_iff _ _).1 h1)
   rw [Bool.and_eq_true] at this
   have:=List.all_eq_true.1 this.2 c ((memN_iff _ _).1 h2)
   rw [Bool.or_eq_true] at this
   rcases this with h | h
   · have:=Nat.eq_of_beq_eq_true h; omega
   · rw [if_neg (fun h=>by have:=(blt_iff _ _).1 h; omega)] at h
     exact h
 · have:=List.all_eq_true.1 hp c ((memN_iff _ _).1 h2)
   rw [Bool.and_eq_true] at this
   have:=List.all_eq_true.1 this.2 a ((memN_iff _ _).1 h1)
   rw [Bool.or_eq_true] at this
   rcases this with h | h
   · have:=Nat.eq_of_beq_eq_true h; omega
   · rw [if_pos ((blt_iff _ _).2 hac)] at h
     exact h
theorem ptOk_late {bef:Array Nat} {late pt:List Nat} (hp:ptOk bef late pt=true) {a:Nat} (h:memN pt a=true):memN late a=true:=by
 have:=List.all_eq_true.1 hp a ((memN_iff _ _).1 h)
 rw [Bool.and_eq_true] at this
 exact this.1
theorem disj_of {xs ys:List Nat} {n0:Nat} (h1:∀ k ∈ xs,n0 ≤ k) (h2:∀ k ∈ ys,k < n0):disj xs ys=true:=by
 unfold disj
 refine List.all_eq_true.2 fun x hx=>?_
 cases hm:memN ys x with
 | false=>rfl
 | true=>
   have:=h2 x ((memN_iff _ _).1 hm)
   have:=h1 x hx
   omega
theorem footX {bef:Array Nat} {mk late pt:List Nat} (hl:lateOk bef mk late=true) (hp:ptOk bef late pt=true) {n0 i:Nat} {ds:List Done} {st:St} (hI:InvX mk late pt n0 i ds st) {see:List Nat} (h:visT late n0 i st.n see=true):footOk bef n0 i ds see []=true:=by
 have hv:=h
 unfold visT at h
 rw [Bool.or_eq_true] at h
 unfold footOk
 simp only [Bool.and_eq_true]
 refine ⟨⟨List.all_eq_true.2 fun d hd=>?_,List.all_eq_true.2 fun k hk=>?_⟩,rfl⟩
 · rw [Bool.or_eq_true]
   rcases hI.put d hd with h0 | ⟨h1,h2⟩
   · right; simp [disj,h0]
   · rcases h with h | h
     · rw [Bool.and_eq_true] at h
       exact .inl (ptOk_ahead hp (hI.idx d hd) (.inl ⟨h1,h.1⟩))
     · right
       rw [Bool.and_eq_true]
       exact ⟨rfl,disj_of h2 fun k hk=>(blt_iff _ _).1 (List.all_eq_true.1 h k hk)⟩
 · rcases h with h | h
   · rw [Bool.and_eq_true] at h
     exact lateOk_visX hl h.1 hI ((blt_iff _ _).1 (List.all_eq_true.1 h.2 k hk))
   · have:=List.all_eq_true.1 h k hk
     unfold visA
     rw [this,Bool.true_or]
theorem footXp {bef:Array Nat} {mk late pt:List Nat} (hl:lateOk bef mk late=true) (hp:ptOk bef late pt=true) {n0 i:Nat} {ds:List Done} {st:St} (hI:InvX mk late pt n0 i ds st) {see put:List Nat} (h:(memN pt i && put.all (Nat.ble n0 ·) && put.all (memN see) && memN late i && see.all (Nat.blt · st.n))=true):footOk bef n0 i ds see put=true:=by
 simp only [Bool.and_eq_true] at h
 obtain ⟨⟨⟨⟨h1,h2⟩,h3⟩,h4⟩,h5⟩:=h
 unfold footOk
 simp only [Bool.and_eq_true]
 refine ⟨⟨List.all_eq_true.2 fun d hd=>?_,List.all_eq_true.2 fun k hk=>?_⟩,h3⟩
 · rw [Bool.or_eq_true]
   rcases hI.see d hd with hs | hs
   · exact .inl (ptOk_ahead hp (hI.idx d hd) (.inr ⟨hs,h1⟩))
   · rcases hI.put d hd with h0 | ⟨g1,_⟩
     · right
       rw [Bool.and_eq_true]
       exact ⟨disj_of (fun k hk=>Nat.le_of_ble_eq_true (List.all_eq_true.1 h2 k hk)) hs,by simp [disj,h0]⟩
     · exact .inl (ptOk_ahead hp (hI.idx d hd) (.inr ⟨ptOk_late hp g1,h1⟩))
 · exact lateOk_visX hl h4 hI ((blt_iff _ _).1 (List.all_eq_true.1 h5 k hk))
theorem seeCall_dnamesX {bef:Array Nat} {n0 i:Nat} {ds:List Done} (hp:∀ d ∈ ds,d.put=[] ∨ ahead bef d.i i=true):∀ H:Heap,(∀ x ∈ H,visA bef n0 i ds x.1=true) → seeCall bef n0 i ds H=dnames H
 | [],_=>rfl
 | (k,b) :: H,hv=>by
   have ih:=seeCall_dnamesX hp H fun x hx=>hv x (List.mem_cons_of_mem _ hx)
   have h1:=hv _ (List.mem_cons_self ..)
   have h2:(ds.all fun d=>ahead bef d.i i || !memN d.put k)=true:=List.all_eq_true.2 fun d hd=>by
     rcases hp d hd with h | h
     · rw [h]; simp [memN]
     · rw [h,Bool.true_or]
   cases b <;> simp only [seeCall,dnames,h1,h2,ih,Bool.and_self,if_true]
theorem InvX.same {mk late pt:List Nat} {n0 i:Nat} {ds:List Done} {st:St} (hI:InvX mk late pt n0 i ds st) {fr:Fr}:InvX mk late pt n0 (i + 1) ds { st with fr:=fr }:=
 ⟨hI.put,hI.see,fun d hd=>Nat.lt_succ_of_lt (hI.idx d hd),fun k h1 h2=>by obtain ⟨d,a,b,c,e,f⟩:=hI.cov k h1 h2; exact ⟨d,a,b,c,e,by omega⟩,hI.nam⟩
theorem InvX.next {mk late pt:List Nat} {n0 i:Nat} {ds:List Done} {st:St} (hI:InvX mk late pt n0 i ds st) {fr:Fr} {see put:List Nat} {H:Heap} {k:Nat} (hput:put=[] ∨ (memN pt i=true ∧ ∀ k ∈ put,n0 ≤ k)) (hsee:memN late i=true ∨ ∀ k ∈ see,k < n0) (hn:∀ x ∈ H,x.1 < k) (hm:(Nat.beq k st.n || memN mk i)=true):InvX mk late pt n0 (i + 1) (⟨i,see,put,st.n,k⟩ :: ds) { st with fr:=fr,H:=H,n:=k }:=by
 refine ⟨fun d hd=>?_,fun d hd=>?_,fun d hd=>?_,fun j h1 h2=>?_,hn⟩
 · rcases List.mem_cons.1 hd with rfl | hd
   · exact hput
   · exact hI.put d hd
 · rcases List.mem_cons.1 hd with rfl | hd
   · exact hsee
   · exact hI.see d hd
 · rcases List.mem_cons.1 hd with rfl | hd
   · exact Nat.lt_succ_self _
   · exact Nat.lt_succ_of_lt (hI.idx d hd)
 · rcases Nat.lt_or_ge j st.n with h | h
   · obtain ⟨d,a,b,c,e,f⟩:=hI.cov j h1 h
     exact ⟨d,List.mem_cons_of_mem _ a,b,c,e,by omega⟩
   · rw [Bool.or_eq_true] at hm
     have h2:j < k:=h2
     rcases hm with hm | hm
     · have:=Nat.eq_of_beq_eq_true hm
       omega
     · exact ⟨_,List.mem_cons_self ..,h,h2,hm,Nat.lt_succ_self _⟩
theorem visT_see {late:List Nat} {n0 i n:Nat} {see:List Nat} (h:visT late n0 i n see=true):memN late i=true ∨ ∀ k ∈ see,k < n0:=by
 unfold visT at h
 rw [Bool.or_eq_true] at h
 rcases h with h | h
 · rw [Bool.and_eq_true] at h; exact .inl h.1
 · exact .inr fun k hk=>(blt_iff _ _).1 (List.all_eq_true.1 h k hk)
theorem backA_memX {put:List Nat} {H':Heap}:∀ {H:Heap} {x:Nat × Blk},x ∈ backA put H' H → ∃ y ∈ H,y.1=x.1
 | [],x,h=>by cases h
 | (k,b) :: H,x,h=>by
   rw [backA] at h
   have go:x ∈ backA put H' H → ∃ y ∈ (k,b) :: H,y.1=x.1:=fun h=>by
     obtain ⟨y,hy,e⟩:=backA_memX h
     exact ⟨y,List.mem_cons_of_mem _ hy,e⟩
   split at h
   · rcases List.mem_cons.1 h with rfl | h
     · exact ⟨_,List.mem_cons_self ..,rfl⟩
     · exact go h
   · split at h
     · rcases List.mem_cons.1 h with rfl | h
       · exact ⟨_,List.mem_cons_self ..,rfl⟩
       · exact go h
     · exact go h
theorem handX_ok {P:Program} {r:Rec} {bef:Array Nat} {mk late pt:List Nat} {n0 i:Nat} {ds:List Done} {o:Oper} {fr:Fr} {st st':St} (hI:InvX mk late pt n0 i ds st) {see put:List Nat} (hf:footOk bef n0 i ds see put=true) (hput:put=[] ∨ (memN pt i=true ∧ ∀ k ∈ put,n0 ≤ k)) (hsee:memN late i=true ∨ ∀ k ∈ see,k < n0) (h:handX P r mk i o see put fr st=some st'):∃ ds',handOp P r bef n0 i ds o see put fr st=some (st',ds') ∧ InvX mk late pt n0 (i + 1) ds' st':=by
 unfold handX at h
 unfold handOp
 rw [hf]
 simp only
 split at h
 · rename_i v H k hv
   rw [hv]
   simp only
   split at h
   · rename_i hc
     simp only [Bool.and_eq_true] at hc
     injection h with h; subst h
     rw [hc.1.1,hc.1.2]
     simp only [Bool.and_self]
     have hle:=Nat.le_of_ble_eq_true hc.1.1
     refine ⟨_,rfl,hI.next hput hsee (fun x hx=>?_) hc.2⟩
     rcases List.mem_append.1 hx with hx | hx
     · exact namesOk_mem _ _ hc.1.2 x hx
     · obtain ⟨y,hy,e⟩:=backA_memX hx
       exact Nat.lt_of_lt_of_le (by rw [← e]; exact hI.nam y hy) hle
   · cases h
 · cases h
theorem backA_nil (H':Heap):∀ H:Heap,backA [] H' H=H
 | []=>rfl
 | (k,b) :: H=>by simp only [backA,memN,backA_nil H' H]
theorem handT_X {P:Program} {r:Rec} {mk:List Nat} {i:Nat} {o:Oper} {see:List Nat} {fr:Fr} {st:St}:handT P r mk i o see fr st=handX P r mk i o see [] fr st:=by
 unfold handT handX
 simp only [backA_nil]
 rfl
theorem opsX_ok {P:Program} {r:Rec} {ops:Array Oper} {bef:Array Nat} {al mk late pt:List Nat} (hl:lateOk bef mk late=true) (hpt:ptOk bef late pt=true) {n0:Nat}:∀ (os:List Oper) (i:Nat) (st st':St) (ds:List Done),alEq ops bef al os i=true → InvX mk late pt n0 i ds st → opsX P r ops al mk late pt n0 os i st=some st' → opsD P r ops bef n0 os i ds st=some st'
 | [],_,st,st',ds,_,_,h=>h
 | o :: os,i,st,st',ds,hal,hI,h=>by
   simp only [alEq,Bool.and_eq_true,Bool.or_eq_true,beq_iff_eq] at hal
   have halo:isPure o.op=false → isRead o.op=false → memN al i=aloneA bef i ops.toList 0:=fun h1 h2=>by
     rcases hal.1 with (h | h) | h
     · rw [h1] at h; cases h
     · rw [h2] at h; cases h
     · exact h
   simp only [opsX] at h
   split at h
   · rename_i st1 h1
     have key:∃ ds',oneD P r ops bef n0 i ds o st=some (st1,ds') ∧ InvX mk late pt n0 (i + 1) ds' st1:=by
       unfold oneX at h1
       unfold oneD
       split at h1
       · cases h1
       · rename_i hd
         rw [hd]
         simp only
         split at h1
         · cases h1
         · rename_i hw
           rw [hw]
           injection h1 with h1; subst h1
           exact ⟨ds,rfl,hI.same⟩
         · rename_i hw
           rw [hw]
           simp only
           unfold doneX at h1
           unfold doneD
           split at h1
           · rename_i hp
             rw [hp]
             simp only
             unfold pureS at h1
             unfold pureOp
             split at h1
             · rename_i v a k hv
               rw [hv]
               simp only
               split at h1
               · rename_i hk
                 rw [hk]
                 injection h1 with h1; subst h1
                 exact ⟨ds,rfl,hI.same⟩
               · cases h1
             · cases h1
           · rename_i hp
             rw [hp]
             simp only
             split at h1
             · rename_i hrd
               rw [hrd]
               simp only
               split at h1
               · rename_i f hf
                 rw [hf]
                 simp only
                 unfold readT at h1
                 split at h1
                 · rename_i hv
                   have hvt:=hv
                   unfold readOp
                   rw [footX hl hpt hI hv]
                   simp only
                   split at h1
                   · rename_i v a b hv
                     rw [hv]
                     injection h1 with h1; subst h1
                     exact ⟨_,rfl,hI.next (.inl rfl) (visT_see hvt) hI.nam (by simp)⟩
                   · cases h1
                 · cases h1
               · cases h1
             · rename_i hrd
               rw [hrd]
               simp only
               split at h1
               · rename_i hm
                 have ha:aloneA bef i ops.toList 0=true:=by rw [← halo hp hrd,hm]
                 rw [ha]
                 simp only
                 unfold aloneT at h1
                 unfold aloneOp
                 split at h1
                 · rename_i v H k hv
                   rw [hv]
                   simp only
                   split at h1
                   · rename_i hk
                     simp only [Bool.and_eq_true] at hk
                     rw [hk.1.1,hk.1.2]
                     injection h1 with h1; subst h1
                     exact ⟨_,rfl,hI.next (.inl rfl) (.inr fun k hk=>by cases hk) (namesOk_mem _ _ hk.1.2) hk.2⟩
                   · cases h1
                 · cases h1
               · rename_i hm
                 have ha:aloneA bef i ops.toList 0=false:=by rw [← halo hp hrd,hm]
                 rw [ha]
                 simp only
                 split at h1
                 · rename_i f hf
                   rw [hf]
                   simp only
                   split at h1
                   · rename_i hv
                     rw [Bool.and_eq_true] at hv
                     rw [List.isEmpty_iff.1 hv.1]
                     rw [handT_X] at h1
                     exact handX_ok hI (footX hl hpt hI hv.2) (.inl rfl) (visT_see hv.2) h1
                   · split at h1
                     · rename_i hv
                       have hv2:=hv
                       simp only [Bool.and_eq_true] at hv2
                       exact handX_ok hI (footXp hl hpt hI hv) (.inr ⟨hv2.1.1.1.1,fun k hk=>Nat.le_of_ble_eq_true (List.all_eq_true.1 hv2.1.1.1.2 k hk)⟩) (.inl hv2.1.2) h1
                     · cases h1
                 · rename_i hf
                   rw [hf]
                   simp only
                   split at h1
                   · rename_i hv
                     rw [Bool.and_eq_true] at hv
                     have hvis:∀ k,k < st.n → visA bef n0 i ds k=true:=fun k hk=>lateOk_visX hl hv.1 hI hk
                     rw [seeCall_dnamesX (fun d hd=>by
                       rcases hI.put d hd with h | ⟨h,_⟩
                       · exact .inl h
                       · exact .inr (ptOk_ahead hpt (hI.idx d hd) (.inl ⟨h,hv.1⟩))) st.H fun x hx=>hvis _ (hI.nam x hx)]
                     have hvt:visT late n0 i st.n (dnames st.H)=true:=by
                       unfold visT
                       rw [hv.1]
                       simp only [Bool.true_and,Bool.or_eq_true]
                       refine .inl (List.all_eq_true.2 fun k hk=>?_)
                       obtain ⟨b,hb⟩:=dnames_mem _ _ hk
                       exact (blt_iff _ _).2 (hI.nam _ hb)
                     have h2:handT P r mk i o (dnames st.H) (trim (lookTmps ops o) st.fr) st=some st1:=by
                       unfold handT
                       rw [handA_dnames hv.2]
                       exact h1
                     rw [handT_X] at h2
                     exact handX_ok hI (footX hl hpt hI hvt) (.inl rfl) (.inl hv.1) h2
                   · cases h1
     obtain ⟨ds',h2,hI'⟩:=key
     simp only [opsD,h2]
     exact opsX_ok hl hpt os (i + 1) st1 st' ds' hal.2 hI' h
   · cases h
def drawX (ops:Array Oper) (bef:Array Nat) (al mk late pt:List Nat):Bool:=drawOk ops bef && alEq ops bef al ops.toList 0 && lateOk bef mk late && ptOk bef late pt
section
variable {P:Program} {n0:Nat} {ro:Option Nat} {st st':St} {K:Ex → St → Prop} {r:Rec} {m:Nat}
theorem E.drawX (hm:P.follows .mixedOrders=true) (hr:RecOk P r m) (al mk late pt:List Nat) {id:Nat} {ops:Array Oper} (hd:Ab.drawX ops (Region.before ops) al mk late pt=true) (h:runX P r ops al mk late pt st=some st') (k:K .normal st'):E P n0 ro (.region id ops true) st K:=by
 unfold Ab.drawX at hd
 simp only [Bool.and_eq_true] at hd
 unfold runX at h
 split at h
 · rename_i hn
   exact E.draw hm hr hd.1.1.1 (opsX_ok hd.1.2 hd.2 _ _ _ _ [] hd.1.1.2 ⟨by simp,by simp,by simp,fun k h1 h2=>by omega,namesOk_mem _ _ hn⟩ h) k
 · cases h
end
attribute [simp] runX opsX oneX doneX
theorem hgetHand {see put:List Nat}:∀ {H:Heap},plainH H=true → ∀ k,hget (handA see put H) k=if memN put k=true then hget H k else if memN see k=true then (hget H k).map frz else none
 | [],_,k=>by simp [handA,hget]
 | (j,b) :: H,hp,k=>by
   simp only [plainH,Bool.and_eq_true] at hp
   have ih:=hgetHand (see:=see) (put:=put) hp.2 k
   have key:handA see put ((j,b) :: H)=match memN put j with
     | true=>(j,b) :: handA see put H
     | false=>match memN see j with
       | false=>handA see put H
       | true=>(j,frz b) :: handA see put H:=by
     have hp1:=hp.1
     cases b <;> first | rfl | cases hp1
   rw [key]
   by_cases e:j=k
   · subst e
     cases h1:memN put j with
     | true=>simp [hget_cons]
     | false=>
       cases h2:memN see j with
       | false=>
         simp only [Bool.false_eq_true,if_false]
         rw [ih,h1,h2]; simp
       | true=>simp [hget_cons]
   · cases h1:memN put j with
     | true=>simp only [hget_cons,if_neg e]; exact ih
     | false=>
       cases h2:memN see j with
       | false=>simp only [hget_cons,if_neg e]; exact ih
       | true=>simp only [hget_cons,if_neg e]; exact ih
theorem backLow {put:List Nat} {H':Heap} {N:Nat} (hp:∀ k ∈ put,N ≤ k):∀ {H:Heap},namesOk N H=true → backA put H' H=H
 | [],_=>rfl
 | (j,b) :: H,h=>by
   have hj:=namesOk_mem _ _ h (j,b) (List.mem_cons_self ..)
   have hm:memN put j=false:=by
     cases hm:memN put j with
     | false=>rfl
     | true=>have:=hp j ((memN_iff _ _).1 hm); omega
   rw [backA,hm]
   simp only
   rw [backLow hp (namesOk_iff.2 fun x hx=>namesOk_mem _ _ h x (List.mem_cons_of_mem _ hx))]
end Go.Ab
namespace Go.Proofs.YtkongcnmkiihjaaGreatDoor
open Go Go.Ab Go.Proofs
set_option maxRecDepth 20000 in
theorem app126z {X:Heap} {N M:Nat} {v:Value} {bs:List Nat} (hv:reaV X v=some bs) (hne:bs.length ≠ 0) (h0:cellsA X N 0 0=some []) (hs:bs.length ≤ 1048576):builtinA Tryz.prog .append #[126,126] X M [.slice (some ⟨N,0,none⟩) 0 0,v]=some (.slice (some ⟨M,0,some 0⟩) bs.length 0,(M,.ext (bs.map rv) 145 1) :: X,M + 1):=by
 obtain ⟨a,c,rfl,hf,hlt,hc⟩:=rea_src hv hne
 have hsz:Tryz.t145.size=1:=by kernel_rfl
 have hb:Tryz.t145.bytes=4:=by kernel_rfl
 have hz:zeroOk Tryz.t145=true:=by kernel_rfl
 have hsm:smallA 4 bs.length=true:=by
   unfold smallA
   rw [Bool.and_eq_true]
   exact ⟨decide_eq_true (by omega),decide_eq_true (by omega)⟩
 have hnb:Nat.beq (bs.map rv).length bs.length=true:=by rw [List.length_map,Nat.beq_refl]
 rw [show builtinA Tryz.prog .append #[126,126] X M [.slice (some ⟨N,0,none⟩) 0 0,.slice (some a) bs.length c]=appendA Tryz.prog #[126,126] X M (.slice (some ⟨N,0,none⟩) 0 0) (.slice (some a) bs.length c) from rfl]
 unfold appendA
 simp only [List.getElem?_toArray,List.getElem?_cons_zero,List.getElem?_cons_succ,Tryz.underlying126,inf145,lenX,lenV,srcX,srcA,hsz,Nat.mul_one,if_neg hne,hf,if_true,hc,hnb,oneL_rv,Bool.and_self]
 unfold appendTo
 simp only [Nat.zero_add,Nat.le_zero,hne,if_false,hsz,Nat.zero_mul,h0,hb,hsm,hz,Bool.and_self,if_true,List.nil_append]
 rfl
theorem sz159i:Tryz.t159.size=10:=by kernel_rfl
theorem by159:Tryz.t159.bytes ≤ 128:=by decide +kernel
theorem zo159:zeroOk Tryz.t159=true:=by kernel_rfl
theorem build110a {fr:Fr} {H:Heap} {n:Nat} {x:Operand} {s:ByteArray} (hx:evO Tryz.prog fr x=some (.string s)):opBuild Tryz.prog 110 #[(0,x)] fr H n=some (.agg #[.string s,.slice none 0 0],H,n):=by
 unfold opBuild
 simp only [evPs_cons,evPs_nil,hx]
 kernel_rfl
theorem build159 {fr:Fr} {H:Heap} {n:Nat} {x y z:Operand} {a0 a1 a2 a3 a4 a5 a6 a7:Int} {b:Bool} {o:Option Addr} {l c:Nat} (hx:evO Tryz.prog fr x=some (.agg ⟨[iv a0,iv a1,iv a2,iv a3,iv a4,iv a5,iv a6,iv a7]⟩)) (hy:evO Tryz.prog fr y=some (.bool b)) (hz:evO Tryz.prog fr z=some (.slice o l c)):opBuild Tryz.prog 159 #[(0,x),(1,y),(2,z)] fr H n=some (.agg ⟨[iv a0,iv a1,iv a2,iv a3,iv a4,iv a5,iv a6,iv a7,.bool b,.slice o l c]⟩,H,n):=by
 unfold opBuild
 simp only [evPs_cons,evPs_nil,hx,hy,hz]
 kernel_rfl
theorem nm_hset {N k:Nat} {c:Blk}:∀ H:Heap,namesOk N (hset H k c)=namesOk N H
 | []=>rfl
 | (j,b) :: H=>by
   unfold hset
   split
   · rw [namesOk,namesOk]
   · rw [namesOk,namesOk,nm_hset H]
def rowSc (H:Heap) (n:Nat) (v:Value):Prop:=∀ (s:ByteArray) (a:Addr) (k c i:Nat) (q:Value),v = .agg ⟨[.string s,.slice (some a) k c]⟩ → i < k → cellA H a.block (a.off + i * 10 + 9)=some q → sc (· < n) q
abbrev fr59 (n i:Nat) (a:Option Addr) (k c:Nat):Fr:=[(2,ptA (n + 1)),(3,ptA (n + 2)),(10,.slice a k c),(11,iv k),(12,iv i)]
set_option maxHeartbeats 6400000 in
set_option maxRecDepth 100000 in
theorem w59 {H:Heap} {n:Nat} {v:Value} {s:ByteArray} {ts:List Trc} (hv:shtV H v=some (s,ts)) (hlt:∀ k b,hget H k=some b → k < n) (hsm:∀ x ∈ ts,x.smp.length ≤ 1048576) (hsq:rowSc H n v):∃ u H' n',AC Tryz.prog 59 [v] H n u H' n' ∧ MadeS H n H' n' u (s,ts):=by
 replace hv:=shtV_tidy (n:=n) hlt hv
 have hr0:=recT_ok (P:=Tryz.prog) (l:=[]) (by simp)
 obtain ⟨u,rfl,ht⟩:=shtV_form hv
 obtain ⟨oa,c,rfl,hl31,_,hrow⟩:=trcV_form ht
 have hT:∀ j,n ≤ j → hget (tidy n H) j=none:=fun j hj=>by
   cases hc:hget (tidy n H) j with
   | none=>rfl
   | some b=>exact absurd (tidy_lt _ _ hc) (by omega)
 refine made_sht (vf:=id) (ts:=ts) (s:=s) Tryz.func59 rfl (by kernel_rfl) rfl [2,3,10,11,12] hlt (fun _=>rfl) hl31 (fun x hx=>by have:=hsm x hx; omega) ?_
 obtain ⟨L,hL⟩:∃ L,(n + 1,Blk.cells [.string ⟨#[]⟩,.slice none 0 0] 110) :: (n,Blk.cells [.string s,.slice oa ts.length c] 103) :: tidy n H=L:=⟨_,rfl⟩
 have hS:Sub (tidy n H) L:=by rw [← hL]; exact (Sub.cons (hT _ (Nat.le_refl _)) (Sub.refl _)).trans (Sub.cons (by rw [hget_cons,if_neg (by omega)]; exact hT _ (by omega)) (Sub.refl _))
 have hLn:namesOk (n + 2) L=true:=by rw [← hL]; exact namesOk_put (by omega) (namesOk_put (by omega) (by simp))
 have hLlt:∀ k b,hget L k=some b → k < n + 2:=fun k b hk=>namesOk_iff.1 hLn (k,b) (hget_mem _ _ _ hk)
 have hLp:∀ k b,hget L k=some b → plainB2 b=true:=fun k b hk=>by
   rw [← hL,hget_cons,hget_cons] at hk
   split at hk
   · injection hk with hk; rw [← hk]; rfl
   split at hk
   · injection hk with hk; rw [← hk]; rfl
   · exact (hget_tidy.1 hk).2.2
 have hb0:hget L n=some (.cells [.string s,.slice oa ts.length c] 103):=by rw [← hL,hget_cons,if_neg (by omega),hget_cons,if_pos rfl]
 have hb1:hget L (n + 1)=some (.cells [.string ⟨#[]⟩,.slice none 0 0] 110):=by rw [← hL,hget_cons,if_pos rfl]
 have hL2:hget L (n + 2)=none:=by
   cases hc:hget L (n + 2) with
   | none=>rfl
   | some b=>have:=hLlt _ _ hc; omega
 have hc0:cellA L n 0=some (.string s):=by rw [cellA_eq,hb0]; rfl
 refine E.seq (E.reg hr0 (by simp; rfl) ?_)
 rw [hL]
 refine E.seq ?_
 have hbd:=fun (fr:Fr) (H:Heap) (m:Nat) (h:evO Tryz.prog fr (.tmp 7)=some (.string s))=>build110a (fr:=fr) (H:=H) (n:=m) h
 refine E.reg hr0 (by simp [-cellA,hc0,hbd]; rfl) ?_
 obtain ⟨Z,hZ⟩:∃ Z,(n + 2,Blk.cells [.string s,.slice none 0 0] 110) :: L=Z:=⟨_,rfl⟩
 rw [hZ]
 have hLZ:Sub L Z:=by rw [← hZ]; exact Sub.cons hL2 (Sub.refl _)
 have hMZ:Ab.MS true L (n + 2) 159 110 145 (n + 2) s [] [] Z (n + 3) (n + 2):=by
   refine ⟨hLZ,by rw [← hZ]; exact namesOk_put (by omega) (namesOk_mono (by omega) _ hLn),by omega,rfl,by simp,fun h=>absurd rfl h,by rw [← hZ,hget_cons,if_pos rfl]; rfl,by omega,fun i x r hx=>by simp at hx,fun i j r q _ hr=>by simp at hr⟩
 have hz1:cellA Z n 1=some (.slice oa ts.length c):=by rw [cellA_eq,hLZ _ _ hb0]; rfl
 refine E.seq (E.seq (E.reg hr0 (by simp [-cellA,hz1]; rfl) ?_))
 refine E.block (E.loop ?_)
 refine EL.ind (fun x:Nat × Heap × Nat × Nat × List Value=>{ fr:=fr59 n x.1 oa ts.length c,sz:=32,H:=x.2.1,n:=x.2.2.1,marks:=[],vs:=[2,3,10,11,12] }) (fun x=>ts.length - x.1) (fun x=>x.1 ≤ ts.length ∧ Ab.MS true L (n + 2) 159 110 145 (n + 2) s (ts.take x.1) x.2.2.2.2 x.2.1 x.2.2.1 x.2.2.2.1 ∧ n + 2 ≤ x.2.2.2.1) (0,Z,n + 3,n + 2,[]) (.keep rfl rfl rfl (by simp) (Sub.refl _)) ⟨Nat.zero_le _,hMZ,Nat.le_refl _⟩ (fun _=>rfl) ?_
 rintro ⟨i,Hx,N,o,rs⟩ ⟨hi,hM,hol⟩
 dsimp only at hi hM hol ⊢
 have hbig:=hM.big
 have hw:IntKind.i64.wrap ((i:Int) + 1)=(i:Int) + 1:=W_in (by omega) (by omega)
 have htl:(ts.take i).length=i:=by rw [List.length_take]; omega
 have hbox:=hM.box
 rw [htl] at hbox
 refine E.seq (E.reg hr0 (by simp; rfl) ?_)
 refine E.seq ?_
 by_cases hil:i < ts.length
 · refine E.cond (t:=true) (by simp [hil]) (fun _=>?_) (fun h=>by cases h)
   obtain ⟨a,q,rfl,hf,hcs,h8,hq⟩:=hrow i hil
   obtain ⟨oq,cq,rfl,hlq,_,_⟩:=reaV_form hq
   obtain ⟨a0,a1,a2,a3,a4,a5,a6,a7,hhd⟩:=len8 h8
   have hld:=load144 (hM.sub.cells (hS.cells hcs))
   have htk:ts.take (i + 1)=ts.take i ++ [ts[i]]:=List.take_succ_eq_append_getElem hil
   have hsmi:=hsm _ (List.getElem_mem hil)
   have hsc_old:∀ b,oq=some b → b.block < n:=fun b hb=>by
     obtain ⟨_,hc9,_⟩:=trc_cells hcs h8
     have hc9':=Sub.cell (H':=H) (fun k b hk=>(hget_tidy.1 hk).1) hc9
     have h:=hsq s a _ c i _ rfl hil hc9'
     rw [hb] at h
     exact h
   obtain ⟨T,hTT⟩:∃ T,ts[i]=T:=⟨_,rfl⟩
   rw [hTT] at hsmi htk h8 hhd hlq hq hld
   obtain ⟨ho,hho⟩:∃ ho,T.hole=ho:=⟨_,rfl⟩
   rw [hhd,hho] at hld
   simp only [List.map_cons,List.map_nil,List.cons_append,List.nil_append] at hld
   refine E.skip (E.seq ?_)
   refine E.block (E.seq (E.reg hr0 (by simp [-loadA,-flat,hil,hf,hld]; rfl) ?_))
   obtain ⟨V,hV⟩:∃ V,(N,Blk.cells [iv a0,iv a1,iv a2,iv a3,iv a4,iv a5,iv a6,iv a7,.bool ho,.slice oq T.smp.length cq] 144) :: Hx=V:=⟨_,rfl⟩
   have hMV:Ab.MS true L (n + 2) 159 110 145 (n + 2) s (ts.take i) rs V (N + 1) o:=by rw [← hV]; exact hM.skip (fun k c h=>by have:=hLlt k c h; omega) _
   have hMY:=hMV.tidy fun k b h=>⟨by have:=hLlt k b h; omega,hLp k b h⟩
   have hVN:hget V N=some (.cells [iv a0,iv a1,iv a2,iv a3,iv a4,iv a5,iv a6,iv a7,.bool ho,.slice oq T.smp.length cq] 144):=by rw [← hV,hget_cons,if_pos rfl]
   obtain ⟨Y,hY⟩:∃ Y,tidy (N + 1) V=Y:=⟨_,rfl⟩
   have hYN:hget Y N=some (.cells [iv a0,iv a1,iv a2,iv a3,iv a4,iv a5,iv a6,iv a7,.bool ho,.slice oq T.smp.length cq] 144):=by rw [← hY]; exact hget_tidy.2 ⟨hVN,by omega,rfl⟩
   have hYp:plainH Y=true:=by rw [← hY]; simp
   rw [hY] at hMY
   refine E.lead { fr:=(5,ptA N) :: fr59 n i (some a) ts.length c,sz:=32,H:=Y,n:=N + 1,marks:=[],vs:=[2,3,10,11,12] } (.keep rfl rfl rfl (by simp) (fun k b hk=>by rw [← hY] at hk; rw [← hV] at hk; exact (hget_tidy.1 hk).1)) ?_
   have hYnm:=hMY.nm
   have hYnm2:namesOk (N + 1 + 1) Y=true:=namesOk_mono (Nat.le_succ _) _ hYnm
   have hYnm3:namesOk (N + 1 + 1 + 1) Y=true:=namesOk_mono (by omega) _ hYnm
   have hYnm4:namesOk (N + 1 + 1 + 1 + 1) Y=true:=namesOk_mono (by omega) _ hYnm
   have htk1:=takeNew_frz hYnm
   have htk2:=takeNew_frz hYnm2
   have htk3:=takeNew_frz hYnm3
   have hqY:reaV Y (.slice oq T.smp.length cq)=some T.smp:=listV_mono decR_mono (hS.trans hMY.sub) hq
   have hYn:∀ j,N + 1 ≤ j → hget Y j=none:=fun j hj=>by
     cases hc:hget Y j with
     | none=>rfl
     | some b=>have:=namesOk_iff.1 hYnm (j,b) (hget_mem _ _ _ hc); dsimp only at this; omega
   have d8:cellsA Y N 0 8=some [iv a0,iv a1,iv a2,iv a3,iv a4,iv a5,iv a6,iv a7]:=by rw [cellsA_eq,hYN]; rfl
   have e8:cellA Y N 8=some (.bool ho):=by rw [cellA_eq,hYN]; rfl
   have e9:cellA Y N 9=some (.slice oq T.smp.length cq):=by rw [cellA_eq,hYN]; rfl
   have hboxy:=hMY.box
   rw [htl] at hboxy
   have eb:cellA Y (n + 2) 1=some (outS o i):=by rw [cellA_eq,hboxy]; rfl
   have l2:n + 2 < N + 1:=by omega
   have hkr:∀ (j:Nat) q m,rs[j]? = some q → nmO q=some m → m < N + 1:=fun j q m hq hm=>by
     have hj:j < (ts.take i).length:=by rw [hM.len]; exact (List.getElem?_eq_some_iff.1 hq).1
     exact ((hMY.row j _ q (List.getElem?_eq_getElem hj) hq).1.lt hm).2
   have hbt:=fun (oo:Option Addr) (ll cc:Nat) (fr:Fr) (H:Heap) (m:Nat) (h1:evO Tryz.prog fr (.tmp 19)=some (.agg ⟨[iv a0,iv a1,iv a2,iv a3,iv a4,iv a5,iv a6,iv a7]⟩)) (h2:evO Tryz.prog fr (.tmp 21)=some (.bool ho)) (h3:evO Tryz.prog fr (.tmp 25)=some (.slice oo ll cc))=>build159 (fr:=fr) (H:=H) (n:=m) h1 h2 h3
   by_cases he:T.smp.length=0
   · have heS:T.smp=[]:=List.length_eq_zero_iff.1 he
     obtain ⟨r,hrr⟩:∃ r,Value.slice (some ⟨N + 1,0,none⟩) 0 0=r:=⟨_,rfl⟩
     have hMy:Ab.MS true L (n + 2) 159 110 145 (n + 2) s (ts.take i) rs ((N + 1,Blk.cells [] 145) :: Y) (N + 1 + 1) o:=hMY.skip (fun k c h=>by have:=hLlt k c h; omega) _
     have hrow2:RowOk 145 ((N + 1,Blk.cells [] 145) :: Y) (n + 2) (N + 1 + 1) r T.smp:=by
       rw [heS,← hrr]
       exact .inr ⟨N + 1,true,by omega,by omega,rfl,by simp [Ab.rowV]⟩
     have hrn:∀ m,nmO r=some m → N + 1 ≤ m:=fun m h=>by
       rw [← hrr] at h
       have h:some (N + 1)=some m:=h
       injection h with h; omega
     have htc:tc T r=[iv a0,iv a1,iv a2,iv a3,iv a4,iv a5,iv a6,iv a7,.bool ho,r]:=by rw [tc,hhd,hho]; rfl
     obtain ⟨Hw,Hz,hap2,hst2,hM2⟩:=hMy.app (P:=Tryz.prog) (st:=108) (i:=Tryz.t159) hLlt Tryz.underlying108 inf159 sz159i zo159 by159 (by omega) h8 hrow2 (fun e=>by have:=hrn _ e; omega) (fun h0 e=>by have:=hrn _ e; have:=hMY.out h0; omega) (fun q hq=>by
       obtain ⟨j,hj,rfl⟩:=List.getElem_of_mem hq
       cases hm:nmO r with
       | none=>exact .inl rfl
       | some m=>
         refine .inr fun e=>?_
         have:=hkr j _ m (List.getElem?_eq_getElem hj) e.symm
         have:=hrn m hm
         omega)
     rw [htl,htc] at hap2
     rw [htl] at hst2
     rw [outS_ne (Nat.succ_ne_zero _)] at hap2 hst2
     rw [← hrr] at hap2
     have hap:=fun X M=>app126e (X:=X) (N:=N + 1) (M:=M) (c:=cq) (oa:=oq)
     have hHwn:namesOk (N + 1 + 1 + 1 + 1) Hz=true:=hM2.nm
     obtain ⟨xx,hxx⟩:=storeA_form hst2
     have hHwn2:namesOk (N + 1 + 1 + 1 + 1) Hw=true:=by rw [← nm_hset (k:=n + 2) (c:=xx),← hxx]; exact hHwn
     rw [he] at e9
     have hbk:∀ H',backA [N + 1] H' Y=Y:=fun H'=>backLow (fun k hk=>by rw [List.mem_singleton] at hk; omega) hYnm
     have hbt:=hbt (some ⟨N + 1,0,none⟩) 0 0
     have e9':cellA ((N + 1,Blk.cells [] 145) :: Y) N 9=some (.slice oq 0 cq):=by rw [cellA_eq,hget_cons,if_neg (by omega),← cellA_eq]; exact e9
     have hoq:∀ b,oq=some b → b.block < N + 1:=fun b hb=>by
       have:=hsc_old b hb
       omega
     have hrow9:∀ X M,builtinA Tryz.prog .append #[126,126] X M [.slice (some ⟨N + 1,0,none⟩) 0 0,.slice oq 0 cq]=some (.slice (some ⟨N + 1,0,none⟩) 0 0,X,M):=fun X M=>app126e
     cases oq with
     | none=>
       refine E.drawX mixed hr0 [12,14] [6,9,11,12,14] [9,12,14] [9] (by kernel_rfl) (by simp [-cellA,-cellsA,-readA,-builtinA,-storeA,cellA_read,cellsA_read,handX,backA,handA_nn,hYnm,d8,e8,e9',eb,l2,hap,hbt,hbk,hap2,hst2,hHwn,hHwn2]; rfl) ?_
       refine E.reg hr0 (by simp [hw]; rfl) ?_
       exact ⟨(i + 1,Hz,N + 1 + 1 + 1 + 1,N + 1 + 1 + 1,rs ++ [r]),.keep rfl rfl rfl (by simp) (Sub.refl _),⟨hil,by rw [htk]; exact hM2,by dsimp only; omega⟩,by dsimp only; omega⟩
     | some b=>
       have hb1:=hoq b rfl
       have hb2:b.block < N + 1 + 1:=by omega
       refine E.drawX mixed hr0 [12,14] [6,9,11,12,14] [9,12,14] [9] (by kernel_rfl) (by simp [-cellA,-cellsA,-readA,-builtinA,-storeA,cellA_read,cellsA_read,handX,backA,handA_nn,hYnm,d8,e8,e9',eb,l2,hb1,hb2,hap,hbt,hbk,hap2,hst2,hHwn,hHwn2]; rfl) ?_
       refine E.reg hr0 (by simp [hw]; rfl) ?_
       exact ⟨(i + 1,Hz,N + 1 + 1 + 1 + 1,N + 1 + 1 + 1,rs ++ [r]),.keep rfl rfl rfl (by simp) (Sub.refl _),⟨hil,by rw [htk]; exact hM2,by dsimp only; omega⟩,by dsimp only; omega⟩
   · obtain ⟨r,hrr⟩:∃ r,Value.slice (some ⟨N + 1 + 1,0,some 0⟩) T.smp.length 0=r:=⟨_,rfl⟩
     have hMy:Ab.MS true L (n + 2) 159 110 145 (n + 2) s (ts.take i) rs ((N + 1 + 1,Blk.ext (T.smp.map rv) 145 1) :: (N + 1,Blk.cells [] 145) :: Y) (N + 1 + 1 + 1) o:=(hMY.skip (fun k c h=>by have:=hLlt k c h; omega) _).skip (fun k c h=>by have:=hLlt k c h; omega) _
     have hrow2:RowOk 145 ((N + 1 + 1,Blk.ext (T.smp.map rv) 145 1) :: (N + 1,Blk.cells [] 145) :: Y) (n + 2) (N + 1 + 1 + 1) r T.smp:=by
       rw [← hrr]
       exact .inr ⟨N + 1 + 1,false,by omega,by omega,rfl,by simp [Ab.rowV]⟩
     have hrn:∀ m,nmO r=some m → N + 1 ≤ m:=fun m h=>by
       rw [← hrr] at h
       have h:some (N + 1 + 1)=some m:=h
       injection h with h; omega
     have htc:tc T r=[iv a0,iv a1,iv a2,iv a3,iv a4,iv a5,iv a6,iv a7,.bool ho,r]:=by rw [tc,hhd,hho]; rfl
     obtain ⟨Hw,Hz,hap2,hst2,hM2⟩:=hMy.app (P:=Tryz.prog) (st:=108) (i:=Tryz.t159) hLlt Tryz.underlying108 inf159 sz159i zo159 by159 (by omega) h8 hrow2 (fun e=>by have:=hrn _ e; omega) (fun h0 e=>by have:=hrn _ e; have:=hMY.out h0; omega) (fun q hq=>by
       obtain ⟨j,hj,rfl⟩:=List.getElem_of_mem hq
       cases hm:nmO r with
       | none=>exact .inl rfl
       | some m=>
         refine .inr fun e=>?_
         have:=hkr j _ m (List.getElem?_eq_getElem hj) e.symm
         have:=hrn m hm
         omega)
     rw [htl,htc] at hap2
     rw [htl] at hst2
     rw [outS_ne (Nat.succ_ne_zero _)] at hap2 hst2
     rw [← hrr] at hap2
     have hHwn:namesOk (N + 1 + 1 + 1 + 1 + 1) Hz=true:=hM2.nm
     obtain ⟨xx,hxx⟩:=storeA_form hst2
     have hHwn2:namesOk (N + 1 + 1 + 1 + 1 + 1) Hw=true:=by rw [← nm_hset (k:=n + 2) (c:=xx),← hxx]; exact hHwn
     have hbk:∀ H',backA [N + 1] H' Y=Y:=fun H'=>backLow (fun k hk=>by rw [List.mem_singleton] at hk; omega) hYnm
     have hbt:=hbt (some ⟨N + 1 + 1,0,some 0⟩) T.smp.length 0
     obtain ⟨aq,cq',e,hfq,_,hcq⟩:=rea_src hqY he
     injection e with e1 _ e3
     subst e1 e3
     have hb1:aq.block < N + 1:=by have:=hsc_old aq rfl; omega
     have hb2:aq.block < N + 1 + 1:=by omega
     have hm2:memN [N + 1,aq.block] aq.block=true:=(memN_iff _ _).2 (by simp)
     have hm1:memN [N + 1] aq.block=false:=by
       cases hb:memN [N + 1] aq.block with
       | false=>rfl
       | true=>
         have:=(memN_iff _ _).1 hb
         rw [List.mem_singleton] at this
         omega
     have hre:∀ m,builtinA Tryz.prog .append #[126,126] ((N + 1,.cells [] 145) :: handA [N + 1,aq.block] [N + 1] Y) m [.slice (some ⟨N + 1,0,none⟩) 0 0,.slice (some aq) T.smp.length cq]=some (.slice (some ⟨m,0,some 0⟩) T.smp.length 0,(m,.ext (T.smp.map rv) 145 1) :: (N + 1,.cells [] 145) :: handA [N + 1,aq.block] [N + 1] Y,m + 1):=fun m=>by
       refine app126z ?_ he (by rw [cellsA_eq,hget_cons,if_pos rfl]; rfl) hsmi
       refine listV_mk (cs:=T.smp.map rv) hfq ?_ (by simp) hlq rv_dec
       rw [List.length_map,cellsA_eq,hget_cons,if_neg (by omega),hgetHand hYp,hm1,hm2]
       rw [cellsA_eq] at hcq
       cases hg:hget Y aq.block with
       | none=>rw [hg] at hcq; cases hcq
       | some b=>
         rw [hg] at hcq
         cases b <;> simp [cellsB,frz] at hcq ⊢ <;> first | exact hcq | (obtain ⟨h1,h2⟩:=hcq; exact ⟨h1,h2⟩)
     have e9':cellA ((N + 1,Blk.cells [] 145) :: Y) N 9=some (.slice (some aq) T.smp.length cq):=by rw [cellA_eq,hget_cons,if_neg (by omega),← cellA_eq]; exact e9
     refine E.drawX mixed hr0 [12,14] [6,9,11,12,14] [9,12,14] [9] (by kernel_rfl) (by simp [-cellA,-cellsA,-readA,-builtinA,-storeA,cellA_read,cellsA_read,handX,backA,handA_nn,hYnm,d8,e8,e9',eb,l2,hb1,hb2,hre,hbt,hbk,hap2,hst2,hHwn,hHwn2]; rfl) ?_
     refine E.reg hr0 (by simp [hw]; rfl) ?_
     exact ⟨(i + 1,Hz,N + 1 + 1 + 1 + 1 + 1,N + 1 + 1 + 1 + 1,rs ++ [r]),.keep rfl rfl rfl (by simp) (Sub.refl _),⟨hil,by rw [htk]; exact hM2,by dsimp only; omega⟩,by dsimp only; omega⟩
 · have hil':i=ts.length:=by omega
   subst hil'
   refine E.cond (t:=false) (by simp) (fun h=>by cases h) (fun _=>?_)
   refine E.exit ?_
   rw [List.take_length] at hM htl
   have hld3:=load110 (H:=Hx) (n:=n + 2) (s:=s) (u:=outS o ts.length) hbox
   have hb1x:=hM.sub _ _ hb1
   have hst3:storeA Hx (n + 1) 0 [.string s,outS o ts.length]=some (hset Hx (n + 1) (.cells [.string s,outS o ts.length] 110)):=store_all hb1x rfl
   have hld4:=load110 (H:=hset Hx (n + 1) (.cells [.string s,outS o ts.length] 110)) (n:=n + 1) (s:=s) (u:=outS o ts.length) (by rw [hget_hset,if_pos rfl,hb1x]; rfl)
   have hone:oneL [Value.string s,outS o ts.length]=true:=by
     unfold outS
     split <;> rfl
   have hM0:=MS.low hM hS (show n ≤ n + 2 by omega)
   have hM1:Ab.MS true (tidy n H) n 159 110 145 (n + 2) s ts rs (hset Hx (n + 1) (.cells [.string s,outS o ts.length] 110)) N o:=hM0.other (Nat.le_refl _) (namesOk_hset hM.nm) (sub_hset hM0.sub (hT _ (by omega))) fun m hm1 hm2 hm=>by
     rw [hget_hset,if_neg]
     rcases hm with rfl | rfl | ⟨r,hr,hm⟩
     · omega
     · omega
     · obtain ⟨j,hj,rfl⟩:=List.getElem_of_mem hr
       have hjt:j < ts.length:=by rw [hM.len]; exact hj
       have:=((hM.row j _ _ (List.getElem?_eq_getElem hjt) (List.getElem?_eq_getElem hj)).1.lt hm).1
       omega
   refine E.seq (E.reg hr0 (by simp [-loadA,-storeA,-oneL,hld3,hst3,hone]; rfl) ?_)
   refine E.ret ?_
   exact outM.ret _ rfl (vs:=[.agg ⟨[.string s,outS o ts.length]⟩]) (by simp [-loadA,resultsA,resultA,Tryz.results59,hld4]) ⟨true,159,110,145,n + 2,rs,o,rfl,fun _=>rfl,hM1⟩
def Q82 (s:ByteArray) (ts:List Trc) (_:List Value) (H:Heap) (n:Nat) (u:Value) (H':Heap) (n':Nat):Prop:=MadeS H n H' n' u (s,ts) ∧ ∃ kb rs o,u = .agg ⟨[.string s,outrV true o ts.length]⟩ ∧ Ab.MS true (tidy n H) n 144 103 145 kb s ts rs H' n' o
set_option maxHeartbeats 3200000 in
set_option maxRecDepth 100000 in
theorem w82M {H:Heap} {n:Nat} {v:Value} {s:ByteArray} {ts:List Trc} (hv:shtV H v=some (s,ts)) (hlt:∀ k b,hget H k=some b → k < n) (hsm:∀ x ∈ ts,x.smp.length ≤ 1048576) (hne:ts ≠ []):∃ u H' n',AC Tryz.prog 82 [v] H n u H' n' ∧ Q82 s ts [v] H n u H' n':=by
 replace hv:=shtV_tidy (n:=n) hlt hv
 have hr0:=recT_ok (P:=Tryz.prog) (l:=[]) (by simp)
 obtain ⟨u,rfl,ht⟩:=shtV_form hv
 obtain ⟨oa,c,rfl,hl31,_,hrow⟩:=trcV_form ht
 have hT:∀ j,n ≤ j → hget (tidy n H) j=none:=fun j hj=>by
   cases hc:hget (tidy n H) j with
   | none=>rfl
   | some b=>exact absurd (tidy_lt _ _ hc) (by omega)
 refine made_shtM (F:=true) (t:=144) (tb:=103) (tf:=145) (ts:=ts) (s:=s) Tryz.func82 rfl (by kernel_rfl) rfl [1,2,3,4] hlt hl31 (fun x hx=>by have:=hsm x hx; omega) hne ?_
 obtain ⟨L,hL⟩:∃ L,(n + 1,Blk.cells [.string ⟨#[]⟩,.slice none 0 0] 103) :: (n,Blk.cells [.string s,.slice oa ts.length c] 103) :: tidy n H=L:=⟨_,rfl⟩
 have hS:Sub (tidy n H) L:=by rw [← hL]; exact (Sub.cons (hT _ (Nat.le_refl _)) (Sub.refl _)).trans (Sub.cons (by rw [hget_cons,if_neg (by omega)]; exact hT _ (by omega)) (Sub.refl _))
 have hLn:namesOk (n + 2) L=true:=by rw [← hL]; exact namesOk_put (by omega) (namesOk_put (by omega) (by simp))
 have hLlt:∀ k b,hget L k=some b → k < n + 2:=fun k b hk=>namesOk_iff.1 hLn (k,b) (hget_mem _ _ _ hk)
 have hb0:hget L n=some (.cells [.string s,.slice oa ts.length c] 103):=by rw [← hL,hget_cons,if_neg (by omega),hget_cons,if_pos rfl]
 have hb1:hget L (n + 1)=some (.cells [.string ⟨#[]⟩,.slice none 0 0] 103):=by rw [← hL,hget_cons,if_pos rfl]
 have hL2:hget L (n + 2)=none:=by
   cases hc:hget L (n + 2) with
   | none=>rfl
   | some b=>have:=hLlt _ _ hc; omega
 have hc0:cellA L n 0=some (.string s):=by rw [cellA_eq,hb0]; rfl
 refine E.seq (E.reg hr0 (by simp; rfl) ?_)
 rw [hL]
 refine E.seq ?_
 have hbd:=fun (fr:Fr) (H:Heap) (m:Nat) (h:evO Tryz.prog fr (.tmp 7)=some (.string s))=>build103a (fr:=fr) (H:=H) (n:=m) h
 refine E.reg hr0 (by simp [-cellA,hc0,hbd]; rfl) ?_
 obtain ⟨Z,hZ⟩:∃ Z,(n + 2,Blk.cells [.string s,.slice none 0 0] 103) :: L=Z:=⟨_,rfl⟩
 rw [hZ]
 have hMZ:Ab.MS true L (n + 2) 144 103 145 (n + 2) s [] [] Z (n + 3) (n + 2):=by
   refine ⟨by rw [← hZ]; exact Sub.cons hL2 (Sub.refl _),by rw [← hZ]; exact namesOk_put (by omega) (namesOk_mono (by omega) _ hLn),by omega,rfl,by simp,fun h=>absurd rfl h,by rw [← hZ,hget_cons,if_pos rfl]; rfl,by omega,fun i x r hx=>by simp at hx,fun i j r q _ hr=>by simp at hr⟩
 refine E.seq (E.seq (E.reg hr0 (by simp; rfl) ?_))
 refine E.block (E.loop ?_)
 refine EL.ind (fun x:Nat × Heap × Nat × Nat × List Value=>{ fr:=fr82 n x.1,sz:=33,H:=x.2.1,n:=x.2.2.1,marks:=[],vs:=[1,2,3,4] }) (fun x=>ts.length - x.1) (fun x=>x.1 ≤ ts.length ∧ Ab.MS true L (n + 2) 144 103 145 (n + 2) s (ts.take x.1) x.2.2.2.2 x.2.1 x.2.2.1 x.2.2.2.1 ∧ n + 2 ≤ x.2.2.2.1) (0,Z,n + 3,n + 2,[]) (.keep rfl rfl rfl (by simp) (Sub.refl _)) ⟨Nat.zero_le _,hMZ,Nat.le_refl _⟩ (fun _=>rfl) ?_
 rintro ⟨i,Hx,N,o,rs⟩ ⟨hi,hM,hol⟩
 dsimp only at hi hM hol ⊢
 have hbig:=hM.big
 have hw:IntKind.i64.wrap ((i:Int) + 1)=(i:Int) + 1:=W_in (by omega) (by omega)
 have hc1:cellA Hx n 1=some (.slice oa ts.length c):=by rw [cellA_eq,hM.sub _ _ hb0]; rfl
 have hl1:loadA Tryz.prog 101 Hx (.pointer (some ⟨n,1,none⟩))=some (.slice oa ts.length c):=by simp [-cellA,hc1]
 have htl:(ts.take i).length=i:=by rw [List.length_take]; omega
 have hbox:=hM.box
 rw [htl] at hbox
 refine E.seq (E.seq (E.reg hr0 (by simp [-loadA,hl1]; rfl) ?_))
 by_cases hil:i < ts.length
 · refine E.cond (t:=true) (by simp [hil]) (fun _=>?_) (fun h=>by cases h)
   obtain ⟨a,q,rfl,hf,hcs,h8,hq⟩:=hrow i hil
   obtain ⟨oq,cq,rfl,hlq,_,_⟩:=reaV_form hq
   obtain ⟨a0,a1,a2,a3,a4,a5,a6,a7,hhd⟩:=len8 h8
   have hld:=load144 (hM.sub.cells (hS.cells hcs))
   have htk:ts.take (i + 1)=ts.take i ++ [ts[i]]:=List.take_succ_eq_append_getElem hil
   have hsmi:=hsm _ (List.getElem_mem hil)
   rw [hhd] at hld
   simp only [List.map_cons,List.map_nil,List.cons_append,List.nil_append] at hld
   refine E.skip (E.seq ?_)
   refine E.block (E.seq (E.reg hr0 (by simp [-loadA,-flat,hl1,hil,hf,hld]; rfl) ?_))
   refine E.seq ?_
   have hqX:∀ Y,Sub Hx Y → reaV Y (.slice oq ts[i].smp.length cq)=some ts[i].smp:=fun Y hY=>listV_mono decR_mono (hS.trans (hM.sub.trans hY)) hq
   have hHN:∀ j,N ≤ j → hget Hx j=none:=fun j hj=>by
     cases hc:hget Hx j with
     | none=>rfl
     | some b=>have:=namesOk_iff.1 hM.nm (j,b) (hget_mem _ _ _ hc); dsimp only at this; omega
   have hSub1:∀ b,Sub Hx ((N,b) :: Hx):=fun b=>Sub.cons (hHN _ (Nat.le_refl _)) (Sub.refl _)
   have hSub2:∀ b b',Sub Hx ((N + 1,b') :: (N,b) :: Hx):=fun b b'=>(hSub1 b).trans (Sub.cons (by rw [hget_cons,if_neg (by omega)]; exact hHN _ (by omega)) (Sub.refl _))
   have hMM:=fun b b'=>(hM.skip hLlt b).skip (fun k c h=>by have:=hLlt k c h; omega) b'
   obtain ⟨T,hTT⟩:∃ T,ts[i]=T:=⟨_,rfl⟩
   rw [hTT] at hqX hsmi htk h8 hhd hlq hq ⊢
   obtain ⟨ho,hho⟩:∃ ho,T.hole=ho:=⟨_,rfl⟩
   rw [hho]
   by_cases he:T.smp.length=0
   case' pos=>
     have heS:T.smp=[]:=List.length_eq_zero_iff.1 he
     have hap:=fun X=>app126e (X:=X) (N:=N + 1) (M:=N + 1 + 1) (c:=cq) (oa:=oq)
     rw [he]
     refine E.reg hr0 (by simp [-builtinA,hap]; rfl) ?_
     obtain ⟨r,hrr⟩:∃ r,Value.slice (some ⟨N + 1,0,none⟩) 0 0=r:=⟨_,rfl⟩
     obtain ⟨M,hMd⟩:∃ M,N + 1 + 1=M:=⟨_,rfl⟩
     obtain ⟨Hy,hHy⟩:∃ Hy,(N + 1,Blk.cells [] 145) :: (N,Blk.cells [iv a0,iv a1,iv a2,iv a3,iv a4,iv a5,iv a6,iv a7,.bool ho,.slice (some ⟨N + 1,0,none⟩) 0 0] 144) :: Hx=Hy:=⟨_,rfl⟩
     have hbN:hget Hy N=some (.cells [iv a0,iv a1,iv a2,iv a3,iv a4,iv a5,iv a6,iv a7,.bool ho,r] 144):=by rw [← hHy,← hrr]; simp
     have hMy:Ab.MS true L (n + 2) 144 103 145 (n + 2) s (ts.take i) rs Hy M o:=by rw [← hHy,← hMd]; exact hMM _ _
     have hrow2:RowOk 145 Hy (n + 2) M r T.smp:=by
       rw [heS,← hrr,← hMd]
       exact .inr ⟨N + 1,true,by omega,by omega,rfl,by rw [← hHy]; simp [Ab.rowV]⟩
     have hrn:∀ m,nmO r=some m → N ≤ m:=fun m h=>by
       rw [← hrr] at h
       have h:some (N + 1)=some m:=h
       injection h with h; omega
     have hrS:∃ o l c,r = .slice o l c:=⟨_,_,_,hrr.symm⟩
   case' neg=>
     have hap:=app126 (X:=(N + 1,Blk.cells [] 145) :: (N,Blk.cells [iv a0,iv a1,iv a2,iv a3,iv a4,iv a5,iv a6,iv a7,.bool ho,.slice oq T.smp.length cq] 144) :: Hx) (N:=N + 1) (M:=N + 1 + 1) (hqX _ (hSub2 _ _)) he (by simp) hsmi
     refine E.reg hr0 (by simp [-builtinA,hap]; rfl) ?_
     obtain ⟨r,hrr⟩:∃ r,Value.slice (some ⟨N + 1 + 1,0,some 0⟩) T.smp.length 0=r:=⟨_,rfl⟩
     obtain ⟨M,hMd⟩:∃ M,N + 1 + 1 + 1=M:=⟨_,rfl⟩
     obtain ⟨Hy,hHy⟩:∃ Hy,(N + 1 + 1,Blk.ext (T.smp.map rv) 145 1) :: (N + 1,Blk.cells [] 145) :: (N,Blk.cells [iv a0,iv a1,iv a2,iv a3,iv a4,iv a5,iv a6,iv a7,.bool ho,.slice (some ⟨N + 1 + 1,0,some 0⟩) T.smp.length 0] 144) :: Hx=Hy:=⟨_,rfl⟩
     have hbN:hget Hy N=some (.cells [iv a0,iv a1,iv a2,iv a3,iv a4,iv a5,iv a6,iv a7,.bool ho,r] 144):=by rw [← hHy,← hrr]; simp
     have hMy:Ab.MS true L (n + 2) 144 103 145 (n + 2) s (ts.take i) rs Hy M o:=by rw [← hHy,← hMd]; exact (hMM _ _).skip (fun k c h=>by have:=hLlt k c h; omega) _
     have hrow2:RowOk 145 Hy (n + 2) M r T.smp:=by
       rw [← hrr,← hMd]
       exact .inr ⟨N + 1 + 1,false,by omega,by omega,rfl,by rw [← hHy]; simp [Ab.rowV]⟩
     have hrn:∀ m,nmO r=some m → N ≤ m:=fun m h=>by
       rw [← hrr] at h
       have h:some (N + 1 + 1)=some m:=h
       injection h with h; omega
     have hrS:∃ o l c,r = .slice o l c:=⟨_,_,_,hrr.symm⟩
   all_goals
     refine E.lead { fr:=(5,ptA N) :: fr82 n i,sz:=33,H:=Hy,n:=M,marks:=[],vs:=[1,2,3,4] } (.keep (by show M=_; rw [← hMd]) rfl rfl (by simp) (by rw [← hHy]; exact Sub.refl _)) ?_
     have htc:tc T r=[iv a0,iv a1,iv a2,iv a3,iv a4,iv a5,iv a6,iv a7,.bool ho,r]:=by rw [tc,hhd,hho]; rfl
     have hkr:∀ (j:Nat) q m,rs[j]? = some q → nmO q=some m → m < N:=fun j q m hq hm=>by
       have hj:j < (ts.take i).length:=by rw [hM.len]; exact (List.getElem?_eq_some_iff.1 hq).1
       exact ((hM.row j _ q (List.getElem?_eq_getElem hj) hq).1.lt hm).2
     obtain ⟨Hw,Hz,hap2,hst2,hM2⟩:=hMy.app (P:=Tryz.prog) (st:=101) (i:=Tryz.t144) hLlt Tryz.underlying101 inf144 sz144i zo144 by144 (by omega) h8 hrow2 (fun e=>by have:=hrn _ e; have:=hM.kbn; omega) (fun h0 e=>by have:=hrn _ e; have:=hM.out h0; omega) (fun q hq=>by
       obtain ⟨j,hj,rfl⟩:=List.getElem_of_mem hq
       cases hm:nmO r with
       | none=>exact .inl rfl
       | some m=>
         refine .inr fun e=>?_
         have:=hkr j _ m (List.getElem?_eq_getElem hj) e.symm
         have:=hrn m hm
         omega)
     rw [htl,htc] at hap2
     rw [htl] at hst2
     rw [outS_ne (Nat.succ_ne_zero _)] at hap2 hst2
     have hboxy:=hMy.box
     rw [htl] at hboxy
     have hbc:cellA Hy (n + 2) 1=some (outS o i):=by rw [cellA_eq,hboxy]; rfl
     have hlb:=load144 (H:=Hy) (k:=N) (o:=0) (cs:=[iv a0,iv a1,iv a2,iv a3,iv a4,iv a5,iv a6,iv a7,.bool ho,r]) (by rw [cellsA_eq,hbN]; rfl)
     have hlo:loadA Tryz.prog 101 Hy (.pointer (some ⟨n + 2,1,none⟩))=some (outS o i):=by simp [-cellA,hbc]
     obtain ⟨ro,rl,rc,hrS⟩:=hrS
     subst hrS
     refine E.reg hr0 (by simp [-loadA,-builtinA,-storeA,hlo,hlb,hap2,hst2]; rfl) ?_
     refine E.reg hr0 (by simp [hw]; rfl) ?_
     exact ⟨(i + 1,Hz,M + 1 + 1,M + 1,rs ++ [_]),.keep rfl rfl rfl (by simp) (Sub.refl _),⟨hil,by rw [htk]; exact hM2,by dsimp only; omega⟩,by dsimp only; omega⟩
 · have hil':i=ts.length:=by omega
   subst hil'
   refine E.cond (t:=false) (by simp) (fun h=>by cases h) (fun _=>?_)
   refine E.exit ?_
   rw [List.take_length] at hM htl
   have hld3:=load103 (H:=Hx) (n:=n + 2) (s:=s) (u:=outS o ts.length) hbox
   have hb1x:=hM.sub _ _ hb1
   have hst3:storeA Hx (n + 1) 0 [.string s,outS o ts.length]=some (hset Hx (n + 1) (.cells [.string s,outS o ts.length] 103)):=store_all hb1x rfl
   have hld4:=load103 (H:=hset Hx (n + 1) (.cells [.string s,outS o ts.length] 103)) (n:=n + 1) (s:=s) (u:=outS o ts.length) (by rw [hget_hset,if_pos rfl,hb1x]; rfl)
   have hone:oneL [Value.string s,outS o ts.length]=true:=by
     unfold outS
     split <;> rfl
   have hM0:=MS.low hM hS (show n ≤ n + 2 by omega)
   have hM1:Ab.MS true (tidy n H) n 144 103 145 (n + 2) s ts rs (hset Hx (n + 1) (.cells [.string s,outS o ts.length] 103)) N o:=hM0.other (Nat.le_refl _) (namesOk_hset hM.nm) (sub_hset hM0.sub (hT _ (by omega))) fun m hm1 hm2 hm=>by
     rw [hget_hset,if_neg]
     rcases hm with rfl | rfl | ⟨r,hr,hm⟩
     · omega
     · omega
     · obtain ⟨j,hj,rfl⟩:=List.getElem_of_mem hr
       have hjt:j < ts.length:=by rw [hM.len]; exact hj
       have:=((hM.row j _ _ (List.getElem?_eq_getElem hjt) (List.getElem?_eq_getElem hj)).1.lt hm).1
       omega
   refine E.seq (E.reg hr0 (by simp [-loadA,-storeA,-oneL,hld3,hst3,hone]; rfl) ?_)
   refine E.ret ?_
   exact outM.ret _ rfl (vs:=[.agg ⟨[.string s,outS o ts.length]⟩]) (by simp [-loadA,resultsA,resultA,Tryz.results82,hld4]) ⟨n + 2,rs,o,rfl,hM1⟩
theorem lt_cells {H:Heap} {N k o m:Nat} {cs:List Value} (hn:namesOk N H=true) (h:cellsA H k o m=some cs):k < N:=by
 rw [cellsA_eq] at h
 cases hc:hget H k with
 | none=>rw [hc] at h; cases h
 | some b=>exact namesOk_iff.1 hn (k,b) (hget_mem _ _ _ hc)
theorem lt_cell {H:Heap} {N k o:Nat} {v:Value} (hn:namesOk N H=true) (h:cellA H k o=some v):k < N:=by
 rw [cellA_eq] at h
 cases hc:hget H k with
 | none=>rw [hc] at h; cases h
 | some b=>exact namesOk_iff.1 hn (k,b) (hget_mem _ _ _ hc)
end Go.Proofs.YtkongcnmkiihjaaGreatDoor
namespace Go.Ab
open Go
section
variable {P:Program}
theorem runS_bind {α β:Type} (a:Sem α) (g:α → Sem β):runP P (a >>= g)=(runP P a).bind fun x=>runP P (g x):=by
 show runP P (Sem.bind a g)=_
 induction a with
 | program k ih=>exact ih P
 | mark m k ih=>exact ih
 | _=>rfl
theorem runS_pure {α:Type} (a:α):runP P (pure a:Sem α)=some a:=rfl
theorem runS_program:runP P program=some P:=rfl
theorem runS_und {t:TypeId} {d:TypeDesc} (h:P.underlying t=some d):runP P (underlying t)=some d:=by
 show runP P (match P.underlying t with | some d=>_ | none=>_)=_
 rw [h]
 rfl
theorem runS_ite {α:Type} {c:Prop} [Decidable c] (a b:Sem α):runP P (if c then a else b)=if c then runP P a else runP P b:=by
 split <;> rfl
theorem runS_eq (d : Nat) {t : TypeId} {fs : Array Field} (xs ys : Array Value) (e : Field → Bool) (ht : P.underlying t = some (.struct fs)) (hp : P.stoodInHeld t = false)
   (h:∀ f ∈ fs.toList,f.name ≠ "_" ∧ ∃ a b,runP P (part f.type xs f.offset)=some a ∧ runP P (part f.type ys f.offset)=some b ∧ runP P (Op.equalIn d f.type a b)=some (e f)):runP P (Op.equalIn (d + 1) t (.agg xs) (.agg ys))=some (fs.toList.all e):=by
 simp only [Op.equalIn,runS_bind,runS_und ht,Option.bind_some,runS_program,hp,Bool.false_eq_true,if_false]
 rw [← Array.forIn_toList]
 generalize fs.toList=fl at h
 induction fl with
 | nil=>rfl
 | cons f fl ih=>
   obtain ⟨hn,a,b,h1,h2,h3⟩:=h f (List.mem_cons_self ..)
   have ih:=ih fun f hf=>h f (List.mem_cons_of_mem _ hf)
   simp only [List.forIn_cons,runS_bind,runS_ite]
   rw [if_pos hn]
   cases he:e f with
   | true=>
     simp only [h1,h2,h3,he,Option.bind_some,Bool.not_true,Bool.false_eq_true,if_false,runS_pure,List.all_cons,Bool.true_and]
     exact ih
   | false=>
     simp only [h1,h2,h3,he,Option.bind_some,Bool.not_false,if_true,runS_pure,List.all_cons,Bool.false_and]
theorem runS_int (d:Nat) {t:TypeId} {k k':IntKind} (n m:Int) (h:P.underlying t=some (.int k')):runP P (Op.equalIn (d + 1) t (.int k n) (.int k m))=some (n == m):=by
 simp only [Op.equalIn,runS_bind,runS_und h,Option.bind_some,if_true,runS_pure]
end
section
variable {P:Program}
theorem runA_eq (d : Nat) {t e : TypeId} {N n : Nat} (xs ys : Array Value) (q : Nat → Bool) (ht : P.underlying t = some (.array N e)) (hn : runP P (sizeOf e) = some n)
   (h:∀ i,i < N → ∃ a b,runP P (part e xs (i * n))=some a ∧ runP P (part e ys (i * n))=some b ∧ runP P (Op.equalIn d e a b)=some (q i)):runP P (Op.equalIn (d + 1) t (.agg xs) (.agg ys))=some ((List.range' 0 N 1).all q):=by
 simp only [Op.equalIn,runS_bind,runS_und ht,Option.bind_some,hn]
 simp only [Std.Legacy.Range.forIn_eq_forIn_range',Std.Legacy.Range.size,Nat.sub_zero,Nat.add_one_sub_one,Nat.div_one]
 have hm:∀ i ∈ List.range' 0 N 1,i < N:=fun i hi=>by
   rw [List.mem_range'_1] at hi
   omega
 generalize List.range' 0 N 1=fl at hm
 induction fl with
 | nil=>rfl
 | cons i fl ih=>
   obtain ⟨a,b,h1,h2,h3⟩:=h i (hm i (List.mem_cons_self ..))
   have ih:=ih fun j hj=>hm j (List.mem_cons_of_mem _ hj)
   simp only [List.forIn_cons,runS_bind]
   cases he:q i with
   | true=>
     simp only [h1,h2,h3,he,Option.bind_some,Bool.not_true,Bool.false_eq_true,if_false,runS_pure,List.all_cons,Bool.true_and]
     exact ih
   | false=>
     simp only [h1,h2,h3,he,Option.bind_some,Bool.not_false,if_true,runS_pure,List.all_cons,Bool.false_and]
end
end Go.Ab
namespace Go.Proofs.YtkongcnmkiihjaaGreatDoor
open Go Go.Ab Go.Proofs
theorem eq142v (a b c d e f g h:Int):runP Tryz.prog (Op.equalIn 10000 142 (.agg ⟨[iv a,iv b,iv c,iv d,iv e,iv f,iv g,iv h]⟩) (.agg ⟨[iv a,iv b,iv c,iv d,iv e,iv f,iv g,iv h]⟩))=some true:=by
 have:=runA_eq (P:=Tryz.prog) 9999 (t:=142) (e:=3) (N:=8) (n:=1) ⟨[iv a,iv b,iv c,iv d,iv e,iv f,iv g,iv h]⟩ ⟨[iv a,iv b,iv c,iv d,iv e,iv f,iv g,iv h]⟩ (fun _=>true) Tryz.underlying142 (by kernel_rfl) fun i hi=>?_
 · exact this
 · have hs:∀ x:Int,runP Tryz.prog (Op.equalIn 9999 3 (iv x) (iv x))=some true:=fun x=>by
     rw [runS_int _ _ _ Tryz.underlying3]
     simp
   rcases (show i=0 ∨ i=1 ∨ i=2 ∨ i=3 ∨ i=4 ∨ i=5 ∨ i=6 ∨ i=7 by omega) with rfl | rfl | rfl | rfl | rfl | rfl | rfl | rfl
   · exact ⟨iv a,iv a,by kernel_rfl,by kernel_rfl,hs _⟩
   · exact ⟨iv b,iv b,by kernel_rfl,by kernel_rfl,hs _⟩
   · exact ⟨iv c,iv c,by kernel_rfl,by kernel_rfl,hs _⟩
   · exact ⟨iv d,iv d,by kernel_rfl,by kernel_rfl,hs _⟩
   · exact ⟨iv e,iv e,by kernel_rfl,by kernel_rfl,hs _⟩
   · exact ⟨iv f,iv f,by kernel_rfl,by kernel_rfl,hs _⟩
   · exact ⟨iv g,iv g,by kernel_rfl,by kernel_rfl,hs _⟩
   · exact ⟨iv h,iv h,by kernel_rfl,by kernel_rfl,hs _⟩
theorem eq142 {x y:Operand} {H:Heap} {n:Nat} (a b c d e f g p:Int):binV Tryz.prog .eql 142 x y (.agg ⟨[iv a,iv b,iv c,iv d,iv e,iv f,iv g,iv p]⟩) (.agg ⟨[iv a,iv b,iv c,iv d,iv e,iv f,iv g,iv p]⟩) H n=some (.bool true,H,n):=by
 have h:runP Tryz.prog (do eqGuard .eql 142 x y (.agg ⟨[iv a,iv b,iv c,iv d,iv e,iv f,iv g,iv p]⟩) (.agg ⟨[iv a,iv b,iv c,iv d,iv e,iv f,iv g,iv p]⟩); binOp .eql 142 (.agg ⟨[iv a,iv b,iv c,iv d,iv e,iv f,iv g,iv p]⟩) (.agg ⟨[iv a,iv b,iv c,iv d,iv e,iv f,iv g,iv p]⟩))=some (.bool true):=by
   rw [runS_bind]
   have h1:runP Tryz.prog (eqGuard .eql 142 x y (.agg ⟨[iv a,iv b,iv c,iv d,iv e,iv f,iv g,iv p]⟩) (.agg ⟨[iv a,iv b,iv c,iv d,iv e,iv f,iv g,iv p]⟩))=some ():=by kernel_rfl
   rw [h1,Option.bind_some]
   show runP Tryz.prog (Op.equalIn 10000 142 (.agg ⟨[iv a,iv b,iv c,iv d,iv e,iv f,iv g,iv p]⟩) (.agg ⟨[iv a,iv b,iv c,iv d,iv e,iv f,iv g,iv p]⟩) >>= fun b=>pure (Value.bool b))=_
   rw [runS_bind,eq142v]
   rfl
 have ha:afq (.agg ⟨[iv a,iv b,iv c,iv d,iv e,iv f,iv g,iv p]⟩)=true:=rfl
 unfold binV
 rw [ha]
 simp only [Bool.and_self,if_true]
 rw [h]
 rfl
theorem eqBb {x y:Operand} {H:Heap} {n:Nat} (b:Bool):binV Tryz.prog .eql 4 x y (.bool b) (.bool b) H n=some (.bool true,H,n):=by
 cases b <;> kernel_rfl
def sameT (x y:Trc):Prop:=x.hd=y.hd ∧ x.hole=y.hole ∧ Gn.sameF x.smp y.smp=true
instance (x y:Trc):Decidable (sameT x y):=by unfold sameT; infer_instance
set_option maxHeartbeats 1600000 in
set_option maxRecDepth 50000 in
theorem w142 {H:Heap} {n:Nat} {cs ds:List Value} {x y:Trc} (hx:decT H cs=some x) (hy:decT H ds=some y) (hs:sameT x y):AC Tryz.prog 142 [.agg ⟨cs⟩,.agg ⟨ds⟩] H n (.bool true) H n:=by
 refine AC.given fun hold hsc hgn=>AC.tidied (B:=[]) (by simp) ?_
 replace hx:=decT_tidy _ _ _ _ (fun k b h=>(hold k b h).1) hx
 replace hy:=decT_tidy _ _ _ _ (fun k b h=>(hold k b h).1) hy
 have hr:=recT_ok (P:=Tryz.prog) (l:=[(78,Gn.g78F)]) (by simp only [List.forall_mem_cons]; exact ⟨Gn.ok78F,by simp⟩)
 obtain ⟨q,rfl,h8,hq⟩:=decT_form hx
 obtain ⟨r,rfl,h8y,hr2⟩:=decT_form hy
 obtain ⟨s1,s2,s3⟩:=hs
 rw [← s1,← s2]
 obtain ⟨a0,a1,a2,a3,a4,a5,a6,a7,hhd⟩:=len8 h8
 obtain ⟨X,hX⟩:∃ X,(n + 1,Blk.cells (x.hd.map iv ++ [.bool x.hole,r]) 144) :: (n,Blk.cells (x.hd.map iv ++ [.bool x.hole,q]) 144) :: tidy n H=X:=⟨_,rfl⟩
 have hS:Sub (tidy n H) X:=by rw [← hX]; exact (Sub.cons (by simp) (Sub.refl _)).trans (Sub.cons (by rw [hget_cons,if_neg (by omega)]; simp) (Sub.refl _))
 rw [hhd] at hX ⊢
 obtain ⟨ho,hho⟩:∃ ho,x.hole=ho:=⟨_,rfl⟩
 rw [hho] at hX ⊢
 simp only [List.map_cons,List.map_nil,List.cons_append,List.nil_append] at hX ⊢
 have hb0:hget X n=some (.cells [iv a0,iv a1,iv a2,iv a3,iv a4,iv a5,iv a6,iv a7,.bool ho,q] 144):=by rw [← hX,hget_cons,if_neg (by omega),hget_cons,if_pos rfl]
 have hb1:hget X (n + 1)=some (.cells [iv a0,iv a1,iv a2,iv a3,iv a4,iv a5,iv a6,iv a7,.bool ho,r] 144):=by rw [← hX,hget_cons,if_pos rfl]
 have l0:loadA Tryz.prog 142 X (.pointer (some ⟨n,0,none⟩))=some (.agg ⟨[iv a0,iv a1,iv a2,iv a3,iv a4,iv a5,iv a6,iv a7]⟩):=load142 (by rw [cellsA_eq,hb0]; rfl)
 have l1:loadA Tryz.prog 142 X (.pointer (some ⟨n + 1,0,none⟩))=some (.agg ⟨[iv a0,iv a1,iv a2,iv a3,iv a4,iv a5,iv a6,iv a7]⟩):=load142 (by rw [cellsA_eq,hb1]; rfl)
 have c0:cellA X n 8=some (.bool ho):=by rw [cellA_eq,hb0]; rfl
 have c1:cellA X (n + 1) 8=some (.bool ho):=by rw [cellA_eq,hb1]; rfl
 have d0:cellA X n 9=some q:=by rw [cellA_eq,hb0]; rfl
 have d1:cellA X (n + 1) 9=some r:=by rw [cellA_eq,hb1]; rfl
 have m0:loadA Tryz.prog 4 X (.pointer (some ⟨n,8,none⟩))=some (.bool ho):=by simp [-cellA,c0]
 have m1:loadA Tryz.prog 4 X (.pointer (some ⟨n + 1,8,none⟩))=some (.bool ho):=by simp [-cellA,c1]
 have k0:loadA Tryz.prog 126 X (.pointer (some ⟨n,9,none⟩))=some q:=by simp [-cellA,d0]
 have k1:loadA Tryz.prog 126 X (.pointer (some ⟨n + 1,9,none⟩))=some r:=by simp [-cellA,d1]
 have hg:∀ m,Gn.g78F [q,r] X m=some (.bool true,X,m):=fun m=>by
   have e1:=listV_mono decR_mono hS hq
   have e2:=listV_mono decR_mono hS hr2
   simp only [Gn.g78F,flt_same,show reaV X q=some x.smp from e1,show reaV X r=some y.smp from e2,s3]
 refine AC.pure Tryz.func142 rfl (by kernel_rfl) rfl [2,3,4] rfl ?_
 refine E.seq (E.reg hr (by simp; rfl) ?_)
 rw [hX]
 refine E.seq (E.reg hr (by simp [-loadA,l0,l1,m0,m1,k0,k1,eq142,eqBb,hg]; rfl) ?_)
 refine E.ret ?_
 exact pureK.ret rfl rfl (by simp) hS
def g142 (args:List Value) (H:Heap) (n:Nat):R:=match args with
 | [.agg a,.agg b]=>match decT H a.toList,decT H b.toList with
   | some x,some y=>if sameT x y then some (.bool true,H,n) else none
   | _,_=>none
 | _=>none
theorem ok142:EntOk Tryz.prog (142,g142):=by
 intro args H n v H' n' h
 simp only [g142] at h
 split at h
 · rename_i a b
   split at h
   · rename_i x y hx hy
     split at h
     · rename_i hs
       injection h with h; injection h with e1 e2; injection e2 with e2 e3; subst e1 e2 e3
       exact w142 (cs:=a.toList) (ds:=b.toList) hx hy hs
     · cases h
   · cases h
 · cases h
def sameG (ts us:List Trc):Prop:=ts.length=us.length ∧ ∀ (i:Nat) x y,ts[i]? = some x → us[i]? = some y → sameT x y
set_option maxHeartbeats 3200000 in
set_option maxRecDepth 50000 in
theorem w70 {H:Heap} {n:Nat} {v v2:Value} {s:ByteArray} {ts us:List Trc} (hv:shtV H v=some (s,ts)) (hv2:shtV H v2=some (s,us)) (hs:sameG ts us):AC Tryz.prog 70 [v,v2] H n (.bool true) H n:=by
 refine AC.given fun hold hsc hgn=>AC.tidied (B:=[]) (by simp) ?_
 replace hv:=shtV_tidy (n:=n) (fun k b h=>(hold k b h).1) hv
 replace hv2:=shtV_tidy (n:=n) (fun k b h=>(hold k b h).1) hv2
 have hr:=recT_ok (P:=Tryz.prog) (l:=[(142,g142)]) (by simp only [List.forall_mem_cons]; exact ⟨ok142,by simp⟩)
 have hr0:=recT_ok (P:=Tryz.prog) (l:=[]) (by simp)
 obtain ⟨u,rfl,ht⟩:=shtV_form hv
 obtain ⟨oa,c,rfl,hlt,_,hrow⟩:=trcV_form ht
 obtain ⟨u2,rfl,ht2⟩:=shtV_form hv2
 obtain ⟨oa2,c2,rfl,_,_,hrow2⟩:=trcV_form ht2
 obtain ⟨hsl,hsx⟩:=hs
 rw [← hsl]
 obtain ⟨X,hX⟩:∃ X,(n + 1,Blk.cells [.string s,.slice oa2 ts.length c2] 103) :: (n,Blk.cells [.string s,.slice oa ts.length c] 103) :: tidy n H=X:=⟨_,rfl⟩
 have hS:Sub (tidy n H) X:=by rw [← hX]; exact (Sub.cons (by simp) (Sub.refl _)).trans (Sub.cons (by rw [hget_cons,if_neg (by omega)]; simp) (Sub.refl _))
 have hnm:namesOk (n + 2) X=true:=by rw [← hX]; exact namesOk_put (by omega) (namesOk_put (by omega) (by simp))
 have hnm':namesOk (n + 1 + 1) X=true:=hnm
 have hb0:hget X n=some (.cells [.string s,.slice oa ts.length c] 103):=by rw [← hX,hget_cons,if_neg (by omega),hget_cons,if_pos rfl]
 have hb1:hget X (n + 1)=some (.cells [.string s,.slice oa2 ts.length c2] 103):=by rw [← hX,hget_cons,if_pos rfl]
 have c00:cellA X n 0=some (.string s):=by rw [cellA_eq,hb0]; rfl
 have c10:cellA X (n + 1) 0=some (.string s):=by rw [cellA_eq,hb1]; rfl
 have c01:cellA X n 1=some (.slice oa ts.length c):=by rw [cellA_eq,hb0]; rfl
 have c11:cellA X (n + 1) 1=some (.slice oa2 ts.length c2):=by rw [cellA_eq,hb1]; rfl
 refine AC.pure Tryz.func70 rfl (by kernel_rfl) rfl [2,3,4,5] rfl ?_
 refine E.seq (E.reg hr0 (by simp; rfl) ?_)
 rw [hX]
 refine E.seq (E.seq (E.reg hr0 (by simp [-cellA,c00,c01,c10,c11]; rfl) ?_))
 refine E.cond (t:=false) (by simp) (fun h=>by cases h) (fun _=>?_)
 refine E.skip (E.seq ?_)
 refine E.seq (E.reg hr0 (by simp; rfl) ?_)
 refine E.block (E.loop ?_)
 refine EL.ind (fun i:Nat=>{ fr:=[(2,ptA n),(3,ptA (n + 1)),(5,iv i)],sz:=39,H:=X,n:=n + 2,marks:=[],vs:=[2,3,4,5] }) (fun i=>ts.length - i) (fun i=>i ≤ ts.length) 0 (.keep rfl rfl rfl (by simp) (Sub.refl _)) (Nat.zero_le _) (fun _=>rfl) ?_
 intro i hi
 have hw:IntKind.i64.wrap ((i:Int) + 1)=(i:Int) + 1:=W_in (by omega) (by omega)
 refine E.seq (E.seq (E.reg hr0 (by simp [-cellA,c01]; rfl) ?_))
 by_cases hil:i < ts.length
 · refine E.cond (t:=true) (by simp [hil]) (fun _=>?_) (fun h=>by cases h)
   obtain ⟨a,q,rfl,hf,hcs,h8,hq⟩:=hrow i hil
   obtain ⟨b,r,rfl,hf2,hcs2,h82,hq2⟩:=hrow2 i (by omega)
   have hst:=hsx i _ _ (List.getElem?_eq_getElem hil) (List.getElem?_eq_getElem (by omega))
   have e1:=decT_mk h8 (listV_mono decR_mono hS hq)
   have e2:=decT_mk h82 (listV_mono decR_mono hS hq2)
   replace hcs:=hS.cells hcs
   replace hcs2:=hS.cells hcs2
   have la:=lt_cells hnm hcs
   have lb:=lt_cells hnm hcs2
   have hg:∀ m,g142 [.agg ⟨ts[i].hd.map iv ++ [.bool ts[i].hole,q]⟩,.agg ⟨us[i].hd.map iv ++ [.bool us[i].hole,r]⟩] X m=some (.bool true,X,m):=fun m=>by
     simp only [g142,e1,e2,hst,if_true]
   refine E.skip (E.seq ?_)
   refine E.block (E.seq ?_)
   refine E.drawU mixed hr [10] [10] [1,4,6,9,10] (by kernel_rfl) (by simp [-cellA,-cellsA,-flat,-readA,cellA_read,cellsA_read,hnm,c01,c11,hil,hf,hf2,la,lb,hcs,hcs2,hg]; rfl) ?_
   refine E.cond (t:=false) (by simp) (fun h=>by cases h) (fun _=>?_)
   refine E.skip (E.reg hr0 (by simp [hw]; rfl) ?_)
   exact ⟨i + 1,.keep rfl rfl rfl (by simp) (Sub.refl _),hil,by dsimp only; omega⟩
 · refine E.cond (t:=false) (by simp [hil]) (fun h=>by cases h) (fun _=>?_)
   refine E.exit ?_
   refine E.seq (E.reg hr0 (by simp; rfl) ?_)
   refine E.ret ?_
   exact pureK.ret rfl rfl (by simp) hS
theorem made_back {P : Program} {f : FuncId} {fn : Func} {c : Code} {args : List Value} {H : Heap} {n t : Nat} {s : ByteArray} {ts : List Trc} {qs : List Value} (hf : P.funcs[f]? = some fn) (hb : fn.body = some c) (he : enterable P f = true) (hlen : Nat.ble args.length fn.ntmps = true) (vs : List Nat) (hlt : ∀ k b, hget H k = some b → k < n) (hl : ts.length < 2147483648) (hql : ts.length = qs.length) (h8 : ∀ x ∈ ts, x.hd.length = 8) (hq : ∀ (i : Nat) r x, qs[i]? = some r → ts[i]? = some x → reaV (tidy n H) r = some x.smp)
   (h:E P n none c { fr:=argsFr args 0,sz:=fn.ntmps,H:=tidy n H,n,marks:=[],vs } (Ab.outM P fn fun v Z N=>∃ o,v = .agg ⟨[.string s,outS o ts.length]⟩ ∧ Ab.Sub (tidy n H) Z ∧ namesOk N Z=true ∧ n ≤ N ∧ (ts ≠ [] → hget Z o=some (.ext (tcs ts qs) t 10) ∧ n ≤ o))):∃ u H' n',AC P f args H n u H' n' ∧ MadeS H n H' n' u (s,ts):=by
 obtain ⟨v,H1,n1,Z,hAC,⟨o,rfl,hs,hnm,hN,ho⟩,h1,h2⟩:=AC.outM hf hb he hlen vs h
 have hTlt:∀ k b,hget (tidy n H) k=some b → k < n:=fun k b hk=>tidy_lt _ _ hk
 by_cases h0:ts=[]
 · subst h0
   have ha:af (.agg ⟨[.string s,outS o 0]⟩)=true:=rfl
   have h3:AC P f args (tidy n H) n (.agg ⟨[.string s,outS o 0]⟩) (tidy n H) n:=hAC.tidy ha fun k b hk=>h2 k b hTlt hk (hs k b hk)
   exact ⟨_,H,n,AC.tidied (B:=[]) (by simp) h3,⟨[],rfl,by simp,rfl⟩,Nat.le_refl _,rfl⟩
 · have hn0:ts.length ≠ 0:=fun e=>h0 (List.length_eq_zero_iff.1 e)
   have ha:af (.agg ⟨[.string s,outS o ts.length]⟩)=false:=by
     show af (.agg ⟨[.string s,outS o ts.length]⟩)=false
     rw [outS_ne hn0]
     rfl
   obtain rfl:=h1 ha
   have h3:=AC.canon hlt hAC hs
   obtain ⟨ho1,ho2⟩:=ho h0
   have hS:Sub (tidy n H) (news n H1 ++ H):=fun k b hk=>by
     rw [hget_app]
     cases hc:hget (news n H1) k with
     | none=>exact (hget_tidy.1 hk).1
     | some c=>
       have:=(news_mem (hget_mem _ _ _ hc)).1
       have:=(hget_tidy.1 hk).2.1
       dsimp only at *
       omega
   refine ⟨_,_,_,h3,⟨news n H1,rfl,fun b hb=>?_,plainH_mem fun x hx=>(news_mem hx).2.1⟩,hN,shtV_mk ?_⟩
   · obtain ⟨g1,_,g3⟩:=news_mem hb
     exact ⟨g1,namesOk_iff.1 hnm _ (hget_mem _ _ _ g3)⟩
   · have hg:hget (news n H1 ++ H) o=some (.ext (tcs ts qs) t 10):=by rw [hget_app,news_get ho1 ho2 rfl]
     have hlen:=tcs_len hql h8
     rw [outS_ne hn0]
     refine listV_mkN rfl (cs:=tcs ts qs) ?_ (fun i hi=>?_) hl
     · rw [cellsA_eq,hg]
       simp only [Option.bind_some,cellsB]
       rw [if_pos (by omega),List.drop_zero,List.take_of_length_le (by omega)]
     · have hir:i < qs.length:=by omega
       rw [tcs_at i (List.getElem?_eq_getElem hi) (List.getElem?_eq_getElem hir) h8]
       exact decT_mk (h8 _ (List.getElem_mem hi)) (listV_mono decR_mono hS (hq i _ _ (List.getElem?_eq_getElem hir) (List.getElem?_eq_getElem hi)))
theorem build144 {fr:Fr} {H:Heap} {n:Nat} {x y z:Operand} {a0 a1 a2 a3 a4 a5 a6 a7:Int} {b:Bool} {o:Option Addr} {l c:Nat} (hx:evO Tryz.prog fr x=some (.agg ⟨[iv a0,iv a1,iv a2,iv a3,iv a4,iv a5,iv a6,iv a7]⟩)) (hy:evO Tryz.prog fr y=some (.bool b)) (hz:evO Tryz.prog fr z=some (.slice o l c)):opBuild Tryz.prog 144 #[(0,x),(1,y),(2,z)] fr H n=some (.agg ⟨[iv a0,iv a1,iv a2,iv a3,iv a4,iv a5,iv a6,iv a7,.bool b,.slice o l c]⟩,H,n):=by
 unfold opBuild
 simp only [evPs_cons,evPs_nil,hx,hy,hz]
 kernel_rfl
abbrev fs71 (n o i:Nat) (s:ByteArray):List (Nat × Blk):=[(n + 2,.cells [.string s,outS o i] 103)]
set_option maxHeartbeats 6400000 in
set_option maxRecDepth 100000 in
theorem w71 {H:Heap} {n:Nat} {v:Value} {s:ByteArray} {ts:List Trc} (hv:shtV H v=some (s,ts)) (hlt:∀ k b,hget H k=some b → k < n):∃ u H' n',AC Tryz.prog 71 [v] H n u H' n' ∧ MadeS H n H' n' u (s,ts):=by
 replace hv:=shtV_tidy (n:=n) hlt hv
 have hr0:=recT_ok (P:=Tryz.prog) (l:=[]) (by simp)
 obtain ⟨u,rfl,ht⟩:=shtV_form hv
 obtain ⟨oa,c,rfl,hl31,_,hrow⟩:=trcV_form ht
 have hT:∀ j,n ≤ j → hget (tidy n H) j=none:=fun j hj=>by
   cases hc:hget (tidy n H) j with
   | none=>rfl
   | some b=>exact absurd (tidy_lt _ _ hc) (by omega)
 obtain ⟨qs,hql,h8,hqr,hqc⟩:∃ qs:List Value,ts.length=qs.length ∧ (∀ x ∈ ts,x.hd.length=8) ∧ (∀ (i:Nat) r x,qs[i]? = some r → ts[i]? = some x → reaV (tidy n H) r=some x.smp) ∧ ∀ (i:Nat) (hi:i < ts.length),∃ a q,oa=some a ∧ flat a=true ∧ qs[i]? = some q ∧ cellsA (tidy n H) a.block (a.off + i * 10) 10=some (tc ts[i] q):=by
   by_cases h0:ts=[]
   · subst h0
     exact ⟨[],rfl,by simp,fun i r x h=>by simp at h,fun i hi=>by simp at hi⟩
   · have h64:0 < ts.length:=by
       cases ts with
       | nil=>exact absurd rfl h0
       | cons x l=>simp
     obtain ⟨a,q,e,_⟩:=hrow 0 h64
     subst e
     obtain ⟨hf,rs,e1,e2,e3,e4⟩:=trc_cells_all ht h0
     refine ⟨rs,e1,e3,e4,fun i hi=>?_⟩
     have hir:i < rs.length:=by omega
     refine ⟨a,_,rfl,hf,List.getElem?_eq_getElem hir,?_⟩
     obtain ⟨a',q',e,_,hcs,h8,_⟩:=hrow i hi
     injection e with e
     subst e
     have h9:cellA (tidy n H) a.block (a.off + (i * 10 + 9))=some rs[i]:=by
       have:=(cellsA_at e2).2 (i * 10 + 9) (by omega)
       rw [this]
       have e5:=tcs_at i (List.getElem?_eq_getElem hi) (List.getElem?_eq_getElem hir) e3
       have:(tcs ts rs)[i * 10 + 9]? = (tc ts[i] rs[i])[9]?:=by rw [← e5,List.getElem?_take,if_pos (by decide),List.getElem?_drop]
       rw [this,tc,List.getElem?_append_right (by rw [List.length_map]; omega),List.length_map,h8]
       rfl
     obtain ⟨_,h9',_⟩:=trc_cells hcs h8
     rw [show a.off + i * 10 + 9=a.off + (i * 10 + 9) by omega,h9] at h9'
     injection h9' with h9'
     rw [h9']
     exact hcs
 refine made_back (t:=144) (ts:=ts) (s:=s) (qs:=qs) Tryz.func71 rfl (by kernel_rfl) rfl [2,3,10,11,12] hlt hl31 hql h8 hqr ?_
 obtain ⟨L,hL⟩:∃ L,(n + 1,Blk.cells [.string ⟨#[]⟩,.slice none 0 0] 103) :: (n,Blk.cells [.string s,.slice oa ts.length c] 110) :: tidy n H=L:=⟨_,rfl⟩
 have hS:Sub (tidy n H) L:=by rw [← hL]; exact (Sub.cons (hT _ (Nat.le_refl _)) (Sub.refl _)).trans (Sub.cons (by rw [hget_cons,if_neg (by omega)]; exact hT _ (by omega)) (Sub.refl _))
 have hLn:namesOk (n + 2) L=true:=by rw [← hL]; exact namesOk_put (by omega) (namesOk_put (by omega) (by simp))
 have hLlt:∀ k b,hget L k=some b → k < n + 2:=fun k b hk=>namesOk_iff.1 hLn (k,b) (hget_mem _ _ _ hk)
 have hb0:hget L n=some (.cells [.string s,.slice oa ts.length c] 110):=by rw [← hL,hget_cons,if_neg (by omega),hget_cons,if_pos rfl]
 have hb1:hget L (n + 1)=some (.cells [.string ⟨#[]⟩,.slice none 0 0] 103):=by rw [← hL,hget_cons,if_pos rfl]
 have hL2:hget L (n + 2)=none:=by
   cases hc:hget L (n + 2) with
   | none=>rfl
   | some b=>have:=hLlt _ _ hc; omega
 have hc0:cellA L n 0=some (.string s):=by rw [cellA_eq,hb0]; rfl
 refine E.seq (E.reg hr0 (by simp; rfl) ?_)
 rw [hL]
 refine E.seq ?_
 have hbd:=fun (fr:Fr) (H:Heap) (m:Nat) (h:evO Tryz.prog fr (.tmp 7)=some (.string s))=>build103a (fr:=fr) (H:=H) (n:=m) h
 refine E.reg hr0 (by simp [-cellA,hc0,hbd]; rfl) ?_
 obtain ⟨Z,hZ⟩:∃ Z,(n + 2,Blk.cells [.string s,.slice none 0 0] 103) :: L=Z:=⟨_,rfl⟩
 rw [hZ]
 have hLZ:Sub L Z:=by rw [← hZ]; exact Sub.cons hL2 (Sub.refl _)
 have hZn:namesOk (n + 3) Z=true:=by rw [← hZ]; exact namesOk_put (by omega) (namesOk_mono (by omega) _ hLn)
 have hZ2:hget Z (n + 2)=some (.cells [.string s,outS 0 0] 103):=by rw [← hZ,hget_cons,if_pos rfl]; rfl
 have hK0:Kp L (n + 3) (fs71 n 0 0 s) Z (n + 3):=(Kp.start (fun k b hk=>by have:=hLlt _ _ hk; omega) hLZ hZn (Nat.le_refl _)).more hZ2 (by omega) hL2 (by simp)
 have hz1:cellA Z n 1=some (.slice oa ts.length c):=by rw [cellA_eq,hLZ _ _ hb0]; rfl
 refine E.seq (E.seq (E.reg hr0 (by simp [-cellA,hz1]; rfl) ?_))
 refine E.block (E.loop ?_)
 have hfs:∀ o,fs71 n o 0 s=fs71 n 0 0 s:=fun _=>rfl
 refine EL.ind (fun x:Nat × Heap × Nat × Nat=>{ fr:=fr59 n x.1 oa ts.length c,sz:=30,H:=x.2.1,n:=x.2.2.1,marks:=[],vs:=[2,3,10,11,12] }) (fun x=>ts.length - x.1) (fun x=>x.1 ≤ ts.length ∧ Kp L (n + 3) (fs71 n x.2.2.2 x.1 s) x.2.1 x.2.2.1 ∧ n + 3 ≤ x.2.2.2 ∧ (x.1 ≠ 0 → hget x.2.1 x.2.2.2=some (.ext (tcs (ts.take x.1) (qs.take x.1)) 144 10) ∧ x.2.2.2 < x.2.2.1)) (0,Z,n + 3,n + 3) (.keep rfl rfl rfl (by simp) (Sub.refl _)) ⟨Nat.zero_le _,hK0,Nat.le_refl _,fun h=>absurd rfl h⟩ (fun _=>rfl) ?_
 rintro ⟨i,Hx,N,o⟩ ⟨hi,hK,hol,ho⟩
 dsimp only at hi hK hol ho ⊢
 have hbig:=hK.big
 have hw:IntKind.i64.wrap ((i:Int) + 1)=(i:Int) + 1:=W_in (by omega) (by omega)
 refine E.seq (E.reg hr0 (by simp; rfl) ?_)
 refine E.seq ?_
 by_cases hil:i < ts.length
 · refine E.cond (t:=true) (by simp [hil]) (fun _=>?_) (fun h=>by cases h)
   obtain ⟨a,q,rfl,hf,hqi,hcs⟩:=hqc i hil
   have hqv:=hqr i q _ hqi (List.getElem?_eq_getElem hil)
   obtain ⟨oq,cq,rfl,hlq,_,_⟩:=reaV_form hqv
   have h8i:=h8 _ (List.getElem_mem hil)
   obtain ⟨a0,a1,a2,a3,a4,a5,a6,a7,hhd⟩:=len8 h8i
   have hld:=load159 ((hS.trans hK.sub).cells hcs)
   obtain ⟨T,hTT⟩:∃ T,ts[i]=T:=⟨_,rfl⟩
   have htk:ts.take (i + 1)=ts.take i ++ [T]:=by rw [← hTT]; exact List.take_succ_eq_append_getElem hil
   have hqk:qs.take (i + 1)=qs.take i ++ [.slice oq T.smp.length cq]:=by
     rw [List.take_add_one,hqi,hTT]; rfl
   rw [hTT] at hld hhd h8i
   obtain ⟨hob,hho⟩:∃ ho,T.hole=ho:=⟨_,rfl⟩
   obtain ⟨q,hq⟩:∃ q,Value.slice oq T.smp.length cq=q:=⟨_,rfl⟩
   have htc:tc T q=[iv a0,iv a1,iv a2,iv a3,iv a4,iv a5,iv a6,iv a7,.bool hob,.slice oq T.smp.length cq]:=by rw [tc,hhd,hho,← hq]; rfl
   rw [hq] at hld hqk
   rw [htc] at hld
   refine E.skip (E.seq ?_)
   refine E.block (E.seq (E.reg hr0 (by simp [-loadA,-flat,hil,hf,hld]; rfl) ?_))
   obtain ⟨V,hV⟩:∃ V,(N,Blk.cells [iv a0,iv a1,iv a2,iv a3,iv a4,iv a5,iv a6,iv a7,.bool hob,.slice oq T.smp.length cq] 159) :: Hx=V:=⟨_,rfl⟩
   have hVN:hget V N=some (.cells [iv a0,iv a1,iv a2,iv a3,iv a4,iv a5,iv a6,iv a7,.bool hob,.slice oq T.smp.length cq] 159):=by rw [← hV,hget_cons,if_pos rfl]
   have hKV:Kp L (n + 3) (fs71 n o i s) V (N + 1):=by rw [← hV]; exact hK.skip _
   rw [hV]
   have d8:loadA Tryz.prog 142 V (.pointer (some ⟨N,0,none⟩))=some (.agg ⟨[iv a0,iv a1,iv a2,iv a3,iv a4,iv a5,iv a6,iv a7]⟩):=load142 (by rw [cellsA_eq,hVN]; rfl)
   have e8:cellA V N 8=some (.bool hob):=by rw [cellA_eq,hVN]; rfl
   have e9:cellA V N 9=some (.slice oq T.smp.length cq):=by rw [cellA_eq,hVN]; rfl
   have eb:cellA V (n + 2) 1=some (outS o i):=by rw [cellA_eq,hKV.at' 0 _ rfl]; rfl
   have k8:loadA Tryz.prog 4 V (.pointer (some ⟨N,8,none⟩))=some (.bool hob):=by simp [-cellA,e8]
   have k9:loadA Tryz.prog 126 V (.pointer (some ⟨N,9,none⟩))=some (.slice oq T.smp.length cq):=by simp [-cellA,e9]
   have kb:loadA Tryz.prog 101 V (.pointer (some ⟨n + 2,1,none⟩))=some (outS o i):=by simp [-cellA,eb]
   have hbt:=fun (fr:Fr) (H:Heap) (m:Nat) (h1:evO Tryz.prog fr (.tmp 19)=some (.agg ⟨[iv a0,iv a1,iv a2,iv a3,iv a4,iv a5,iv a6,iv a7]⟩)) (h2:evO Tryz.prog fr (.tmp 21)=some (.bool hob)) (h3:evO Tryz.prog fr (.tmp 23)=some (.slice oq T.smp.length cq))=>build144 (fr:=fr) (H:=H) (n:=m) h1 h2 h3
   obtain ⟨X,hX⟩:∃ X,(N + 1,Blk.cells (tc T q) 144) :: V=X:=⟨_,rfl⟩
   have hKX:Kp L (n + 3) (fs71 n o i s) X (N + 1 + 1):=by rw [← hX]; exact hKV.skip _
   have htl:(tcs (ts.take i) (qs.take i)).length=i * 10:=by
     rw [tcs_len (by rw [List.length_take,List.length_take]; omega) fun x hx=>h8 x (List.mem_of_mem_take hx),List.length_take]
     rw [Nat.min_eq_left hi]
   have hap:=app_at (P:=Tryz.prog) (st:=101) (t:=144) (i:=Tryz.t144) (X:=X) (N:=N + 1) (o:=o) (k:=i) (sz:=10) (cs:=tcs (ts.take i) (qs.take i)) (new:=tc T q) Tryz.underlying101 inf144 sz144i zo144 by144 (by omega) (by rw [← hX,hget_cons,if_pos rfl]) htl (tc_len h8i) (by decide) (oneL_tc (by rw [← hq]; rfl)) (fun h0=>by
     obtain ⟨g1,g2⟩:=ho h0
     rw [← hX,hget_cons,if_neg (by omega),← hV,hget_cons,if_neg (by omega)]
     exact g1)
   obtain ⟨Y,hY⟩:∃ Y,(N + 1 + 1,Blk.ext (tcs (ts.take i) (qs.take i) ++ tc T q) 144 10) :: (if i=0 then X else hdel X o)=Y:=⟨_,rfl⟩
   have hKY:Kp L (n + 3) (fs71 n o i s) Y (N + 1 + 1 + 1):=by
     rw [← hY]
     refine Kp.skip ?_ _
     split
     · exact hKX
     · exact hKX.drop hol
   have hst:=store_at (v:=outS (N + 1 + 1) (i + 1)) (hKY.at' 0 _ rfl) (i:=1) (by simp)
   have hKz:=hKY.put 0 rfl (.cells [.string s,outS (N + 1 + 1) (i + 1)] 103)
   have hst2:storeA Y (n + 2) 1 [outS (N + 1 + 1) (i + 1)]=some (hset Y (n + 2) (.cells [.string s,outS (N + 1 + 1) (i + 1)] 103)):=hst
   rw [hY] at hap
   rw [← hX,htc] at hap
   rw [outS_ne (Nat.succ_ne_zero _)] at hap hst2
   refine E.reg hr0 (by simp [-loadA,-builtinA,-storeA,d8,k8,k9,kb,hbt,hap,hst2]; rfl) ?_
   refine E.reg hr0 (by simp [hw]; rfl) ?_
   refine ⟨(i + 1,_,N + 1 + 1 + 1,N + 1 + 1),.keep rfl rfl rfl (by simp) (Sub.refl _),⟨hil,hKz,by dsimp only; omega,fun _=>⟨?_,Nat.lt_succ_self _⟩⟩,by dsimp only; omega⟩
   dsimp only
   rw [hget_hset,if_neg (by omega),← hY,hget_cons,if_pos rfl,htk,hqk,tcs_snoc (by rw [List.length_take,List.length_take]; omega)]
 · have hil':i=ts.length:=by omega
   subst hil'
   refine E.cond (t:=false) (by simp) (fun h=>by cases h) (fun _=>?_)
   refine E.exit ?_
   have hld3:=load103 (H:=Hx) (n:=n + 2) (s:=s) (u:=outS o ts.length) (hK.at' 0 _ rfl)
   have hb1x:=hK.sub _ _ hb1
   have hst3:storeA Hx (n + 1) 0 [.string s,outS o ts.length]=some (hset Hx (n + 1) (.cells [.string s,outS o ts.length] 103)):=store_all hb1x rfl
   have hld4:=load103 (H:=hset Hx (n + 1) (.cells [.string s,outS o ts.length] 103)) (n:=n + 1) (s:=s) (u:=outS o ts.length) (by rw [hget_hset,if_pos rfl,hb1x]; rfl)
   have hone:oneL [Value.string s,outS o ts.length]=true:=by
     unfold outS
     split <;> rfl
   refine E.seq (E.reg hr0 (by simp [-loadA,-storeA,-oneL,hld3,hst3,hone]; rfl) ?_)
   refine E.ret ?_
   refine outM.ret _ rfl (vs:=[.agg ⟨[.string s,outS o ts.length]⟩]) (by simp [-loadA,resultsA,resultA,Tryz.results71,hld4]) ⟨o,rfl,sub_hset (hS.trans hK.sub) (hT _ (by omega)),namesOk_hset hK.nm,by show n ≤ N; omega,fun h0=>⟨?_,by omega⟩⟩
   have:=(ho fun e=>h0 (List.length_eq_zero_iff.1 e)).1
   rw [List.take_length,show qs.take ts.length=qs by rw [hql,List.take_length]] at this
   rw [hget_hset,if_neg (by omega)]
   exact this
end Go.Proofs.YtkongcnmkiihjaaGreatDoor
