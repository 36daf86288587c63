/-
Contracts and plain reckonings behind the law VelocityAlike, part 7 of 8 (each under the conditions in its statement).
-/
import Derived.Deep.Slices
import Derived.Test.YtkongcnmkiihjaaGreatDoorRf
import Derived.Test.YtkongcnmkiihjaaGreatDoorRc
import Derived.Test.YtkongcnmkiihjaaGreatDoorRa
import Derived.Test.YtkongcnmkiihjaaGreatDoorRb
namespace Go.Proofs.YtkongcnmkiihjaaGreatDoor
open Go Go.Ab Go.Proofs
section
variable {T X Y:Heap} {N N' n p q r:Nat} {s:ByteArray} {sl ul al bl sv:Value} {ts:List Trc} {bs:List Nat}
theorem Z12.more (h:Z12 T X N n p q r s sl ul al bl sv ts bs) (hs:Sub X Y) (hp:PM N' Y) (hN:N ≤ N'):Z12 T Y N' n p q r s sl ul al bl sv ts bs:=
 ⟨hp,h.sub.trans hs,hs _ _ h.dr,hs _ _ h.b0,hs _ _ h.b1,hs _ _ h.b2,hs _ _ h.b3,shtV_mono hs h.v0,shtV_mono hs h.v1,shtV_mono hs h.v2,shtV_mono hs h.v3,h.r0.mono hs hN,h.r1.mono hs hN,h.r2.mono hs hN,h.r3.mono hs hN,listV_mono decR_mono hs h.sm⟩
end
theorem within_in {a lo hi:Int} (h:lo ≤ a ∧ a ≤ hi):withinV a lo hi=0:=by
 unfold withinV; rw [if_neg (by omega)]
theorem set_alk {sq hf:Int} (h1:1 ≤ sq ∧ sq ≤ 1000000000) (h2:0 ≤ hf ∧ hf ≤ 16):setE [sq] hf 0 16=0:=by
 have e1:headE [sq].length=0:=rfl
 have e2:stepE 0 sq=0:=first_all fun x hx=>by
   rcases List.mem_cons.1 hx with rfl | hx
   · exact within_in h1
   · rw [List.mem_singleton] at hx
     subst hx
     rw [decide_eq_false (by omega)]; rfl
 have e3:fanE 0 [sq]=0:=by rw [fanE,if_pos e2]; rfl
 have e4:tailE hf 0 16=0:=first_all fun x hx=>by
   rcases List.mem_cons.1 hx with rfl | hx
   · exact within_in h2
   rcases List.mem_cons.1 hx with rfl | hx
   · rfl
   · rw [List.mem_singleton] at hx
     subst hx
     rfl
 unfold setE
 rw [if_pos e1,if_pos e3,e4]
theorem row_alk {sq W:Int} (hW:1 ≤ W ∧ W ≤ 16):rowE [sq] [0] W 16=0:=by
 have e1:timV W 16=1:=by unfold timV; omega
 unfold rowE
 rw [e1]
 rfl
theorem build34c {fr : Fr} {H : Heap} {n : Nat} {x y : Operand} {a : Option Addr} {k c : Nat} {w : Int} (hx : evO Tryz.prog fr x = some (.slice a k c)) (hy : evO Tryz.prog fr y = some (iv w)) :
   opBuild Tryz.prog 34 #[(0,x),(1,y),(3,.const (.int .i64 16))] fr H n=some (.agg ⟨[.slice a k c,iv w,iv 0,iv 16]⟩,H,n):=by
 unfold opBuild
 simp only [evPs_cons,evPs_nil,hx,hy]
 kernel_rfl
theorem build96b {fr:Fr} {H:Heap} {n:Nat}:opBuild Tryz.prog 96 #[(0,.const (.int .i64 1)),(1,.const (.int .i64 1))] fr H n=some (.agg ⟨[iv 1,iv 1]⟩,H,n):=by kernel_rfl
theorem ld_order {bs:List Nat} (hg:∀ b ∈ bs,good32 b=true) {i:Nat} (hi:i < bs.length):(FloatKind.f32.format.order (bs[i]) 0 != some Ordering.eq)=decide (sxB bs i ≠ 0):=by
 have h1:=smp_six (hg _ (List.getElem_mem hi))
 have h2:=smp_ord h1 smp_zero
 have h3:sxB bs i=six32 bs[i]:=by
   unfold sxB
   rw [Int.toNat_natCast,List.getD_eq_getElem?_getD,List.getElem?_eq_getElem hi]
   rfl
 rw [show FloatKind.f32.format.order bs[i] 0=Ieee.single.order bs[i] 0 from rfl,h2,h3]
 obtain ⟨z,hz⟩:∃ z,six32 bs[i]=z:=⟨_,rfl⟩
 rw [hz]
 by_cases h:z=0
 · subst h; rfl
 · rw [decide_eq_true h]
   show (some (compare z 0) != some Ordering.eq)=true
   have:compare z 0 ≠ Ordering.eq:=fun e=>h (Int.compare_eq_eq.1 e)
   cases hc:compare z 0 with
   | eq=>exact absurd hc this
   | lt=>rfl
   | gt=>rfl
abbrev fr12 (n p q r:Nat) (sv:Value) (sq hf:Int) (W:Nat):Fr:=[(3,ptA n),(7,iv sq),(8,iv hf),(9,iv W),(14,ptA p),(15,sv),(17,ptA q),(18,ptA r)]
abbrev fr12l (n p q r:Nat) (sv:Value) (sq hf:Int) (W i:Nat):Fr:=[(3,ptA n),(7,iv sq),(8,iv hf),(9,iv W),(14,ptA p),(15,sv),(17,ptA q),(18,ptA r),(187,iv W),(188,iv i)]
set_option maxHeartbeats 12800000 in
set_option maxRecDepth 100000 in
theorem w12z {T X : Heap} {N n p q r : Nat} {s : ByteArray} {sl ul al bl sv : Value} {ts : List Trc} {bs : List Nat} {sq hf : Int} (hZ : Z12 T X N n p q r s sl ul al bl sv ts bs) (h0 : shtE s ts = 0) (hW : (widF ts).1 = bs.length) (hl : 1 ≤ bs.length ∧ bs.length ≤ 16) (hg : ∀ b ∈ bs, good32 b = true) (hts : ts.length ≤ 63) (hsq : 1 ≤ sq ∧ sq ≤ 65536) (hhf : 0 ≤ hf ∧ hf ≤ 3) (h9 : 9 ≤ N) :
   E Tryz.prog n none (cFrom (bodyOf Tryz.f12) 13) { fr:=fr12 n p q r sv sq hf bs.length,sz:=319,H:=X,n:=N,marks:=[],vs:=vs12 } (pureK Tryz.prog Tryz.f12 T (.bool true)):=by
 have hr0:=recT_ok (P:=Tryz.prog) (l:=[]) (by simp)
 have hok:=shtE_ok h0
 have hW0:(widF ts).1 ≠ 0:=by omega
 have hE1:=trn_shtE h0 hW0 hts
 have hE2:=alk_shtE (s:=nmA) (by decide +kernel) (by omega) hg
 have hE3:=agn_shtE (s:=nmB) (by decide +kernel) (by omega) hg
 have hok1:=shtE_ok hE1
 have hok2:=shtE_ok hE2
 have hok3:=shtE_ok hE3
 have hWt:=trn_wid hok hW0
 have smO:∀ {us:List Trc},OkS us → ∀ x ∈ us,x.smp.length ≤ 1048576:=fun {us} ho x hx=>by
   have:=(trcE_ok (ho.err x hx)).2.2.1
   omega
 have b96:=@build96a
 have b96b:=@build96b
 obtain ⟨svo,svc,rfl,hsl31,_,hsrow⟩:=reaV_form hZ.sm
 obtain ⟨W,hWe⟩:∃ W,bs.length=W:=⟨_,rfl⟩
 refine E.seq (E.seq (E.reg hr0 (by simp; rfl) ?_))
 refine E.block (E.loop ?_)
 refine EL.ind (fun x:Nat × Heap × Nat=>{ fr:=fr12l n p q r (.slice svo bs.length svc) sq hf bs.length x.1,sz:=319,H:=x.2.1,n:=x.2.2,marks:=[],vs:=vs12 }) (fun x=>bs.length - x.1) (fun x=>x.1 ≤ bs.length ∧ Z12 T x.2.1 x.2.2 n p q r s sl ul al bl (.slice svo bs.length svc) ts bs ∧ N ≤ x.2.2) (0,X,N) (.keep rfl rfl rfl (by simp) (Sub.refl _)) ⟨Nat.zero_le _,hZ,Nat.le_refl _⟩ (fun _=>rfl) ?_
 rintro ⟨i,Hx,M⟩ ⟨hi,hz,hNM⟩
 dsimp only at hi hz hNM ⊢
 have hwi:IntKind.i64.wrap ((i:Int) + 1)=(i:Int) + 1:=W_in (by omega) (by omega)
 refine E.seq (E.reg hr0 (by simp; rfl) ?_)
 refine E.seq ?_
 by_cases hil:i < bs.length
 · refine E.cond (t:=true) (by simp; omega) (fun _=>?_) (fun h=>by cases h)
   refine E.skip (E.seq ?_)
   refine E.block (E.seq (E.reg hr0 (by simp; rfl) ?_))
   have hti:0 ≤ (i:Int) ∧ (i:Int) ≤ (widF ts).1 - 1:=by omega
   have hP:=semV_pair ts i sq hf 1024
   have hPb:=semP_b (w:=sq) (st:=1024) hok (win:=hf) ⟨by omega,by omega⟩ hti
   have hPl:=semP_le (w:=sq) (st:=1024) (t:=i) (win:=hf) hok
   obtain ⟨a,ha⟩:∃ a,(semP ts i sq hf 1024).1=a:=⟨_,rfl⟩
   obtain ⟨b,hb⟩:∃ b,(semP ts i sq hf 1024).2=b:=⟨_,rfl⟩
   rw [ha,hb] at hP hPb hPl
   obtain ⟨u1,H1,n1,c1,p1,s1,m1,v1⟩:=call59p hz.v0 hz.pm hz.r0 (smO hok)
   have d1:∀ m,g61 [u1,iv i,iv sq,iv hf,iv 1024] H1 m=some (.tuple #[.agg ⟨[iv a,iv b]⟩,iv 0],H1,m):=fun m=>by
     rw [call61 v1 (s1 _ _ hz.dr) h0 hti ⟨by omega,by omega⟩ ⟨by omega,by omega⟩ ⟨by omega,by omega⟩,hP]
   have l1:=load103 hz.b0
   have t1:storeA ((n1,.cells [iv 0,iv 0] 96) :: H1) n1 0 [iv a,iv b]=some ((n1,.cells [iv a,iv b] 96) :: H1):=store_new rfl
   have hrA:=recT_ok (P:=Tryz.prog) (l:=[(59,gEx Tryz.prog 59 (Q59 s ts)),(61,g61)]) (by simp only [List.forall_mem_cons]; exact ⟨gEx_ok,ok61,by simp⟩)
   refine E.seq (E.reg hrA (by simp [-loadA,-storeA,l1,c1,d1,t1]; rfl) ?_)
   obtain ⟨X1,hX1⟩:∃ Z,(n1,Blk.cells [iv a,iv b] 96) :: H1=Z:=⟨_,rfl⟩
   have px1:PM (n1 + 1) X1:=by rw [← hX1]; exact p1.put rfl
   have sx1:Sub Hx X1:=by rw [← hX1]; exact s1.trans p1.sub
   have k1:hget X1 n1=some (.cells [iv a,iv b] 96):=by rw [← hX1,hget_cons,if_pos rfl]
   rw [hX1]
   have z1:=hz.more sx1 px1 (by omega)
   obtain ⟨u2,H2,n2,c2,p2,s2,m2,v2⟩:=call59p z1.v1 z1.pm z1.r1 (smO hok1)
   have d2:∀ m,g61 [u2,iv i,iv sq,iv hf,iv 1024] H2 m=some (.tuple #[.agg ⟨[iv a,iv b]⟩,iv 0],H2,m):=fun m=>by
     rw [call61 v2 (s2 _ _ z1.dr) hE1 (by rw [hWt]; exact hti) ⟨by omega,by omega⟩ ⟨by omega,by omega⟩ ⟨by omega,by omega⟩,trn_semV hok hW0,hP]
   have l2:=load103 z1.b1
   have t2:storeA ((n2,.cells [iv 0,iv 0] 96) :: H2) n2 0 [iv a,iv b]=some ((n2,.cells [iv a,iv b] 96) :: H2):=store_new rfl
   have hrB:=recT_ok (P:=Tryz.prog) (l:=[(59,gEx Tryz.prog 59 (Q59 s (trn ts))),(61,g61)]) (by simp only [List.forall_mem_cons]; exact ⟨gEx_ok,ok61,by simp⟩)
   refine E.seq (E.reg hrB (by simp [-loadA,-storeA,l2,c2,d2,t2]; rfl) ?_)
   obtain ⟨X2,hX2⟩:∃ Z,(n2,Blk.cells [iv a,iv b] 96) :: H2=Z:=⟨_,rfl⟩
   have px2:PM (n2 + 1) X2:=by rw [← hX2]; exact p2.put rfl
   have sx2:Sub X1 X2:=by rw [← hX2]; exact s2.trans p2.sub
   have k2:hget X2 n2=some (.cells [iv a,iv b] 96):=by rw [← hX2,hget_cons,if_pos rfl]
   rw [hX2]
   have z2:=z1.more sx2 px2 (by omega)
   have hA:=sem_alk (bs:=bs) (t:=i) (w:=sq) (win:=hf) ⟨by omega,by omega⟩ hhf.1 (by omega)
   obtain ⟨ld,hld⟩:∃ x,ldN bs (semA i hf) (semC (alk bs) i hf)=x:=⟨_,rfl⟩
   obtain ⟨e,he⟩:∃ e:Int,(if ld=true then 1 else 0)=e:=⟨_,rfl⟩
   have hA2:semV (alk bs) i sq hf 0 = .agg ⟨[iv e,iv 1]⟩:=by
     rw [hA,hld,← he]
     cases ld <;> rfl
   obtain ⟨u3,H3,n3,c3,p3,s3,m3,v3⟩:=call59p z2.v2 z2.pm z2.r2 (smO hok2)
   have d3:∀ m,g61 [u3,iv i,iv sq,iv hf,iv 0] H3 m=some (.tuple #[.agg ⟨[iv e,iv 1]⟩,iv 0],H3,m):=fun m=>by
     rw [call61 v3 (s3 _ _ z2.dr) hE2 (by rw [wid_alk]; omega) ⟨by omega,by omega⟩ ⟨by omega,by omega⟩ ⟨by omega,by omega⟩,hA2]
   have l3:=load103 z2.b2
   have t3:storeA ((n3,.cells [iv 0,iv 0] 96) :: H3) n3 0 [iv e,iv 1]=some ((n3,.cells [iv e,iv 1] 96) :: H3):=store_new rfl
   have hrC:=recT_ok (P:=Tryz.prog) (l:=[(59,gEx Tryz.prog 59 (Q59 nmA (alk bs))),(61,g61)]) (by simp only [List.forall_mem_cons]; exact ⟨gEx_ok,ok61,by simp⟩)
   refine E.seq (E.reg hrC (by simp [-loadA,-storeA,l3,c3,d3,t3]; rfl) ?_)
   obtain ⟨X3,hX3⟩:∃ Z,(n3,Blk.cells [iv e,iv 1] 96) :: H3=Z:=⟨_,rfl⟩
   have px3:PM (n3 + 1) X3:=by rw [← hX3]; exact p3.put rfl
   have sx3:Sub X2 X3:=by rw [← hX3]; exact s3.trans p3.sub
   have k3:hget X3 n3=some (.cells [iv e,iv 1] 96):=by rw [← hX3,hget_cons,if_pos rfl]
   rw [hX3]
   have z3:=z2.more sx3 px3 (by omega)
   have hB:=sem_agn (bs:=bs) (t:=i) (w:=sq) (win:=hf) hg ⟨by omega,by omega⟩ hhf.1 (by omega)
   obtain ⟨u4,H4,n4,c4,p4,s4,m4,v4⟩:=call59p z3.v3 z3.pm z3.r3 (smO hok3)
   have d4:∀ m,g61 [u4,iv i,iv sq,iv hf,iv 0] H4 m=some (.tuple #[.agg ⟨[iv 0,iv 1]⟩,iv 0],H4,m):=fun m=>by
     rw [call61 v4 (s4 _ _ z3.dr) hE3 (by rw [wid_agn]; omega) ⟨by omega,by omega⟩ ⟨by omega,by omega⟩ ⟨by omega,by omega⟩,hB]
   have l4:=load103 z3.b3
   have t4:storeA ((n4,.cells [iv 0,iv 0] 96) :: H4) n4 0 [iv 0,iv 1]=some ((n4,.cells [iv 0,iv 1] 96) :: H4):=store_new rfl
   have hrD:=recT_ok (P:=Tryz.prog) (l:=[(59,gEx Tryz.prog 59 (Q59 nmB (agn bs))),(61,g61)]) (by simp only [List.forall_mem_cons]; exact ⟨gEx_ok,ok61,by simp⟩)
   refine E.seq (E.reg hrD (by simp [-loadA,-storeA,l4,c4,d4,t4]; rfl) ?_)
   obtain ⟨X4,hX4⟩:∃ Z,(n4,Blk.cells [iv 0,iv 1] 96) :: H4=Z:=⟨_,rfl⟩
   have px4:PM (n4 + 1) X4:=by rw [← hX4]; exact p4.put rfl
   have sx4:Sub X3 X4:=by rw [← hX4]; exact s4.trans p4.sub
   have k4:hget X4 n4=some (.cells [iv 0,iv 1] 96):=by rw [← hX4,hget_cons,if_pos rfl]
   rw [hX4]
   have z4:=z3.more sx4 px4 (by omega)
   have k3':=sx4 _ _ k3
   have k2':=sx4 _ _ (sx3 _ _ k2)
   have k1':=sx4 _ _ (sx3 _ _ (sx2 _ _ k1))
   clear c1 d1 l1 t1 c2 d2 l2 t2 c3 d3 l3 t3 c4 d4 l4 t4 hrA hrB hrC hrD
   refine E.lead { fr:=[(3,ptA n),(7,iv sq),(8,iv hf),(9,iv bs.length),(14,ptA p),(15,.slice svo bs.length svc),(17,ptA q),(18,ptA r),(22,iv i),(23,ptA n1),(24,iv 0),(25,ptA n2),(26,iv 0),(27,ptA n3),(28,iv 0),(29,ptA n4),(30,iv 0),(187,iv bs.length),(188,iv i)],sz:=319,H:=X4,n:=n4 + 1,marks:=[],vs:=vs12 } (.keep rfl rfl rfl (by simp) (Sub.refl _)) ?_
   have e1:=load96 k1'
   have e2:=load96 k2'
   have e3:=load96 k3'
   have e4:=load96 k4
   have f1:loadA Tryz.prog 3 X4 (.pointer (some ⟨n1,0,none⟩))=some (iv a):=by
     have:cellA X4 n1 0=some (iv a):=by rw [cellA_eq,k1']; rfl
     simp [-cellA,this]
   have f2:loadA Tryz.prog 3 X4 (.pointer (some ⟨n1,1,none⟩))=some (iv b):=by
     have:cellA X4 n1 1=some (iv b):=by rw [cellA_eq,k1']; rfl
     simp [-cellA,this]
   have ha0:¬ a < 0:=by omega
   have hb1:¬ b < 1:=by omega
   have hab:¬ b < a:=by omega
   refine E.seq (E.seq (E.reg hr0 (by simp [-loadA,e1,e2,e4,f1,f2,ha0,hb1,hab,neq96g,b96]; rfl) ?_))
   refine E.cond (t:=false) (by simp) (fun h=>by cases h) (fun _=>?_)
   refine E.skip (E.seq (E.reg hr0 (by simp; rfl) ?_))
   obtain ⟨A,hAe⟩:∃ A,semA i hf=A:=⟨_,rfl⟩
   have hAd:A=max 0 ((i:Int) - hf):=by rw [← hAe]; rfl
   obtain ⟨C,hCe⟩:∃ C,semC (alk bs) i hf=C:=⟨_,rfl⟩
   have hCd:C=(min ((bs.length:Int) - 1) ((i:Int) + hf) - A + 1).toNat:=by rw [← hCe,← hAe]; rfl
   rw [hAe,hCe] at hld
   have hws:IntKind.i64.wrap ((i:Int) - hf)=(i:Int) - hf:=W_in (by omega) (by omega)
   have hwa:IntKind.i64.wrap ((i:Int) + hf)=(i:Int) + hf:=W_in (by omega) (by omega)
   have hwW:IntKind.i64.wrap ((bs.length:Int) - 1)=(bs.length:Int) - 1:=W_in (by omega) (by omega)
   refine E.seq (E.seq (E.reg hr0 (by simp [hws,max33,← hAd]; rfl) ?_))
   refine E.block (E.loop ?_)
   refine EL.ind (fun k:Nat=>{ fr:=[(3,ptA n),(7,iv sq),(8,iv hf),(9,iv bs.length),(14,ptA p),(15,.slice svo bs.length svc),(17,ptA q),(18,ptA r),(22,iv i),(27,ptA n3),(31,.bool (ldN bs A k)),(32,iv (A + (k:Nat))),(187,iv bs.length),(188,iv i)],sz:=319,H:=X4,n:=n4 + 1,marks:=[],vs:=vs12 }) (fun k=>C - k) (fun k=>k ≤ C) 0 (.keep rfl rfl rfl (by simp [ldN]) (Sub.refl _)) (Nat.zero_le _) (fun _=>rfl) ?_
   intro k hk
   refine E.seq (E.seq (E.reg hr0 (by simp [hwW,hwa,min33]; rfl) ?_))
   by_cases hkC:k < C
   · have hle:A + (k:Int) ≤ min ((bs.length:Int) - 1) ((i:Int) + hf):=by omega
     refine E.cond (t:=true) (by simp; omega) (fun _=>?_) (fun h=>by cases h)
     refine E.skip (E.seq ?_)
     refine E.block ?_
     obtain ⟨j,hj⟩:∃ j:Nat,A + (k:Int)=j:=⟨(A + (k:Int)).toNat,by omega⟩
     have hjl:j < bs.length:=by omega
     have hjI:(j:Int) < bs.length:=by omega
     have hwj:IntKind.i64.wrap ((j:Int) + 1)=(j:Int) + 1:=W_in (by omega) (by omega)
     have ho:=ld_order hg hjl
     have hst:ldN bs A (k + 1)=(ldN bs A k || decide (sxB bs j ≠ 0)):=by rw [← hj]; rfl
     have hj0:(0:Int) ≤ (j:Int):=by omega
     obtain ⟨so4,sc4,hs4,_,_,hsr4⟩:=reaV_form z4.sm
     injection hs4 with g1 _ g2
     subst g1 g2
     obtain ⟨ad',e5,hfl',hcj4⟩:=hsr4 j hjl
     obtain ⟨c9,hc9⟩:∃ c,bs[j]=c:=⟨_,rfl⟩
     rw [hc9] at hcj4 ho
     rw [hj]
     subst e5
     cases hlk:ldN bs A k with
     | true=>
       rw [hlk,Bool.true_or] at hst
       refine E.reg hr0 (by simp; rfl) ?_
       refine E.reg hr0 (by simp [hwj]; rfl) ?_
       exact ⟨k + 1,.keep rfl rfl rfl (by simp [hst]; omega) (Sub.refl _),hkC,by dsimp only; omega⟩
     | false=>
       rw [hlk,Bool.false_or] at hst
       rw [← hst] at ho
       refine E.reg hr0 (by simp [-cellA,-flat,hjI,hj0,hfl',hcj4,bin_fneql,ho]; rfl) ?_
       refine E.reg hr0 (by simp [hwj]; rfl) ?_
       exact ⟨k + 1,.keep rfl rfl rfl (by simp; omega) (Sub.refl _),hkC,by dsimp only; omega⟩
   · have hkC':k=C:=by omega
     subst hkC'
     refine E.cond (t:=false) (by simp; omega) (fun h=>by cases h) (fun _=>?_)
     refine E.exit ?_
     rw [hld]
     cases ld with
     | true=>
       have he1:e=1:=by rw [← he]; rfl
       subst he1
       refine E.seq (E.reg hr0 (by simp [-loadA,e3,neq96g,b96b]; rfl) ?_)
       refine E.cond (t:=false) (by simp) (fun h=>by cases h) (fun _=>?_)
       refine E.skip (E.reg hr0 (by simp [hwi]; rfl) ?_)
       exact ⟨(i + 1,X4,n4 + 1),.keep rfl rfl rfl (by simp) (Sub.refl _),⟨hil,z4,by dsimp only; omega⟩,by dsimp only; omega⟩
     | false=>
       have he1:e=0:=by rw [← he]; rfl
       subst he1
       refine E.seq (E.reg hr0 (by simp [-loadA,e3,neq96g,b96]; rfl) ?_)
       refine E.cond (t:=false) (by simp) (fun h=>by cases h) (fun _=>?_)
       refine E.skip (E.reg hr0 (by simp [hwi]; rfl) ?_)
       exact ⟨(i + 1,X4,n4 + 1),.keep rfl rfl rfl (by simp) (Sub.refl _),⟨hil,z4,by dsimp only; omega⟩,by dsimp only; omega⟩
 · have hi':i=bs.length:=by omega
   subst hi'
   refine E.cond (t:=false) (by simp) (fun h=>by cases h) (fun _=>?_)
   refine E.exit ?_
   have hlW:=hl
   have h34:=fun {fr:Fr} {H:Heap} {n:Nat} {x y:Operand} {a:Option Addr} {k c:Nat} {w:Int} (hx:evO Tryz.prog fr x=some (.slice a k c)) (hy:evO Tryz.prog fr y=some (iv w))=>build34c (H:=H) (n:=n) hx hy
   have ts5:storeA ((M + 1,.cells [.slice none 0 0,iv 0,iv 0,iv 0] 34) :: (M,.cells [iv sq] 3) :: Hx) (M + 1) 0 [.slice (some ⟨M,0,none⟩) 1 1,iv hf,iv 0,iv 16]=some ((M + 1,.cells [.slice (some ⟨M,0,none⟩) 1 1,iv hf,iv 0,iv 16] 34) :: (M,.cells [iv sq] 3) :: Hx):=store_new rfl
   refine E.seq (E.reg hr0 (by simp [-storeA,build34c (a:=some ⟨M,0,none⟩) (k:=1) (c:=1) (w:=hf),ts5]; rfl) ?_)
   obtain ⟨Y,hY⟩:∃ Z,(M + 1,Blk.cells [.slice (some ⟨M,0,none⟩) 1 1,iv hf,iv 0,iv 16] 34) :: (M,.cells [iv sq] 3) :: Hx=Z:=⟨_,rfl⟩
   have p1:PM (M + 1) ((M,Blk.cells [iv sq] 3) :: Hx):=hz.pm.put rfl
   have pY:PM (M + 2) Y:=by rw [← hY]; exact p1.put rfl
   have sY:Sub Hx Y:=by rw [← hY]; exact hz.pm.sub.trans p1.sub
   have k1:hget Y (M + 1)=some (.cells [.slice (some ⟨M,0,none⟩) 1 1,iv hf,iv 0,iv 16] 34):=by rw [← hY,hget_cons,if_pos rfl]
   have k0:hget Y M=some (.cells [iv sq] 3):=by rw [← hY,hget_cons,if_neg (by omega),hget_cons,if_pos rfl]
   have zY:=hz.more sY pY (by omega)
   rw [hY]
   refine E.lead { fr:=[(15,.slice svo bs.length svc),(17,ptA q),(33,ptA (M + 1))],sz:=319,H:=Y,n:=M + 2,marks:=[],vs:=vs12 } (.keep rfl rfl rfl (by simp) (Sub.refl _)) ?_
   obtain ⟨u3,B3,n3,a1,a2,a3,a4,a5,a6,a7⟩:=call59l zY.v2 zY.pm zY.r2 (smO hok2)
   obtain ⟨Z,hZ'⟩:∃ Z,(n3,Blk.cells [iv 0] 3) :: (B3 ++ Y)=Z:=⟨_,rfl⟩
   have p2:PM (n3 + 1) Z:=by rw [← hZ']; exact a4.put rfl
   have s2:Sub (B3 ++ Y) Z:=by rw [← hZ']; exact a4.sub
   have hYZ:=a5.trans s2
   have i1:intsW Z (.slice (some ⟨M,0,none⟩) 1 1)=some [sq]:=by
     have hc:cellsA Z M 0 1=some [iv sq]:=by rw [cellsA_eq,hYZ _ _ k0]; rfl
     show intsAt Z ⟨M,0,none⟩ 1=_
     unfold intsAt
     rw [if_pos (by simp [flat])]
     show (cellsA Z M 0 1).bind intsOf=_
     rw [hc]
     rfl
   have i2:intV Z (.slice (some ⟨n3,0,none⟩) 1 1)=some [0]:=by
     have hc:hget Z n3=some (.cells ([0].map iv) 3):=by rw [← hZ',hget_cons,if_pos rfl]; rfl
     exact intV_cells (l:=[0]) hc (by decide)
   obtain ⟨v5,H5,n5,d1,u5,rfl,d2⟩:=gEx_at (Q:=Q73 nmA (alk bs) [sq] [0] hf 0 16) (by
     obtain ⟨u,H',n',h1,h2⟩:=w73 (H:=Z) (n:=n3 + 1) (v:=u3) (w:=hf) (st:=0) (e:=16) (hYZ _ _ zY.dr) (shtV_mono s2 a7) i1 i2 p2.lt (by omega)
     exact ⟨_,_,_,h1,u,rfl,h2⟩)
   obtain ⟨p5,s5,m5,v6⟩:=MadeV.alone p2 d2
   have hst0:stkE nmA (alk bs) [sq] [0] hf 0 16=0:=by
     have e1:firstV [shtE nmA (alk bs),setE [sq] hf 0 16]=0:=first_all fun x hx=>by
       rcases List.mem_cons.1 hx with rfl | hx
       · exact hE2
       · rw [List.mem_singleton] at hx
         subst hx
         exact set_alk ⟨by omega,by omega⟩ ⟨by omega,by omega⟩
     unfold stkE
     rw [if_pos e1]
     unfold widE
     rw [if_pos hE2,wid_alk]
     exact row_alk ⟨by omega,by omega⟩
   have hstR:stkR nmA (alk bs) [sq] [0] hf 0 16=stkL (alk bs) [sq] [0] 0 16 bs.length:=by
     unfold stkR
     rw [if_pos hst0]
     rfl
   rw [hst0] at d1
   rw [hstR] at v6
   have hr7:=recT_ok (P:=Tryz.prog) (l:=[(59,gEx Tryz.prog 59 (Q59 nmA (alk bs))),(73,gEx Tryz.prog 73 (Q73 nmA (alk bs) [sq] [0] hf 0 16)),(78,Gn.g78F)]) (by simp only [List.forall_mem_cons]; exact ⟨gEx_ok,gEx_ok,Gn.ok78F,by simp⟩)
   have cs0:cellsA Y q 0 2=some [.string nmA,al]:=by rw [cellsA_eq,zY.b2]; rfl
   have cs1:cellsA (B3 ++ Y) (M + 1) 0 4=some [.slice (some ⟨M,0,none⟩) 1 1,iv hf,iv 0,iv 16]:=by rw [cellsA_eq,a5 _ _ k1]; rfl
   have pYn:=pY.nm
   have pYp:=pY.pl
   have a4n:=(a4.wide (Nat.le_succ _)).nm
   have p2n:=p2.nm
   have p5n:=p5.nm
   have a4p:=a4.pl
   have q1:q < M + 2:=pY.lt _ _ zY.b2
   have q2:M + 1 < M + 2:=by omega
   have q3:n3 ≤ n5:=by omega
   refine E.seq (E.drawU mixed hr7 [4] [1,3,4] [0,1,4] (by kernel_rfl) (by simp [-cellA,-cellsA,-readA,cellsA_read,handA_nn,pYn,pYp,cs0,cs1,a1,a2,a3,a6,hZ',d1,p5n,m5,q1,q2]; rfl) ?_)
   have h78:∀ m,Gn.g78F [u5,.slice svo bs.length svc] H5 m=some (.bool true,H5,m):=fun m=>by
     have e1:reaV H5 (.slice svo bs.length svc)=some bs:=listV_mono decR_mono (hYZ.trans s5) zY.sm
     simp only [Gn.g78F,flt_same,v6,e1,stk_alk (by omega:bs.length ≤ 1024) hg]
   refine E.seq (E.reg hr7 (by simp [h78]; rfl) ?_)
   refine E.ret ?_
   exact pureK.ret rfl rfl (by simp) (zY.sub.trans (hYZ.trans s5))
end Go.Proofs.YtkongcnmkiihjaaGreatDoor
namespace Go.Ab
open Go
section
variable {F:Bool} {L Hx:Heap} {n t tb tf kb N o:Nat} {s:ByteArray} {ts:List Trc} {rs:List Value}
theorem MS.app2 {P : Program} {st : TypeId} {i : TypeInfo} (hL : ∀ k b, hget L k = some b → k < n) (hu : P.underlying st = some (.slice t)) (hi : P.info? t = some i) (hsz : i.size = 10) (hz : zeroOk i = true) (hby : i.bytes ≤ 128) (h : MS true L n t tb tf kb s ts rs Hx N o) (hk : ts.length < 2147483647) {x : Trc} {r : Value} (h8 : x.hd.length = 8) (hr : RowOk tf Hx n N r x.smp) (hrk : nmO r ≠ some kb) (hro : ts ≠ [] → nmO r ≠ some o) (hrs : ∀ q ∈ rs, nmO r = none ∨ nmO r ≠ nmO q) :
   ∃ Hy Hz,builtinA P .append #[st,st] ((N,.cells (tc x r) t) :: Hx) (N + 1) [outS o ts.length,.slice (some ⟨N,0,none⟩) 1 1]=some (outS (N + 1) (ts.length + 1),Hy,N + 1 + 1) ∧ storeA Hy kb 1 [outS (N + 1) (ts.length + 1)]=some Hz ∧ MS true L n t tb tf kb s (ts ++ [x]) (rs ++ [r]) Hz (N + 1 + 1) (N + 1) ∧ (∀ j,j < N → j ≠ kb → (ts ≠ [] → j ≠ o) → hget Hz j=hget Hx j) ∧ (plainH Hx=true → plainH Hz=true):=by
 have h2:=h.skip hL (.cells (tc x r) t)
 have hb:=h.big
 have hkb:=h.kbn
 have hlen:=tcs_len h.len h.h8
 have hnew:=tc_len (x:=x) (r:=r) h8
 obtain ⟨X,hX⟩:∃ X,(N,Blk.cells (tc x r) t) :: Hx=X:=⟨_,rfl⟩
 rw [hX] at h2 ⊢
 have hxN:hget X N=some (.cells (tc x r) t):=by rw [← hX,hget_cons,if_pos rfl]
 have hxo:∀ j,j < N → hget X j=hget Hx j:=fun j hj=>by rw [← hX,hget_cons,if_neg (by omega)]
 have hap:builtinA P .append #[st,st] X (N + 1) [outS o ts.length,.slice (some ⟨N,0,none⟩) 1 1]=some (outS (N + 1) (ts.length + 1),(N + 1,.ext (tcs ts rs ++ tc x r) t 10) :: (if ts=[] then X else hdel X o),N + 1 + 1):=by
   have hc:cellsA X N 0 (1 * 10)=some (tc x r):=by
     rw [cellsA_eq,hxN]
     simp only [Option.bind_some,cellsB]
     rw [if_pos (by omega),List.drop_zero,List.take_of_length_le (by omega)]
   have hsm1:smallA i.bytes 1=true:=by
     unfold smallA
     rw [Bool.and_eq_true]
     exact ⟨decide_eq_true (by omega),decide_eq_true (by omega)⟩
   have hsm:smallA i.bytes (ts.length + 1)=true:=by
     unfold smallA
     rw [Bool.and_eq_true]
     refine ⟨decide_eq_true ?_,decide_eq_true ?_⟩
     · have:=Nat.mul_le_mul_left (ts.length + 1) hby
       omega
     · omega
   show appendA P #[st,st] _ _ _ _=_
   unfold appendA
   have hnb:Nat.beq (tc x r).length (1 * 10)=true:=by rw [hnew,Nat.one_mul,Nat.beq_refl]
   have hone:=oneL_tc (x:=x) hr.isS
   rw [outS_ne (Nat.succ_ne_zero ts.length)]
   by_cases h0:ts=[]
   · subst h0
     simp only [List.length_nil,outS_nil,List.getElem?_toArray,List.getElem?_cons_zero,List.getElem?_cons_succ,hu,hi,lenX,lenV,srcX,srcA,hsz,if_neg (show ¬ 1 * 10=0 by omega),flat_n,if_true,hc,hnb,hone,Bool.and_self]
     unfold appendTo
     have hcs:tcs [] rs=[]:=rfl
     simp only [hcs,and_self,if_true,Nat.one_ne_zero,if_false,hsm1,hz,Bool.and_self,hsz]
     rfl
   · have hk0:¬ ts.length=0:=fun e=>h0 (List.length_eq_zero_iff.1 e)
     obtain ⟨ho,_⟩:=h2.out h0
     have ho:hget X o=some (.ext (tcs ts rs) t 10):=ho
     have hle:¬ (ts.length + 1) * 10 ≤ (tcs ts rs).length:=by omega
     have hle2:ts.length * 10 ≤ (tcs ts rs).length:=by omega
     have htk:(tcs ts rs).take (ts.length * 10)=tcs ts rs:=List.take_of_length_le (by omega)
     rw [outS_ne hk0]
     simp only [List.getElem?_toArray,List.getElem?_cons_zero,List.getElem?_cons_succ,hu,hi,lenX,lenV,srcX,srcA,hsz,if_neg (show ¬ 1 * 10=0 by omega),flat_n,if_true,hc,hnb,hone,Bool.and_self]
     unfold appendTo
     simp only [ho,hsz,hle2,and_self,if_true,if_neg hle,hsm,hz,Bool.and_self,htk,if_neg h0]
     rfl
 obtain ⟨Y,hY⟩:∃ Y,(N + 1,Blk.ext (tcs ts rs ++ tc x r) t 10) :: (if ts=[] then X else hdel X o)=Y:=⟨_,rfl⟩
 rw [hY] at hap
 have hyo:∀ j,j ≤ N → (ts ≠ [] → j ≠ o) → hget Y j=hget X j:=fun j hj hjo=>by
   rw [← hY,hget_cons,if_neg (by omega)]
   split
   · rfl
   · rename_i h0
     rw [hget_hdel,if_neg (hjo h0)]
 have hyN:hget Y (N + 1)=some (.ext (tcs ts rs ++ tc x r) t 10):=by rw [← hY,hget_cons,if_pos rfl]
 have hyk:hget Y kb=some (.cells [.string s,outS o ts.length] tb):=by
   rw [hyo kb (by omega) fun h0 e=>(h.out h0).2.2.2 e.symm]
   exact h2.box
 have hnY:namesOk (N + 1 + 1) Y=true:=by
   rw [← hY]
   refine namesOk_put (Nat.lt_succ_self _) (namesOk_mono (n:=N + 1) (Nat.le_succ _) _ ?_)
   split
   · exact h2.nm
   · exact namesOk_hdel h2.nm
 have hst:=store_at (v:=outS (N + 1) (ts.length + 1)) hyk (i:=1) (Nat.lt_succ_self 1)
 refine ⟨Y,_,hap,hst,?_,fun j h1 h2 h3=>by rw [hget_hset,if_neg fun e=>h2 e.symm,hyo j (by omega) h3,hxo j h1],fun hpl=>plain_hset rfl ?_⟩
 rotate_left
 · have hXp:plainH X=true:=by rw [← hX,plainH,hpl]; rfl
   rw [← hY,plainH]
   split
   · rw [hXp]; rfl
   · rw [plainH_hdel hXp]; rfl
 have hz:∀ j,j ≠ kb → hget (hset Y kb (.cells ([Value.string s,outS o ts.length].set 1 (outS (N + 1) (ts.length + 1))) tb)) j=hget Y j:=fun j hj=>by
   rw [hget_hset,if_neg fun e=>hj e.symm]
 obtain ⟨Z,hZ⟩:∃ Z,hset Y kb (.cells ([Value.string s,outS o ts.length].set 1 (outS (N + 1) (ts.length + 1))) tb)=Z:=⟨_,rfl⟩
 rw [hZ] at hz ⊢
 have hzk:hget Z kb=some (.cells [.string s,outS (N + 1) (ts.length + 1)] tb):=by
   rw [← hZ,hget_hset,if_pos rfl,hyk]
   rfl
 refine ⟨fun j b hj=>?_,?_,by omega,by rw [List.length_append,List.length_append,h.len]; rfl,fun y hy=>?_,fun _=>⟨?_,by omega,by omega,by omega⟩,?_,by omega,fun j y q hy hq=>?_,fun j k q q' hjk hq hq'=>?_⟩
 · have:=hL j b hj
   rw [hz j (by omega),hyo j (by omega) fun h0 e=>by have:=(h.out h0).2.1; omega,hxo j (by omega)]
   exact h.sub j b hj
 · rw [← hZ]; exact namesOk_hset hnY
 · rcases List.mem_append.1 hy with hy | hy
   · exact h.h8 y hy
   · rw [List.mem_singleton] at hy; subst hy; exact h8
 · rw [hz (N + 1) (by omega),hyN,tcs_snoc h.len]
   rfl
 · rw [hzk,List.length_append]
   rfl
 · have hst:∀ {q:Value} {bs:List Nat},RowOk tf Hx n N q bs → nmO q ≠ some kb → (ts ≠ [] → nmO q ≠ some o) → RowOk tf Z n (N + 1 + 1) q bs ∧ nmO q ≠ some kb ∧ (ts ++ [x] ≠ [] → nmO q ≠ some (N + 1)):=fun {q bs} h1 h2 h3=>by
     refine ⟨h1.keep (by omega) fun m hm hm1 hm2=>?_,h2,fun _ e=>?_⟩
     · rw [hz m fun e=>h2 (by rw [hm,e]),hyo m (by omega) fun h0 e=>h3 h0 (by rw [hm,e]),hxo m hm2]
     · have:=(h1.lt e).2
       omega
   by_cases hj:j < ts.length
   · rw [List.getElem?_append_left hj] at hy
     rw [List.getElem?_append_left (by rw [← h.len]; exact hj)] at hq
     obtain ⟨h1,h2,h3⟩:=h.row j y q hy hq
     exact hst h1 h2 h3
   · rw [List.getElem?_append_right (by omega)] at hy
     rw [List.getElem?_append_right (by rw [← h.len]; omega)] at hq
     have hj0:j - ts.length=0:=by
       rcases Nat.eq_zero_or_pos (j - ts.length) with e | e
       · exact e
       · rw [List.getElem?_eq_none (by simp; omega)] at hy
         cases hy
     rw [hj0] at hy
     rw [← h.len,hj0] at hq
     simp at hy hq
     subst hy hq
     exact hst hr hrk hro
 · have one:∀ {j:Nat} {q:Value},(rs ++ [r])[j]? = some q → (j < rs.length ∧ rs[j]? = some q) ∨ (j=rs.length ∧ q=r):=fun {j q} hq=>by
     by_cases hj:j < rs.length
     · rw [List.getElem?_append_left hj] at hq
       exact .inl ⟨hj,hq⟩
     · rw [List.getElem?_append_right (by omega)] at hq
       have hj0:j - rs.length=0:=by
         rcases Nat.eq_zero_or_pos (j - rs.length) with e | e
         · exact e
         · rw [List.getElem?_eq_none (by simp; omega)] at hq
           cases hq
       rw [hj0] at hq
       simp at hq
       exact .inr ⟨by omega,hq.symm⟩
   rcases one hq with ⟨h1,h3⟩ | ⟨h1,rfl⟩ <;> rcases one hq' with ⟨h1',h3'⟩ | ⟨h1',rfl⟩
   · exact h.sep j k q q' hjk h3 h3'
   · rcases hrs q (List.mem_of_getElem? h3) with e | e
     · rw [e]
       cases hc:nmO q with
       | none=>exact .inl rfl
       | some m=>exact .inr (by simp)
     · exact .inr fun e'=>e e'.symm
   · exact hrs q' (List.mem_of_getElem? h3')
   · omega
theorem MS.appC {P : Program} {st : TypeId} {i : TypeInfo} (hL : ∀ k b, hget L k = some b → k < n) (hu : P.underlying st = some (.slice t)) (hi : P.info? t = some i) (hsz : i.size = 10) (hz : zeroOk i = true) (hby : i.bytes ≤ 128) (h : MS false L n t tb tf kb s ts rs Hx N o) (hne : ts ≠ []) (hk : ts.length < 2147483647) {x : Trc} {r : Value} (h8 : x.hd.length = 8) (hr : RowOk tf Hx n N r x.smp) (hrk : nmO r ≠ some kb) (hro : ts ≠ [] → nmO r ≠ some o) (hrs : ∀ q ∈ rs, nmO r = none ∨ nmO r ≠ nmO q) :
   ∃ Hy Hz,builtinA P .append #[st,st] ((N,.cells (tc x r) t) :: Hx) (N + 1) [.slice (some ⟨o,0,none⟩) ts.length ts.length,.slice (some ⟨N,0,none⟩) 1 1]=some (outS (N + 1) (ts.length + 1),Hy,N + 1 + 1) ∧ storeA Hy kb 1 [outS (N + 1) (ts.length + 1)]=some Hz ∧ MS true L n t tb tf kb s (ts ++ [x]) (rs ++ [r]) Hz (N + 1 + 1) (N + 1) ∧ (∀ j,j < N → j ≠ kb → hget Hz j=hget Hx j) ∧ (plainH Hx=true → plainH Hz=true):=by
 have h2:=h.skip hL (.cells (tc x r) t)
 have hb:=h.big
 have hkb:=h.kbn
 have hlen:=tcs_len h.len h.h8
 have hnew:=tc_len (x:=x) (r:=r) h8
 obtain ⟨X,hX⟩:∃ X,(N,Blk.cells (tc x r) t) :: Hx=X:=⟨_,rfl⟩
 rw [hX] at h2 ⊢
 have hxN:hget X N=some (.cells (tc x r) t):=by rw [← hX,hget_cons,if_pos rfl]
 have hxo:∀ j,j < N → hget X j=hget Hx j:=fun j hj=>by rw [← hX,hget_cons,if_neg (by omega)]
 have hap:builtinA P .append #[st,st] X (N + 1) [.slice (some ⟨o,0,none⟩) ts.length ts.length,.slice (some ⟨N,0,none⟩) 1 1]=some (outS (N + 1) (ts.length + 1),(N + 1,.ext (tcs ts rs ++ tc x r) t 10) :: X,N + 1 + 1):=by
   have hc:cellsA X N 0 (1 * 10)=some (tc x r):=by
     rw [cellsA_eq,hxN]
     simp only [Option.bind_some,cellsB]
     rw [if_pos (by omega),List.drop_zero,List.take_of_length_le (by omega)]
   have hsm1:smallA i.bytes 1=true:=by
     unfold smallA
     rw [Bool.and_eq_true]
     exact ⟨decide_eq_true (by omega),decide_eq_true (by omega)⟩
   have hsm:smallA i.bytes (ts.length + 1)=true:=by
     unfold smallA
     rw [Bool.and_eq_true]
     refine ⟨decide_eq_true ?_,decide_eq_true ?_⟩
     · have:=Nat.mul_le_mul_left (ts.length + 1) hby
       omega
     · omega
   rw [show builtinA P .append #[st,st] X (N + 1) [.slice (some ⟨o,0,none⟩) ts.length ts.length,.slice (some ⟨N,0,none⟩) 1 1]=appendA P #[st,st] X (N + 1) (.slice (some ⟨o,0,none⟩) ts.length ts.length) (.slice (some ⟨N,0,none⟩) 1 1) from rfl]
   unfold appendA
   have hnb:Nat.beq (tc x r).length (1 * 10)=true:=by rw [hnew,Nat.one_mul,Nat.beq_refl]
   have hone:=oneL_tc (x:=x) hr.isS
   rw [outS_ne (Nat.succ_ne_zero ts.length)]
   have hk0:¬ ts.length=0:=fun e=>hne (List.length_eq_zero_iff.1 e)
   obtain ⟨ho,_⟩:=h2.out hne
   have ho:hget X o=some (.cells (tcs ts rs) t):=ho
   have hold:cellsA X o 0 (ts.length * 10)=some (tcs ts rs):=by
     rw [cellsA_eq,ho]
     simp only [Option.bind_some,cellsB]
     rw [if_pos (by omega),List.drop_zero,List.take_of_length_le (by omega)]
   simp only [List.getElem?_toArray,List.getElem?_cons_zero,List.getElem?_cons_succ,hu,hi,lenX,lenV,srcX,srcA,hsz,if_neg (show ¬ 1 * 10=0 by omega),flat_n,if_true,hc,hnb,hone,Bool.and_self]
   unfold appendTo
   simp only [if_neg (show ¬ ts.length + 1 ≤ ts.length by omega),hsz,hold,hsm,hz,Bool.and_self,if_true]
   rfl
 obtain ⟨Y,hY⟩:∃ Y,(N + 1,Blk.ext (tcs ts rs ++ tc x r) t 10) :: X=Y:=⟨_,rfl⟩
 rw [hY] at hap
 have hyo:∀ j,j ≤ N → hget Y j=hget X j:=fun j hj=>by
   rw [← hY,hget_cons,if_neg (by omega)]
 have hyN:hget Y (N + 1)=some (.ext (tcs ts rs ++ tc x r) t 10):=by rw [← hY,hget_cons,if_pos rfl]
 have hyk:hget Y kb=some (.cells [.string s,.slice (some ⟨o,0,none⟩) ts.length ts.length] tb):=by
   rw [hyo kb (by omega)]
   exact h2.box
 have hnY:namesOk (N + 1 + 1) Y=true:=by
   rw [← hY]
   exact namesOk_put (Nat.lt_succ_self _) (namesOk_mono (n:=N + 1) (Nat.le_succ _) _ h2.nm)
 have hst:=store_at (v:=outS (N + 1) (ts.length + 1)) hyk (i:=1) (Nat.lt_succ_self 1)
 refine ⟨Y,_,hap,hst,?_,fun j h1 h2=>by rw [hget_hset,if_neg fun e=>h2 e.symm,hyo j (by omega),hxo j h1],fun hpl=>plain_hset rfl ?_⟩
 rotate_left
 · have hXp:plainH X=true:=by rw [← hX,plainH,hpl]; rfl
   rw [← hY,plainH,hXp]; rfl
 have hz:∀ j,j ≠ kb → hget (hset Y kb (.cells ([Value.string s,.slice (some ⟨o,0,none⟩) ts.length ts.length].set 1 (outS (N + 1) (ts.length + 1))) tb)) j=hget Y j:=fun j hj=>by
   rw [hget_hset,if_neg fun e=>hj e.symm]
 obtain ⟨Z,hZ⟩:∃ Z,hset Y kb (.cells ([Value.string s,.slice (some ⟨o,0,none⟩) ts.length ts.length].set 1 (outS (N + 1) (ts.length + 1))) tb)=Z:=⟨_,rfl⟩
 rw [hZ] at hz ⊢
 have hzk:hget Z kb=some (.cells [.string s,outS (N + 1) (ts.length + 1)] tb):=by
   rw [← hZ,hget_hset,if_pos rfl,hyk]
   rfl
 refine ⟨fun j b hj=>?_,?_,by omega,by rw [List.length_append,List.length_append,h.len]; rfl,fun y hy=>?_,fun _=>⟨?_,by omega,by omega,by omega⟩,?_,by omega,fun j y q hy hq=>?_,fun j k q q' hjk hq hq'=>?_⟩
 · have:=hL j b hj
   rw [hz j (by omega),hyo j (by omega),hxo j (by omega)]
   exact h.sub j b hj
 · rw [← hZ]; exact namesOk_hset hnY
 · rcases List.mem_append.1 hy with hy | hy
   · exact h.h8 y hy
   · rw [List.mem_singleton] at hy; subst hy; exact h8
 · rw [hz (N + 1) (by omega),hyN,tcs_snoc h.len]
   rfl
 · rw [hzk,List.length_append]
   rfl
 · have hst:∀ {q:Value} {bs:List Nat},RowOk tf Hx n N q bs → nmO q ≠ some kb → (ts ≠ [] → nmO q ≠ some o) → RowOk tf Z n (N + 1 + 1) q bs ∧ nmO q ≠ some kb ∧ (ts ++ [x] ≠ [] → nmO q ≠ some (N + 1)):=fun {q bs} h1 h2 h3=>by
     refine ⟨h1.keep (by omega) fun m hm hm1 hm2=>?_,h2,fun _ e=>?_⟩
     · rw [hz m fun e=>h2 (by rw [hm,e]),hyo m (by omega),hxo m hm2]
     · have:=(h1.lt e).2
       omega
   by_cases hj:j < ts.length
   · rw [List.getElem?_append_left hj] at hy
     rw [List.getElem?_append_left (by rw [← h.len]; exact hj)] at hq
     obtain ⟨h1,h2,h3⟩:=h.row j y q hy hq
     exact hst h1 h2 h3
   · rw [List.getElem?_append_right (by omega)] at hy
     rw [List.getElem?_append_right (by rw [← h.len]; omega)] at hq
     have hj0:j - ts.length=0:=by
       rcases Nat.eq_zero_or_pos (j - ts.length) with e | e
       · exact e
       · rw [List.getElem?_eq_none (by simp; omega)] at hy
         cases hy
     rw [hj0] at hy
     rw [← h.len,hj0] at hq
     simp at hy hq
     subst hy hq
     exact hst hr hrk hro
 · have one:∀ {j:Nat} {q:Value},(rs ++ [r])[j]? = some q → (j < rs.length ∧ rs[j]? = some q) ∨ (j=rs.length ∧ q=r):=fun {j q} hq=>by
     by_cases hj:j < rs.length
     · rw [List.getElem?_append_left hj] at hq
       exact .inl ⟨hj,hq⟩
     · rw [List.getElem?_append_right (by omega)] at hq
       have hj0:j - rs.length=0:=by
         rcases Nat.eq_zero_or_pos (j - rs.length) with e | e
         · exact e
         · rw [List.getElem?_eq_none (by simp; omega)] at hq
           cases hq
       rw [hj0] at hq
       simp at hq
       exact .inr ⟨by omega,hq.symm⟩
   rcases one hq with ⟨h1,h3⟩ | ⟨h1,rfl⟩ <;> rcases one hq' with ⟨h1',h3'⟩ | ⟨h1',rfl⟩
   · exact h.sep j k q q' hjk h3 h3'
   · rcases hrs q (List.mem_of_getElem? h3) with e | e
     · rw [e]
       cases hc:nmO q with
       | none=>exact .inl rfl
       | some m=>exact .inr (by simp)
     · exact .inr fun e'=>e e'.symm
   · exact hrs q' (List.mem_of_getElem? h3')
   · omega
end
end Go.Ab
namespace Go.Proofs.YtkongcnmkiihjaaGreatDoor
open Go Go.Ab Go.Proofs
theorem unop_negf {o:Operand} {fr:Fr} {H:Heap} {n b:Nat} (h:evO Tryz.prog fr o=some (rv b)):opUnop Tryz.prog .neg o fr H n=some (rv (negB b),H,n):=by
 have hr:runP Tryz.prog (Op.unary .neg (rv b))=some (rv (negB b)):=by kernel_rfl
 unfold opUnop
 rw [h]
 show (if afq (rv b)=true then (runP Tryz.prog (Op.unary .neg (rv b))).bind fun v=>if afq v=true then some (v,H,n) else none else none)=_
 rw [if_pos (show afq (rv b)=true from rfl),hr]
 rfl
theorem build144r {fr:Fr} {H:Heap} {n:Nat} {x:Operand} {o:Option Addr} {l c:Nat} (hx:evO Tryz.prog fr x=some (.slice o l c)):opBuild Tryz.prog 144 #[(2,x)] fr H n=some (.agg ⟨[iv 0,iv 0,iv 0,iv 0,iv 0,iv 0,iv 0,iv 0,.bool false,.slice o l c]⟩,H,n):=by
 unfold opBuild
 simp only [evPs_cons,evPs_nil,hx]
 kernel_rfl
theorem build103c {fr:Fr} {H:Heap} {n:Nat} {s:ByteArray}:opBuild Tryz.prog 103 #[(0,.const (.string s))] fr H n=some (.agg ⟨[.string s,.slice none 0 0]⟩,H,n):=build103a rfl
theorem alk_take {bs:List Nat} {i:Nat} (h:i < 4):(alk bs).take (i + 1)=(alk bs).take i ++ [yT bs]:=by
 rcases (show i=0 ∨ i=1 ∨ i=2 ∨ i=3 by omega) with rfl | rfl | rfl | rfl <;> rfl
def ngB (i:Nat):Bool:=decide (i % 2=1)
def agB (i:Nat) (bs:List Nat):List Nat:=if ngB i then bs.map negB else bs
theorem agn_take {bs:List Nat} {i:Nat} (h:i < 4):(agn bs).take (i + 1)=(agn bs).take i ++ [yT (agB i bs)]:=by
 rcases (show i=0 ∨ i=1 ∨ i=2 ∨ i=3 by omega) with rfl | rfl | rfl | rfl <;> rfl
def ngP (e:Bool) (j:Nat) (bs:List Nat):List Nat:=if e then (bs.take j).map negB ++ bs.drop j else bs
theorem ngP_len {e:Bool} {j:Nat} {bs:List Nat}:(ngP e j bs).length=bs.length:=by
 unfold ngP
 split
 · rw [List.length_append,List.length_map,List.length_take,List.length_drop]; omega
 · rfl
theorem ngP_zero {e:Bool} {bs:List Nat}:ngP e 0 bs=bs:=by
 unfold ngP
 split <;> simp
theorem ngP_all {i:Nat} {bs:List Nat}:ngP (ngB i) bs.length bs=agB i bs:=by
 unfold ngP agB
 split <;> simp
theorem ngP_at {j:Nat} {bs:List Nat} (h:j < bs.length):(ngP true j bs)[j]'(by rw [ngP_len]; exact h)=bs[j]:=by
 have:(ngP true j bs)[j]? = some bs[j]:=by
   show ((bs.take j).map negB ++ bs.drop j)[j]? = _
   rw [List.getElem?_append_right (by simp; omega)]
   simp only [List.length_map,List.length_take,Nat.min_eq_left (Nat.le_of_lt h),Nat.sub_self,List.getElem?_drop,Nat.add_zero]
   rw [List.getElem?_eq_getElem h]
 rw [List.getElem?_eq_getElem (by rw [ngP_len]; exact h)] at this
 exact Option.some.inj this
theorem ngP_succ {j:Nat} {bs:List Nat} (h:j < bs.length):(ngP true j bs).set j (negB bs[j])=ngP true (j + 1) bs:=by
 show ((bs.take j).map negB ++ bs.drop j).set j (negB bs[j])=(bs.take (j + 1)).map negB ++ bs.drop (j + 1)
 have hlen:((bs.take j).map negB).length=j:=by rw [List.length_map,List.length_take]; omega
 rw [List.drop_eq_getElem_cons h,List.set_append_right _ _ (by rw [hlen]; exact Nat.le_refl _),hlen,Nat.sub_self,List.set_cons_zero,List.take_succ_eq_append_getElem h,List.map_append,List.append_assoc]
 rfl
theorem hset_hset {k:Nat} {b c:Blk}:∀ H:Heap,hset (hset H k b) k c=hset H k c
 | []=>rfl
 | (j,d) :: H=>by
   simp only [hset]
   split
   · simp only [hset]; simp_all
   · rename_i h; simp only [hset,h]; simp [hset_hset H]
structure TwoL (X:Heap) (N:Nat) (us ws:List Trc) (Hx:Heap) (M o1 o2:Nat) (rs1 rs2:List Value):Prop where
 m1:Ab.MS true X N 144 103 145 N nmA us rs1 Hx M o1
 m2:Ab.MS true X N 144 103 145 (N + 1) nmB ws rs2 Hx M o2
 pl:plainH Hx=true
 d1:us ≠ [] → ws ≠ [] → o1 ≠ o2
 d2:∀ r ∈ rs1,(ws ≠ [] → nmO r ≠ some o2) ∧ nmO r ≠ some (N + 1)
 d3:∀ r ∈ rs2,(us ≠ [] → nmO r ≠ some o1) ∧ nmO r ≠ some N
 e1:us ≠ [] → o1 ≠ N + 1
 e2:ws ≠ [] → o2 ≠ N
theorem nm_lt {L Hx:Heap} {n N kb o t tb tf:Nat} {F:Bool} {s:ByteArray} {ts:List Trc} {rs:List Value} (h:Ab.MS F L n t tb tf kb s ts rs Hx N o) {r:Value} (hr:r ∈ rs) {m:Nat} (hm:nmO r=some m):n ≤ m ∧ m < N:=by
 obtain ⟨j,hj,rfl⟩:=List.getElem_of_mem hr
 have hj':j < ts.length:=by rw [h.len]; exact hj
 exact (h.row j _ _ (List.getElem?_eq_getElem hj') (List.getElem?_eq_getElem hj)).1.lt hm
abbrev fr12y (n p q:Nat) (sv:Value) (sq hf:Int) (W i:Nat):Fr:=[(3,ptA n),(7,iv sq),(8,iv hf),(9,iv W),(14,ptA p),(15,sv),(17,ptA q),(18,ptA (q + 1)),(144,iv i)]
set_option maxHeartbeats 12800000 in
set_option maxRecDepth 100000 in
theorem w12y {T X : Heap} {N n p : Nat} {s : ByteArray} {sl ul sv : Value} {ts : List Trc} {bs : List Nat} {sq hf : Int} (hp : PM N X) (hTX : Sub T X) (hR : dR X) (b0 : hget X n = some (.cells [.string s, sl] 103)) (b1 : hget X p = some (.cells [.string s, ul] 103)) (v0 : shtV X (.agg ⟨[.string s, sl]⟩) = some (s, ts)) (v1 : shtV X (.agg ⟨[.string s, ul]⟩) = some (s, trn ts)) (r0 : RowS X N sl) (r1 : RowS X N ul) (sm : reaV X sv = some bs) (h0 : shtE s ts = 0) (hW : (widF ts).1 = bs.length) (hl : 1 ≤ bs.length ∧ bs.length ≤ 16) (hg : ∀ b ∈ bs, good32 b = true) (hts : ts.length ≤ 63) (hsq : 1 ≤ sq ∧ sq ≤ 65536) (hhf : 0 ≤ hf ∧ hf ≤ 3) (h9 : 9 ≤ N) :
   E Tryz.prog n none (cFrom (bodyOf Tryz.f12) 11) { fr:=[(3,ptA n),(7,iv sq),(8,iv hf),(9,iv bs.length),(14,ptA p),(15,sv)],sz:=319,H:=X,n:=N,marks:=[],vs:=vs12 } (pureK Tryz.prog Tryz.f12 T (.bool true)):=by
 have hr0:=recT_ok (P:=Tryz.prog) (l:=[]) (by simp)
 have hXlt:=hp.lt
 have hne:bs.length ≠ 0:=by omega
 obtain ⟨aq,cq,rfl,hfq,hlq,hcq⟩:=rea_src sm hne
 have haqX:aq.block < N:=by
   rw [cellsA_eq] at hcq
   cases hc:hget X aq.block with
   | none=>rw [hc] at hcq; cases hcq
   | some b=>exact hXlt _ _ hc
 have bA:=@build103c
 refine E.seq ?_
 have st1:storeA ((N + 1,.cells [.string ⟨#[]⟩,.slice none 0 0] 103) :: (N,.cells [.string ⟨#[]⟩,.slice none 0 0] 103) :: X) N 0 [.string nmA,.slice none 0 0]=some ((N + 1,.cells [.string ⟨#[]⟩,.slice none 0 0] 103) :: (N,.cells [.string nmA,.slice none 0 0] 103) :: X):=by
   rw [store_all (t:=103) (cs:=[.string nmA,.slice none 0 0]) (zs:=[.string ⟨#[]⟩,.slice none 0 0]) (by rw [hget_cons,if_neg (by omega),hget_cons,if_pos rfl]) rfl]
   simp
 have st2:storeA ((N + 1,.cells [.string ⟨#[]⟩,.slice none 0 0] 103) :: (N,.cells [.string nmA,.slice none 0 0] 103) :: X) (N + 1) 0 [.string nmB,.slice none 0 0]=some ((N + 1,.cells [.string nmB,.slice none 0 0] 103) :: (N,.cells [.string nmA,.slice none 0 0] 103) :: X):=store_new rfl
 refine E.reg hr0 (by simp [-storeA,bA,show (⟨#[97]⟩:ByteArray)=nmA from rfl,show (⟨#[98]⟩:ByteArray)=nmB from rfl,st1,st2]; rfl) ?_
 obtain ⟨Y,hY⟩:∃ Z,(N + 1,Blk.cells [.string nmB,.slice none 0 0] 103) :: (N,.cells [.string nmA,.slice none 0 0] 103) :: X=Z:=⟨_,rfl⟩
 have p1:PM (N + 1) ((N,Blk.cells [.string nmA,.slice none 0 0] 103) :: X):=hp.put rfl
 have pY:PM (N + 2) Y:=by rw [← hY]; exact p1.put rfl
 have sY:Sub X Y:=by rw [← hY]; exact hp.sub.trans p1.sub
 have hTw:TwoL X N [] [] Y (N + 2) (N + 1000) (N + 1000) [] []:=by
   refine ⟨⟨sY,pY.nm,by omega,rfl,by simp,fun h=>absurd rfl h,?_,by omega,fun i x r hx=>by simp at hx,fun i j r q _ hr=>by simp at hr⟩,⟨sY,pY.nm,by omega,rfl,by simp,fun h=>absurd rfl h,?_,by omega,fun i x r hx=>by simp at hx,fun i j r q _ hr=>by simp at hr⟩,pY.pl,fun h=>absurd rfl h,fun r hr=>(by cases hr),fun r hr=>(by cases hr),fun h=>absurd rfl h,fun h=>absurd rfl h⟩
   · rw [← hY,hget_cons,if_neg (by omega),hget_cons,if_pos rfl]; rfl
   · rw [← hY,hget_cons,if_pos rfl]; rfl
 rw [hY]
 refine E.seq (E.seq (E.reg hr0 (by simp; rfl) ?_))
 refine E.block (E.loop ?_)
 refine EL.ind (fun x:Nat × Heap × Nat × Nat × Nat × List Value × List Value=>{ fr:=fr12y n p N (.slice (some aq) bs.length cq) sq hf bs.length x.1,sz:=319,H:=x.2.1,n:=x.2.2.1,marks:=[],vs:=vs12 }) (fun x=>4 - x.1) (fun x=>x.1 ≤ 4 ∧ TwoL X N ((alk bs).take x.1) ((agn bs).take x.1) x.2.1 x.2.2.1 x.2.2.2.1 x.2.2.2.2.1 x.2.2.2.2.2.1 x.2.2.2.2.2.2 ∧ N + 2 ≤ x.2.2.1 ∧ (x.1=0 → x.2.2.1=N + 2 ∧ x.2.2.2.1=N + 1000 ∧ x.2.2.2.2.1=N + 1000)) (0,Y,N + 2,N + 1000,N + 1000,[],[]) (.keep rfl rfl rfl (by simp) (Sub.refl _)) ⟨Nat.zero_le _,hTw,Nat.le_refl _,fun _=>⟨rfl,rfl,rfl⟩⟩ (fun _=>rfl) ?_
 rintro ⟨i,Hx,M,o1,o2,rs1,rs2⟩ ⟨hi,hT2,hNM,hst0⟩
 dsimp only at hi hT2 hNM hst0 ⊢
 have hwi:IntKind.i64.wrap ((i:Int) + 1)=(i:Int) + 1:=W_in (by omega) (by omega)
 refine E.seq (E.reg hr0 (by simp; rfl) ?_)
 refine E.seq ?_
 by_cases hi4:i < 4
 · refine E.cond (t:=true) (by simp; omega) (fun _=>?_) (fun h=>by cases h)
   refine E.skip (E.seq ?_)
   refine E.block (E.seq (E.reg hr0 (by simp; rfl) ?_))
   have htl:((alk bs).take i).length=i:=by rw [List.length_take]; show min i 4=i; omega
   have htl2:((agn bs).take i).length=i:=by rw [List.length_take]; show min i 4=i; omega
   obtain ⟨r,hrr⟩:∃ r,Value.slice (some ⟨M + 1,0,some 0⟩) bs.length 0=r:=⟨_,rfl⟩
   have hXlt':∀ k b,hget X k=some b → k < N:=hXlt
   have hM1s:=(hT2.m1.skip hXlt' (.cells [] 145)).skip hXlt' (.ext (bs.map rv) 145 1)
   have hrow:RowOk 145 ((M + 1,Blk.ext (bs.map rv) 145 1) :: (M,Blk.cells [] 145) :: Hx) N (M + 1 + 1) r (yT bs).smp:=by
     rw [← hrr]
     exact .inr ⟨M + 1,false,by omega,by omega,rfl,by simp [Ab.rowV,yT]⟩
   have hrn:∀ m,nmO r=some m → m=M + 1:=fun m h=>by
     rw [← hrr] at h
     have h:some (M + 1)=some m:=h
     injection h with h; exact h.symm
   obtain ⟨Hw,Hz,hap2,hst2,hM2,hkeep,hplain⟩:=hM1s.app2 (P:=Tryz.prog) (st:=101) (i:=Tryz.t144) hXlt' Tryz.underlying101 inf144 sz144i zo144 by144 (by omega) (x:=yT bs) rfl hrow (fun e=>by have:=hrn _ e; omega) (fun h0 e=>by have:=hrn _ e; have:=hT2.m1.out h0; omega) (fun q hq=>by
     cases hm:nmO r with
     | none=>exact .inl rfl
     | some m=>
       refine .inr fun e=>?_
       have:=(nm_lt hT2.m1 hq e.symm).2
       have:=hrn m hm
       omega)
   rw [htl] at hap2 hst2
   have htc:tc (yT bs) r=[iv 0,iv 0,iv 0,iv 0,iv 0,iv 0,iv 0,iv 0,.bool false,r]:=rfl
   rw [htc,← hrr] at hap2
   rw [outS_ne (Nat.succ_ne_zero _)] at hap2 hst2
   have hHxn:=hT2.m1.nm
   have hHxp:=hT2.pl
   have hn1:namesOk (M + 1) Hx=true:=namesOk_mono (by omega) _ hHxn
   have hn2:namesOk (M + 1 + 1) Hx=true:=namesOk_mono (by omega) _ hHxn
   have hn3:namesOk (M + 1 + 1 + 1) Hx=true:=namesOk_mono (by omega) _ hHxn
   have htk:=takeNew_frz hHxn
   have htk1:=takeNew_frz hn1
   have htk2:=takeNew_frz hn2
   have htk3:=takeNew_frz hn3
   have hHwn:namesOk (M + 1 + 1 + 1 + 1) Hz=true:=hM2.nm
   obtain ⟨xx,hxx⟩:=storeA_form hst2
   have hHwn2:namesOk (M + 1 + 1 + 1 + 1) Hw=true:=by rw [← nm_hset (k:=N) (c:=xx),← hxx]; exact hHwn
   have hbk:∀ H',backA [M] H' Hx=Hx:=fun H'=>backLow (fun k hk=>by rw [List.mem_singleton] at hk; omega) hHxn
   have hb1:aq.block < M:=by omega
   have hb2:aq.block < M + 1:=by omega
   have hm2:memN [M,aq.block] aq.block=true:=(memN_iff _ _).2 (by simp)
   have hm1:memN [M] aq.block=false:=by
     cases hb:memN [M] aq.block with
     | false=>rfl
     | true=>
       have:=(memN_iff _ _).1 hb
       rw [List.mem_singleton] at this
       omega
   have hcqx:=hT2.m1.sub.cells hcq
   have hsv:reaV Hx (.slice (some aq) bs.length cq)=some bs:=listV_mono decR_mono hT2.m1.sub sm
   have hre:∀ m,builtinA Tryz.prog .append #[126,126] ((M,.cells [] 145) :: handA [M,aq.block] [M] Hx) m [.slice (some ⟨M,0,none⟩) 0 0,.slice (some aq) bs.length cq]=some (.slice (some ⟨m,0,some 0⟩) bs.length 0,(m,.ext (bs.map rv) 145 1) :: (M,.cells [] 145) :: handA [M,aq.block] [M] Hx,m + 1):=fun m=>by
     refine app126z ?_ hne (by rw [cellsA_eq,hget_cons,if_pos rfl]; rfl) (by omega)
     refine listV_mk (cs:=bs.map rv) hfq ?_ (by simp) hlq rv_dec
     rw [List.length_map,cellsA_eq,hget_cons,if_neg (by omega),hgetHand hHxp,hm1,hm2]
     rw [cellsA_eq] at hcqx
     cases hg':hget Hx aq.block with
     | none=>rw [hg'] at hcqx; cases hcqx
     | some b=>
       rw [hg'] at hcqx
       cases b <;> simp [cellsB,frz] at hcqx ⊢ <;> first | exact hcqx | (obtain ⟨h1,h2⟩:=hcqx; exact ⟨h1,h2⟩)
   have hbx:=hT2.m1.box
   rw [htl] at hbx
   have eb:cellA Hx N 1=some (outS o1 i):=by rw [cellA_eq,hbx]; rfl
   have l2:N < M:=by omega
   have hbt:=fun (fr:Fr) (H:Heap) (m:Nat) (h3:evO Tryz.prog fr (.tmp 151)=some (.slice (some ⟨M + 1,0,some 0⟩) bs.length 0))=>build144r (fr:=fr) (H:=H) (n:=m) h3
   refine E.seq ?_
   refine E.drawX mixed hr0 [7,9] [2,4,6,7,9] [4,7,9] [4] (by kernel_rfl) (by simp [-cellA,-cellsA,-readA,-builtinA,-storeA,cellA_read,handX,backA,handA_nn,hHxn,eb,l2,hb1,hb2,hre,hbt,hbk,hap2,hst2,hHwn,hHwn2]; rfl) ?_
   have hue:∀ {us:List Trc},(us=(alk bs).take i ∨ us=(agn bs).take i) → (us=[] ↔ i=0):=fun {us} h=>by
     rw [← List.length_eq_zero_iff]
     rcases h with rfl | rfl
     · rw [htl]
     · rw [htl2]
   have hu1:=hue (.inl rfl)
   have hu2:=hue (.inr rfl)
   have hkp:∀ m,m < M → m ≠ N → (i ≠ 0 → m ≠ o1) → hget Hz m=hget Hx m:=fun m h1 h2 h3=>by
     rw [hkeep m (by omega) h2 (fun h=>h3 fun e=>h (hu1.2 e)),hget_cons,if_neg (by omega),hget_cons,if_neg (by omega)]
   have hHzp:plainH Hz=true:=hplain (by rw [plainH,plainH,hHxp]; rfl)
   obtain ⟨M4,hM4⟩:∃ m,M + 1 + 1 + 1 + 1=m:=⟨_,rfl⟩
   rw [hM4] at hM2 hHwn
   have hMB:Ab.MS true X N 144 103 145 (N + 1) nmB ((agn bs).take i) rs2 Hz M4 o2:=hT2.m2.other (by omega) hM2.nm hM2.sub fun m h1 h2 h3=>by
     rcases h3 with rfl | rfl | ⟨r',hr',hm'⟩
     · by_cases h0:i=0
       · have:=hst0 h0; omega
       · exact hkp _ h2 (hT2.e2 fun e=>h0 (hu2.1 e)) fun _=>(hT2.d1 (fun e=>h0 (hu1.1 e)) (fun e=>h0 (hu2.1 e))).symm
     · refine hkp _ h2 (by omega) fun h0 e=>hT2.e1 (fun e'=>h0 (hu1.1 e')) e.symm
     · refine hkp m h2 (fun e=>(hT2.d3 r' hr').2 (by rw [hm',e])) fun h0 e=>(hT2.d3 r' hr').1 (fun e'=>h0 (hu1.1 e')) (by rw [hm',e])
   have pZ:PM M4 Hz:=⟨hM2.nm,hHzp⟩
   refine E.lead { fr:=[(3,ptA n),(7,iv sq),(8,iv hf),(9,iv bs.length),(14,ptA p),(15,.slice (some aq) bs.length cq),(17,ptA N),(18,ptA (N + 1)),(19,iv i),(144,iv i)],sz:=319,H:=Hz,n:=M4,marks:=[],vs:=vs12 } (.keep hM4.symm rfl rfl (by simp) (Sub.refl _)) ?_
   obtain ⟨r2,hr2⟩:∃ r,Value.slice (some ⟨M4 + 1,0,some 0⟩) bs.length 0=r:=⟨_,rfl⟩
   have hzs:Sub X Hz:=hM2.sub
   have hre2:∀ m,builtinA Tryz.prog .append #[126,126] ((M4,.cells [] 145) :: Hz) m [.slice (some ⟨M4,0,none⟩) 0 0,.slice (some aq) bs.length cq]=some (.slice (some ⟨m,0,some 0⟩) bs.length 0,(m,.ext (bs.map rv) 145 1) :: (M4,.cells [] 145) :: Hz,m + 1):=fun m=>
     app126z (listV_mono decR_mono (hzs.trans pZ.sub) sm) hne (by rw [cellsA_eq,hget_cons,if_pos rfl]; rfl) (by omega)
   have hst3:storeA ((M4 + 1 + 1,.cells [iv 0,iv 0,iv 0,iv 0,iv 0,iv 0,iv 0,iv 0,.bool false,.slice none 0 0] 144) :: (M4 + 1,.ext (bs.map rv) 145 1) :: (M4,.cells [] 145) :: Hz) (M4 + 1 + 1) 0 [iv 0,iv 0,iv 0,iv 0,iv 0,iv 0,iv 0,iv 0,.bool false,.slice (some ⟨M4 + 1,0,some 0⟩) bs.length 0]=some ((M4 + 1 + 1,.cells [iv 0,iv 0,iv 0,iv 0,iv 0,iv 0,iv 0,iv 0,.bool false,.slice (some ⟨M4 + 1,0,some 0⟩) bs.length 0] 144) :: (M4 + 1,.ext (bs.map rv) 145 1) :: (M4,.cells [] 145) :: Hz):=store_new rfl
   have hbt2:=fun (fr:Fr) (H:Heap) (m:Nat) (h3:evO Tryz.prog fr (.tmp 158)=some (.slice (some ⟨M4 + 1,0,some 0⟩) bs.length 0))=>build144r (fr:=fr) (H:=H) (n:=m) h3
   refine E.seq (E.reg hr0 (by simp [-builtinA,-storeA,hre2,hbt2,hst3]; rfl) ?_)
   obtain ⟨G0,hG0⟩:∃ G,(M4 + 1 + 1,Blk.cells [iv 0,iv 0,iv 0,iv 0,iv 0,iv 0,iv 0,iv 0,.bool false,.slice (some ⟨M4 + 1,0,some 0⟩) bs.length 0] 144) :: (M4 + 1,.ext (bs.map rv) 145 1) :: (M4,.cells [] 145) :: Hz=G:=⟨_,rfl⟩
   have g5:hget G0 (M4 + 1)=some (.ext (bs.map rv) 145 1):=by rw [← hG0,hget_cons,if_neg (by omega),hget_cons,if_pos rfl]
   have g6:hget G0 (M4 + 1 + 1)=some (.cells [iv 0,iv 0,iv 0,iv 0,iv 0,iv 0,iv 0,iv 0,.bool false,.slice (some ⟨M4 + 1,0,some 0⟩) bs.length 0] 144):=by rw [← hG0,hget_cons,if_pos rfl]
   have glow:∀ m,m < M4 → hget G0 m=hget Hz m:=fun m hm=>by rw [← hG0,hget_cons,if_neg (by omega),hget_cons,if_neg (by omega),hget_cons,if_neg (by omega)]
   have pG0:PM (M4 + 1 + 1 + 1) G0:=by
     rw [← hG0]
     exact ((pZ.put (b:=.cells [] 145) rfl).put (b:=.ext (bs.map rv) 145 1) rfl).put rfl
   rw [hG0]
   have c9:cellA G0 (M4 + 1 + 1) 9=some (.slice (some ⟨M4 + 1,0,some 0⟩) bs.length 0):=by rw [cellA_eq,g6]; rfl
   refine E.seq (E.seq (E.reg hr0 (by simp [-cellA,c9]; rfl) ?_))
   refine E.block (E.loop ?_)
   refine EL.ind (fun j:Nat=>{ fr:=[(3,ptA n),(7,iv sq),(8,iv hf),(9,iv bs.length),(14,ptA p),(15,.slice (some aq) bs.length cq),(17,ptA N),(18,ptA (N + 1)),(19,iv i),(20,ptA (M4 + 1 + 1)),(144,iv i),(162,iv bs.length),(163,iv j)],sz:=319,H:=hset G0 (M4 + 1) (.ext ((ngP (ngB i) j bs).map rv) 145 1),n:=M4 + 1 + 1 + 1,marks:=[],vs:=vs12 }) (fun j=>bs.length - j) (fun j=>j ≤ bs.length) 0 (.keep rfl rfl rfl (by simp) (fun k b hk=>by
     rw [hget_hset,ngP_zero] at hk
     split at hk
     · rename_i e; subst e; rw [g5] at hk; injection hk with hk; subst hk; exact g5
     · exact hk)) (Nat.zero_le _) (fun _=>rfl) ?_
   intro j hj
   have hwj:IntKind.i64.wrap ((j:Int) + 1)=(j:Int) + 1:=W_in (by omega) (by omega)
   obtain ⟨G,hG⟩:∃ G,hset G0 (M4 + 1) (.ext ((ngP (ngB i) j bs).map rv) 145 1)=G:=⟨_,rfl⟩
   have k5:hget G (M4 + 1)=some (.ext ((ngP (ngB i) j bs).map rv) 145 1):=by rw [← hG,hget_hset,if_pos rfl,g5]; rfl
   have k6:hget G (M4 + 1 + 1)=some (.cells [iv 0,iv 0,iv 0,iv 0,iv 0,iv 0,iv 0,iv 0,.bool false,.slice (some ⟨M4 + 1,0,some 0⟩) bs.length 0] 144):=by rw [← hG,hget_hset,if_neg (by omega)]; exact g6
   have klow:∀ m,m < M4 → hget G m=hget Hz m:=fun m hm=>by rw [← hG,hget_hset,if_neg (by omega)]; exact glow m hm
   have pG:PM (M4 + 1 + 1 + 1) G:=by rw [← hG]; exact pG0.set rfl
   have c9':cellA G (M4 + 1 + 1) 9=some (.slice (some ⟨M4 + 1,0,some 0⟩) bs.length 0):=by rw [cellA_eq,k6]; rfl
   rw [hG]
   refine E.seq (E.reg hr0 (by simp; rfl) ?_)
   refine E.seq ?_
   by_cases hjl:j < bs.length
   · refine E.cond (t:=true) (by simp; omega) (fun _=>?_) (fun h=>by cases h)
     refine E.skip (E.seq ?_)
     refine E.block (E.seq (E.reg hr0 (by simp; rfl) ?_))
     refine E.seq ?_
     by_cases hodd:i % 2=1
     · have hmod:(i:Int).tmod 2=1:=by rw [Int.tmod_eq_emod_of_nonneg (by omega)]; omega
       have hng:ngB i=true:=by unfold ngB; exact decide_eq_true hodd
       refine E.reg hr0 (by simp [bin_rem,hmod]; rfl) ?_
       refine E.cond (t:=true) (by simp) (fun _=>?_) (fun h=>by cases h)
       rw [hng] at k5
       have hjn:j < (ngP true j bs).length:=by rw [ngP_len]; exact hjl
       have hcj:cellA G (M4 + 1) j=some (rv bs[j]):=by
         rw [cellA_eq,k5]
         show ((ngP true j bs).map rv)[j]? = _
         rw [List.getElem?_map,List.getElem?_eq_getElem hjn,ngP_at hjl]
         rfl
       have hsto:=store_extR (v:=rv (negB bs[j])) k5 (i:=j) (by rw [List.length_map]; exact hjn)
       have hset2:hset G (M4 + 1) (.ext (((ngP true j bs).map rv).set j (rv (negB bs[j]))) 145 1)=hset G0 (M4 + 1) (.ext ((ngP (ngB i) (j + 1) bs).map rv) 145 1):=by
         rw [← List.map_set,ngP_succ hjl,← hG,hset_hset,hng]
       obtain ⟨cb,hcb⟩:∃ c,bs[j]=c:=⟨_,rfl⟩
       rw [hcb] at hcj hsto hset2
       rw [hset2] at hsto
       have hGn:=pG.nm
       have hGp:=pG.pl
       have q1:M4 + 1 < M4 + 1 + 1 + 1:=by omega
       have q2:M4 + 1 + 1 < M4 + 1 + 1 + 1:=by omega
       have hj0:(0:Int) ≤ j:=by omega
       have hjI:(j:Int) < bs.length:=by omega
       have hfo:flat ⟨M4 + 1,0,some 0⟩=true:=rfl
       have hsn:namesOk (M4 + 1 + 1 + 1) (hset G0 (M4 + 1) (.ext ((ngP (ngB i) (j + 1) bs).map rv) 145 1))=true:=namesOk_hset pG0.nm
       refine E.drawU mixed hr0 [10] [10] [1,4,7,10] (by kernel_rfl) (by simp [-cellA,-readA,-flat,-storeA,cellA_read,hGn,c9',hcj,hjl,hjI,hj0,hfo,q1,q2,unop_negf,hsto,hsn]; rfl) ?_
       refine E.reg hr0 (by simp [hwj]; rfl) ?_
       exact ⟨j + 1,.keep rfl rfl rfl (by simp) (Sub.refl _),hjl,by dsimp only; omega⟩
     · have hmod:(i:Int).tmod 2=0:=by rw [Int.tmod_eq_emod_of_nonneg (by omega)]; omega
       have hng:ngB i=false:=by unfold ngB; exact decide_eq_false hodd
       refine E.reg hr0 (by simp [bin_rem,hmod]; rfl) ?_
       refine E.cond (t:=false) (by simp) (fun h=>by cases h) (fun _=>?_)
       refine E.skip (E.reg hr0 (by simp [hwj]; rfl) ?_)
       exact ⟨j + 1,.keep rfl rfl rfl (by simp) (by rw [← hG,hng]; exact Sub.refl _),hjl,by dsimp only; omega⟩
   · have hj':j=bs.length:=by omega
     subst hj'
     rw [ngP_all] at k5
     refine E.cond (t:=false) (by simp) (fun h=>by cases h) (fun _=>?_)
     refine E.exit ?_
     have hgs:Sub X G:=fun k b hk=>by
       have:=hXlt _ _ hk
       rw [klow k (by omega)]
       exact hzs _ _ hk
     have hMBg:Ab.MS true X N 144 103 145 (N + 1) nmB ((agn bs).take i) rs2 G (M4 + 1 + 1 + 1) o2:=hMB.other (by omega) pG.nm hgs fun m _ h2 _=>klow m h2
     have hrow2:RowOk 145 G N (M4 + 1 + 1 + 1) r2 (yT (agB i bs)).smp:=by
       rw [← hr2]
       refine .inr ⟨M4 + 1,false,by omega,by omega,?_,k5⟩
       have:(agB i bs).length=bs.length:=by unfold agB; split <;> simp
       show _=Value.slice (some ⟨M4 + 1,0,some 0⟩) (agB i bs).length 0
       rw [this]
     have hrn2:∀ m,nmO r2=some m → m=M4 + 1:=fun m h=>by
       rw [← hr2] at h
       have h:some (M4 + 1)=some m:=h
       injection h with h; exact h.symm
     obtain ⟨Hw2,Hz2,hap3,hst4,hM3,hkeep3,hplain3⟩:=hMBg.app2 (P:=Tryz.prog) (st:=101) (i:=Tryz.t144) hXlt Tryz.underlying101 inf144 sz144i zo144 by144 (by omega) (x:=yT (agB i bs)) rfl hrow2 (fun e=>by have:=hrn2 _ e; omega) (fun h0 e=>by have:=hrn2 _ e; have:=hMB.out h0; omega) (fun q hq=>by
       cases hm:nmO r2 with
       | none=>exact .inl rfl
       | some m=>
         refine .inr fun e=>?_
         have:=(nm_lt hMB hq e.symm).2
         have:=hrn2 m hm
         omega)
     rw [htl2] at hap3 hst4
     have htc2:tc (yT (agB i bs)) r2=[iv 0,iv 0,iv 0,iv 0,iv 0,iv 0,iv 0,iv 0,.bool false,r2]:=rfl
     rw [htc2,← hr2] at hap3
     rw [outS_ne (Nat.succ_ne_zero _)] at hap3 hst4
     have hbx2:=hMBg.box
     rw [htl2] at hbx2
     have eb2:cellA G (N + 1) 1=some (outS o2 i):=by rw [cellA_eq,hbx2]; rfl
     have lb2:loadA Tryz.prog 101 G (.pointer (some ⟨N + 1,1,none⟩))=some (outS o2 i):=by simp [-cellA,eb2]
     have ld2:loadA Tryz.prog 144 G (.pointer (some ⟨M4 + 1 + 1,0,none⟩))=some (.agg ⟨[iv 0,iv 0,iv 0,iv 0,iv 0,iv 0,iv 0,iv 0,.bool false,.slice (some ⟨M4 + 1,0,some 0⟩) bs.length 0]⟩):=load144 (by rw [cellsA_eq,k6]; rfl)
     refine E.reg hr0 (by simp [-loadA,-builtinA,-storeA,lb2,ld2,hap3,hst4]; rfl) ?_
     refine E.reg hr0 (by simp [hwi]; rfl) ?_
     have hk2:∀ m,m < M4 → m ≠ N + 1 → (i ≠ 0 → m ≠ o2) → hget Hz2 m=hget Hz m:=fun m h1 h2 h3=>by
       rw [hkeep3 m (by omega) h2 (fun h=>h3 fun e=>h (hu2.2 e)),klow m h1]
     have ho2:i ≠ 0 → o2 < M:=fun h0=>by
       obtain ⟨_,_,h,_⟩:=hT2.m2.out fun e=>h0 (hu2.1 e)
       exact h
     have hMA:Ab.MS true X N 144 103 145 N nmA ((alk bs).take i ++ [yT bs]) (rs1 ++ [r]) Hz2 (M4 + 1 + 1 + 1 + 1 + 1) (M + 1 + 1 + 1):=hM2.other (by omega) hM3.nm hM3.sub fun m h1 h2 h3=>by
       rcases h3 with rfl | rfl | ⟨r',hr',hm'⟩
       · exact hk2 _ h2 (by omega) fun h0=>by have:=ho2 h0; omega
       · exact hk2 _ h2 (by omega) fun h0 e=>hT2.e2 (fun e'=>h0 (hu2.1 e')) e.symm
       · rcases List.mem_append.1 hr' with hr' | hr'
         · exact hk2 m h2 (fun e=>(hT2.d2 r' hr').2 (by rw [hm',e])) fun h0 e=>(hT2.d2 r' hr').1 (fun e'=>h0 (hu2.1 e')) (by rw [hm',e])
         · rw [List.mem_singleton] at hr'
           subst hr'
           have:=hrn m hm'
           exact hk2 m h2 (by omega) fun h0=>by have:=ho2 h0; omega
     refine ⟨(i + 1,Hz2,M4 + 1 + 1 + 1 + 1 + 1,M + 1 + 1 + 1,M4 + 1 + 1 + 1 + 1,rs1 ++ [r],rs2 ++ [r2]),.keep rfl rfl rfl (by simp) (Sub.refl _),⟨by omega,?_,by dsimp only; omega,fun h=>by omega⟩,by dsimp only; omega⟩
     dsimp only
     rw [alk_take hi4,agn_take hi4]
     refine ⟨hMA,hM3,hplain3 pG.pl,fun _ _=>by omega,fun q hq=>⟨fun _ e=>?_,fun e=>?_⟩,fun q hq=>⟨fun _ e=>?_,fun e=>?_⟩,fun _=>by omega,fun _=>by omega⟩
     · have:=(nm_lt hM2 hq e).2
       omega
     · rcases List.mem_append.1 hq with hq | hq
       · exact (hT2.d2 q hq).2 e
       · rw [List.mem_singleton] at hq
         subst hq
         have:=hrn _ e
         omega
     · rcases List.mem_append.1 hq with hq | hq
       · have:=(nm_lt hT2.m2 hq e).2
         omega
       · rw [List.mem_singleton] at hq
         subst hq
         have:=hrn2 _ e
         omega
     · rcases List.mem_append.1 hq with hq | hq
       · exact (hT2.d3 q hq).2 e
       · rw [List.mem_singleton] at hq
         subst hq
         have:=hrn2 _ e
         omega
 · have hi4':i=4:=by omega
   subst hi4'
   refine E.cond (t:=false) (by simp) (fun h=>by cases h) (fun _=>?_)
   refine E.exit ?_
   have eA:(alk bs).take 4=alk bs:=rfl
   have eB:(agn bs).take 4=agn bs:=rfl
   rw [eA,eB] at hT2
   have hxs:=hT2.m1.sub
   have view:∀ {kb o:Nat} {s:ByteArray} {us:List Trc} {rs:List Value},Ab.MS true X N 144 103 145 kb s us rs Hx M o → us.length=4 → (∀ x ∈ us,x.smp.length ≤ 16) → shtV Hx (.agg ⟨[.string s,outS o 4]⟩)=some (s,us) ∧ RowS Hx M (outS o 4):=fun {kb o s us rs} h h4 hs=>by
     refine ⟨?_,⟨_,4,0,outS_ne (by decide),fun k hk=>?_⟩⟩
     · have:=h.view (G:=Hx) (fun _ _ _ _ h=>h) (by omega) fun x hx=>by have:=hs x hx; omega
       rw [h4] at this
       exact shtV_mk this
     · have hk':k < us.length:=by omega
       have hk2:k < rs.length:=by rw [← h.len]; exact hk'
       have h1:=(h.at9 (List.getElem?_eq_getElem hk') (List.getElem?_eq_getElem hk2)).1
       refine ⟨_,_,rfl,by rw [Nat.zero_add]; exact h1,?_⟩
       obtain ⟨h2,_,_⟩:=h.row k _ _ (List.getElem?_eq_getElem hk') (List.getElem?_eq_getElem hk2)
       rcases h2 with ⟨e,_⟩ | ⟨m,mk,_,g2,e,_⟩
       · rw [e]; trivial
       · rw [e]
         cases mk <;> exact g2
   have hsm:∀ x,x=yT bs ∨ x=yT (bs.map negB) → x.smp.length ≤ 16:=fun x hx=>by
     rcases hx with rfl | rfl
     · exact hl.2
     · show (bs.map negB).length ≤ 16
       rw [List.length_map]; exact hl.2
   obtain ⟨w2,x2⟩:=view hT2.m1 rfl fun x hx=>hsm x (by
     unfold alk at hx
     simp only [List.mem_cons,List.not_mem_nil,or_false,or_self] at hx
     exact .inl hx)
   obtain ⟨w3,x3⟩:=view hT2.m2 rfl fun x hx=>hsm x (by
     unfold agn at hx
     simp only [List.mem_cons,List.not_mem_nil,or_false] at hx
     rcases hx with h | h | h | h <;> simp [h])
   have hZ:Z12 T Hx M n p N (N + 1) s sl ul (outS o1 4) (outS o2 4) (.slice (some aq) bs.length cq) ts bs:=
     ⟨⟨hT2.m1.nm,hT2.pl⟩,hTX.trans hxs,hxs _ _ hR,hxs _ _ b0,hxs _ _ b1,hT2.m1.box,hT2.m2.box,shtV_mono hxs v0,shtV_mono hxs v1,w2,w3,r0.mono hxs (by omega),r1.mono hxs (by omega),x2,x3,listV_mono decR_mono hxs sm⟩
   have key:=w12z hZ h0 hW hl hg hts hsq hhf (by omega)
   refine E.lead _ ?_ key
   exact .keep rfl rfl rfl (by simp) (Sub.refl _)
end Go.Proofs.YtkongcnmkiihjaaGreatDoor
namespace Go.Ab
open Go
def hdT (h:List Int) (ts:List Trc) (i:Nat):List Trc:=ts.modify i fun x=>⟨h,x.hole,x.smp⟩
theorem hdT_len {h:List Int} {ts:List Trc} {i:Nat}:(hdT h ts i).length=ts.length:=List.length_modify ..
theorem hdT_at {h:List Int} {ts:List Trc} {i j:Nat} {x:Trc} (hx:ts[j]? = some x):(hdT h ts i)[j]? = some (if i=j then ⟨h,x.hole,x.smp⟩ else x):=by
 unfold hdT
 rw [List.getElem?_modify,hx]
 split <;> rfl
theorem putL_app {a b vs:List Value} {k:Nat}:putL (a ++ b) (a.length + k) vs=a ++ putL b k vs:=by
 unfold putL
 rw [List.take_length_add_append,List.append_assoc,List.append_assoc,Nat.add_assoc,List.drop_append,List.append_assoc,List.drop_of_length_le (by omega:a.length ≤ a.length + (k + vs.length)),List.nil_append,Nat.add_sub_cancel_left]
theorem tcs_head {h:List Int} (h8:h.length=8):∀ {ts:List Trc} {rs:List Value} {i:Nat},i < ts.length → ts.length=rs.length → (∀ x ∈ ts,x.hd.length=8) → putL (tcs ts rs) (i * 10) (h.map iv)=tcs (hdT h ts i) rs
 | [],_,_,hi,_,_=>by simp at hi
 | x :: ts,[],_,_,hl,_=>by simp at hl
 | x :: ts,r :: rs,0,_,_,hx=>by
   have h1:=hx x (List.mem_cons_self ..)
   show putL (tc x r ++ tcs ts rs) (0 * 10) (h.map iv)=tc ⟨h,x.hole,x.smp⟩ r ++ tcs ts rs
   unfold putL tc
   rw [Nat.zero_mul,List.take_zero,List.nil_append,Nat.zero_add,List.length_map,h8,List.append_assoc,List.append_assoc]
   congr 1
   rw [List.drop_left' (by rw [List.length_map,h1])]
 | x :: ts,r :: rs,i + 1,hi,hl,hx=>by
   have h1:=tc_len (x:=x) (r:=r) (hx x (List.mem_cons_self ..))
   have ih:=tcs_head h8 (ts:=ts) (rs:=rs) (i:=i) (by simpa using hi) (by simpa using hl) fun y hy=>hx y (List.mem_cons_of_mem _ hy)
   show putL (tc x r ++ tcs ts rs) ((i + 1) * 10) (h.map iv)=tc x r ++ tcs (hdT h ts i) rs
   rw [← ih,show (i + 1) * 10=(tc x r).length + i * 10 by rw [h1]; omega,putL_app]
section
variable {F:Bool} {L Hx:Heap} {n t tb tf kb N o:Nat} {s:ByteArray} {ts:List Trc} {rs:List Value}
theorem MS.head (hL : ∀ k b, hget L k = some b → k < n) (h : MS F L n t tb tf kb s ts rs Hx N o) {hd : List Int} (h8 : hd.length = 8) {i : Nat} (hi : i < ts.length) :
   ∃ Hz,storeA Hx o (i * 10) (hd.map iv)=some Hz ∧ MS F L n t tb tf kb s (hdT hd ts i) rs Hz N o ∧ (∀ j,j ≠ o → hget Hz j=hget Hx j) ∧ (plainH Hx=true → plainH Hz=true):=by
 have hne:ts ≠ []:=fun e=>by rw [e] at hi; cases hi
 have hne2:hdT hd ts i ≠ []:=fun e=>hne (List.length_eq_zero_iff.1 (by rw [← hdT_len (h:=hd) (i:=i),e]; rfl))
 obtain ⟨ho,hno,hoN,hok⟩:=h.out hne
 have hlen:=tcs_len h.len h.h8
 have hfit:i * 10 + (hd.map iv).length ≤ (tcs ts rs).length:=by rw [List.length_map,h8,hlen]; omega
 have hput:=tcs_head h8 hi h.len h.h8
 have hst:storeA Hx o (i * 10) (hd.map iv)=some (hset Hx o (outrB F t (tcs (hdT hd ts i) rs))):=by
   unfold storeA
   rw [ho]
   cases F with
   | true=>
     show (if _ then some (hset Hx o (.ext (putL (tcs ts rs) (i * 10) (hd.map iv)) t 10)) else none)=_
     rw [if_pos hfit,hput]
     rfl
   | false=>
     show (if _ then some (hset Hx o (.cells (putL (tcs ts rs) (i * 10) (hd.map iv)) t)) else none)=_
     rw [if_pos hfit,hput]
     rfl
 have hz:∀ j,j ≠ o → hget (hset Hx o (outrB F t (tcs (hdT hd ts i) rs))) j=hget Hx j:=fun j hj=>by rw [hget_hset,if_neg fun e=>hj e.symm]
 refine ⟨_,hst,?_,hz,fun hp=>plain_hset outrB_pl hp⟩
 refine ⟨fun j b hj=>?_,namesOk_hset h.nm,h.big,by rw [hdT_len]; exact h.len,fun y hy=>?_,fun _=>⟨?_,hno,hoN,hok⟩,?_,h.kbn,fun j y q hy hq=>?_,h.sep⟩
 · have:=hL j b hj
   rw [hz j (by omega)]
   exact h.sub j b hj
 · obtain ⟨j,hj,rfl⟩:=List.getElem_of_mem hy
   rw [hdT_len] at hj
   have:=hdT_at (h:=hd) (i:=i) (List.getElem?_eq_getElem hj)
   rw [List.getElem?_eq_getElem (by rw [hdT_len]; exact hj)] at this
   injection this with this
   rw [this]
   split
   · exact h8
   · exact h.h8 _ (List.getElem_mem hj)
 · rw [hget_hset,if_pos rfl,ho]; rfl
 · rw [hdT_len,hz kb fun e=>hok e.symm]; exact h.box
 · have hjl:j < ts.length:=by
     have:=(List.getElem?_eq_some_iff.1 hy).1
     rw [hdT_len] at this
     exact this
   rw [hdT_at (List.getElem?_eq_getElem hjl)] at hy
   injection hy with hy
   obtain ⟨g1,g2,g3⟩:=h.row j _ q (List.getElem?_eq_getElem hjl) hq
   have hy':y.smp=ts[j].smp:=by
     subst hy
     split <;> rfl
   rw [hy']
   exact ⟨g1.keep (Nat.le_refl _) fun m hm _ _=>hz m fun e=>g3 hne (by rw [hm,e]),g2,fun _=>g3 hne⟩
end
end Go.Ab
namespace Go.Proofs.YtkongcnmkiihjaaGreatDoor
open Go Go.Ab Go.Proofs
theorem build144h {fr:Fr} {H:Heap} {n:Nat}:opBuild Tryz.prog 144 #[(1,.const (.bool true))] fr H n=some (.agg ⟨[iv 0,iv 0,iv 0,iv 0,iv 0,iv 0,iv 0,iv 0,.bool true,.slice none 0 0]⟩,H,n):=by kernel_rfl
theorem build103s {fr:Fr} {H:Heap} {n:Nat} {x y:Operand} {s:ByteArray} {o:Option Addr} {l c:Nat} (hx:evO Tryz.prog fr x=some (.string s)) (hy:evO Tryz.prog fr y=some (.slice o l c)):opBuild Tryz.prog 103 #[(0,x),(1,y)] fr H n=some (.agg ⟨[.string s,.slice o l c]⟩,H,n):=by
 unfold opBuild
 simp only [evPs_cons,evPs_nil,hx,hy]
 kernel_rfl
theorem call82l {X : Heap} {N : Nat} {s : ByteArray} {l : Value} {ts : List Trc} (hv : shtV X (.agg ⟨[.string s, l]⟩) = some (s, ts)) (hm : PM N X) (hsm : ∀ x ∈ ts, x.smp.length ≤ 1048576) (hne : ts ≠ []) :
   ∃ o rs B n',gEx Tryz.prog 82 (Q82 s ts) [.agg ⟨[.string s,l]⟩] (frzH X) N=some (.agg ⟨[.string s,outS o ts.length]⟩,B ++ frzH X,n') ∧ takeNew N (B ++ frzH X)=B ∧ namesOk n' B=true ∧ PM n' (B ++ X) ∧ Sub X (B ++ X) ∧ N ≤ n' ∧ N ≤ o ∧ o < n' ∧ rs.length=ts.length ∧ hget (B ++ X) o=some (.ext (tcs ts rs) 144 10) ∧ ∀ (i:Nat) x r,ts[i]? = some x → rs[i]? = some r → RowOk 145 (B ++ X) N n' r x.smp:=by
 have hfn:∀ k b,hget (frzH X) k=some b → k < N:=fun k b hk=>by
   rw [hget_frz,Option.map_eq_some_iff] at hk
   obtain ⟨b',hk,_⟩:=hk
   exact hm.lt _ _ hk
 obtain ⟨u,H',n',h1,h2,kb,rs,o,rfl,hM⟩:=gEx_at (Q:=Q82 s ts) (w82M (H:=frzH X) (n:=N) (by rw [shtV_frz]; exact hv) hfn hsm hne)
 obtain ⟨B,rfl,g1,g2,g3,g4,g5,g6⟩:=MadeS.late hm h2
 have same:∀ m,N ≤ m → hget (B ++ X) m=hget (B ++ frzH X) m:=fun m hmN=>by
   rw [hget_app,hget_app]
   cases hget B m with
   | some b=>rfl
   | none=>
     rw [hm.new m hmN]
     cases hc:hget (frzH X) m with
     | none=>rfl
     | some b=>have:=hfn _ _ hc; omega
 obtain ⟨e1,e2,e3,_⟩:=hM.out hne
 refine ⟨o,rs,B,n',h1,g1,g2,g3,g4,g5,e2,e3,hM.len.symm,by rw [same o e2]; exact e1,fun i x r hx hr=>?_⟩
 exact (hM.row i x r hx hr).1.keep (Nat.le_refl _) fun m _ hm1 _=>same m hm1
theorem RowOk.slice {tf n N:Nat} {H:Heap} {r:Value} {bs:List Nat} (h:RowOk tf H n N r bs):∃ o l c,r = .slice o l c:=by
 rcases h with ⟨rfl,_⟩ | ⟨m,mk,_,_,rfl,_⟩
 · exact ⟨_,_,_,rfl⟩
 · cases mk
   · exact ⟨_,_,_,rfl⟩
   · exact ⟨_,_,_,rfl⟩
abbrev fr12x (n p:Nat) (sv:Value) (sq hf:Int) (W L i:Nat):Fr:=[(3,ptA n),(7,iv sq),(8,iv hf),(9,iv W),(14,ptA p),(15,sv),(108,iv L),(109,iv i)]
set_option maxHeartbeats 12800000 in
set_option maxRecDepth 100000 in
theorem w12x {T X : Heap} {N n W : Nat} {s : ByteArray} {sl : Value} {ts : List Trc} {sq hf : Int} (hp : PM N X) (hTX : Sub T X) (hR : dR X) (b0 : hget X n = some (.cells [.string s, sl] 103)) (v0 : shtV X (.agg ⟨[.string s, sl]⟩) = some (s, ts)) (r0 : RowS X N sl) (h0 : shtE s ts = 0) (hW : (widF ts).1 = W) (hl : 1 ≤ W ∧ W ≤ 16) (hts : ts.length ≤ 5) (hsq : 1 ≤ sq ∧ sq ≤ 65536) (hhf : 0 ≤ hf ∧ hf ≤ 3) (h9 : 9 ≤ N) :
   E Tryz.prog n none (cFrom (bodyOf Tryz.f12) 8) { fr:=[(3,ptA n),(7,iv sq),(8,iv hf),(9,iv W)],sz:=319,H:=X,n:=N,marks:=[],vs:=vs12 } (pureK Tryz.prog Tryz.f12 T (.bool true)):=by
 have hr0:=recT_ok (P:=Tryz.prog) (l:=[]) (by simp)
 have hr:=recT_ok (P:=Tryz.prog) (l:=[(82,gEx Tryz.prog 82 (Q82 s ts))]) (by simp only [List.forall_mem_cons]; exact ⟨gEx_ok,by simp⟩)
 have hXlt:=hp.lt
 have hok:=shtE_ok h0
 have hlen:=hok.len
 have hne:ts ≠ []:=fun e=>by rw [e] at hlen; exact absurd hlen.1 (by decide)
 have hsm:∀ x ∈ ts,x.smp.length ≤ 1048576:=fun x hx=>by
   have:=(trcE_ok (hok.err x hx)).2.2.1
   omega
 obtain ⟨u,e',ht⟩:=shtV_form v0
 obtain rfl:sl=u:=by
   injection e' with e; injection e with e; injection e with _ e; injection e
 clear e'
 obtain ⟨oa,c,rfl,hl31,_,htrow⟩:=trcV_form ht
 have bh:=@build144h
 have c0:cellA X n 0=some (.string s):=by rw [cellA_eq,b0]; rfl
 have l9:loadA Tryz.prog 9 X (.pointer (some ⟨n,0,none⟩))=some (.string s):=by simp [-cellA,c0]
 have bs1:=fun (fr:Fr) (H:Heap) (m:Nat) (h1:evO Tryz.prog fr (.tmp 102)=some (.string s)) (h2:evO Tryz.prog fr (.tmp 104)=some (.slice (some ⟨N,0,none⟩) 1 1))=>build103s (fr:=fr) (H:=H) (n:=m) h1 h2
 have st1:storeA ((N + 1,.cells [.string ⟨#[]⟩,.slice none 0 0] 103) :: (N,.cells [iv 0,iv 0,iv 0,iv 0,iv 0,iv 0,iv 0,iv 0,.bool true,.slice none 0 0] 144) :: X) (N + 1) 0 [.string s,.slice (some ⟨N,0,none⟩) 1 1]=some ((N + 1,.cells [.string s,.slice (some ⟨N,0,none⟩) 1 1] 103) :: (N,.cells [iv 0,iv 0,iv 0,iv 0,iv 0,iv 0,iv 0,iv 0,.bool true,.slice none 0 0] 144) :: X):=store_new rfl
 refine E.seq (E.reg hr0 (by simp [-loadA,-storeA,l9,bh,bs1,st1]; rfl) ?_)
 obtain ⟨Y,hY⟩:∃ Z,(N + 1,Blk.cells [.string s,.slice (some ⟨N,0,none⟩) 1 1] 103) :: (N,.cells [iv 0,iv 0,iv 0,iv 0,iv 0,iv 0,iv 0,iv 0,.bool true,.slice none 0 0] 144) :: X=Z:=⟨_,rfl⟩
 have p1:PM (N + 1) ((N,Blk.cells [iv 0,iv 0,iv 0,iv 0,iv 0,iv 0,iv 0,iv 0,.bool true,.slice none 0 0] 144) :: X):=hp.put rfl
 have pY:PM (N + 2) Y:=by rw [← hY]; exact p1.put rfl
 have sY:Sub X Y:=by rw [← hY]; exact hp.sub.trans p1.sub
 have hM0:Ab.MS false X N 144 103 145 (N + 1) s [holT] [.slice none 0 0] Y (N + 2) N:=by
   refine ⟨sY,pY.nm,by omega,rfl,fun x hx=>?_,fun _=>⟨?_,Nat.le_refl _,by omega,by omega⟩,?_,by omega,fun i x r hx hr=>?_,fun i j r q hij hr hq=>?_⟩
   · rw [List.mem_singleton] at hx; subst hx; rfl
   · rw [← hY,hget_cons,if_neg (by omega),hget_cons,if_pos rfl]; rfl
   · rw [← hY,hget_cons,if_pos rfl]; rfl
   · cases i with
     | zero=>
       simp at hx hr
       subst hx hr
       exact ⟨.inl ⟨rfl,rfl⟩,(by intro h; cases h),fun _ h=>by cases h⟩
     | succ i=>simp at hx
   · cases i with
     | zero=>
       cases j with
       | zero=>exact absurd rfl hij
       | succ j=>simp at hq
     | succ i=>simp at hr
 rw [hY]
 refine E.seq (E.reg hr0 (by simp; rfl) ?_)
 have c1:cellA Y n 1=some (.slice oa ts.length c):=by rw [cellA_eq,sY _ _ b0]; rfl
 refine E.seq (E.seq (E.reg hr0 (by simp [-cellA,c1]; rfl) ?_))
 refine E.block (E.loop ?_)
 refine EL.ind (fun x:Nat × Heap × Nat × Nat × List Value × Value=>{ fr:=fr12x n (N + 1) x.2.2.2.2.2 sq hf W ts.length x.1,sz:=319,H:=x.2.1,n:=x.2.2.1,marks:=[],vs:=vs12 }) (fun x=>ts.length - x.1) (fun x=>x.1 ≤ ts.length ∧ Ab.MS (decide (x.1 ≠ 0)) X N 144 103 145 (N + 1) s (holT :: ts.reverse.take x.1) x.2.2.2.2.1 x.2.1 x.2.2.1 x.2.2.2.1 ∧ plainH x.2.1=true ∧ N + 2 ≤ x.2.2.1 ∧ ((∀ k (h:k < ts.length),k < x.1 → ts[k].hole=true) ∨ ∃ y ∈ ts,y.hole=false ∧ reaV X x.2.2.2.2.2=some y.smp)) (0,Y,N + 2,N,[.slice none 0 0],.slice none 0 0) (.keep rfl rfl rfl (by simp) (Sub.refl _)) ⟨Nat.zero_le _,hM0,pY.pl,Nat.le_refl _,.inl fun k h h1=>by omega⟩ (fun _=>rfl) ?_
 rintro ⟨i,Hx,M,o,rs,sv⟩ ⟨hi,hM,hpl,hNM,hsv⟩
 dsimp only at hi hM hpl hNM hsv ⊢
 have hwi:IntKind.i64.wrap ((i:Int) + 1)=(i:Int) + 1:=W_in (by omega) (by omega)
 have hxs:=hM.sub
 have hxs':Sub X Hx:=hxs
 refine E.seq (E.reg hr0 (by simp; rfl) ?_)
 refine E.seq ?_
 by_cases hil:i < ts.length
 · refine E.cond (t:=true) (by simp; omega) (fun _=>?_) (fun h=>by cases h)
   refine E.skip (E.seq ?_)
   refine E.block (E.seq (E.reg hr0 (by simp; rfl) ?_))
   have pmx:PM M Hx:=⟨hM.nm,hpl⟩
   obtain ⟨o',rs',B,n',d1,d2,d3,d4,d5,d6,d7,d8,d9,d10,d11⟩:=call82l (shtV_mono hxs v0) pmx hsm hne
   obtain ⟨k,hk⟩:∃ k,ts.length - 1 - i=k:=⟨_,rfl⟩
   have hkl:k < ts.length:=by omega
   have hkr:k < rs'.length:=by omega
   have hkI:(ts.length:Int) - 1 - i=k:=by omega
   have hrev:ts.reverse[i]'(by rw [List.length_reverse]; exact hil)=ts[k]:=by
     rw [List.getElem_reverse]
     congr 1
   have htk:holT :: ts.reverse.take (i + 1)=(holT :: ts.reverse.take i) ++ [ts[k]]:=by
     rw [List.take_succ_eq_append_getElem (by rw [List.length_reverse]; exact hil),hrev]; rfl
   have htl:(holT :: ts.reverse.take i).length=i + 1:=by rw [List.length_cons,List.length_take,List.length_reverse]; omega
   have hrowk:=d11 k _ _ (List.getElem?_eq_getElem hkl) (List.getElem?_eq_getElem hkr)
   obtain ⟨r',hr'⟩:∃ r,rs'[k]=r:=⟨_,rfl⟩
   rw [hr'] at hrowk
   obtain ⟨oq,lq,cq,hrs⟩:=RowOk.slice hrowk
   have h8:∀ x ∈ ts,x.hd.length=8:=fun x hx=>by
     obtain ⟨j,hj,rfl⟩:=List.getElem_of_mem hx
     obtain ⟨_,_,_,_,_,g,_⟩:=htrow j hj
     exact g
   have hck:cellsA (B ++ Hx) o' (k * 10) 10=some (tc ts[k] r'):=by
     rw [cellsA_eq,d10]
     simp only [Option.bind_some,cellsB]
     rw [if_pos (by rw [tcs_len d9.symm h8]; omega),tcs_at k (List.getElem?_eq_getElem hkl) (by rw [List.getElem?_eq_getElem hkr,hr']) h8]
   obtain ⟨x,hx⟩:∃ x,ts[k]=x:=⟨_,rfl⟩
   have hx8:x.hd.length=8:=by rw [← hx]; exact h8 _ (List.getElem_mem hkl)
   rw [hx] at hck hrowk htk
   obtain ⟨a0,a1,a2,a3,a4,a5,a6,a7,hhd⟩:=len8 hx8
   obtain ⟨ho,hho⟩:∃ ho,x.hole=ho:=⟨_,rfl⟩
   have htc:tc x r'=[iv a0,iv a1,iv a2,iv a3,iv a4,iv a5,iv a6,iv a7,.bool ho,.slice oq lq cq]:=by rw [tc,hhd,hho,hrs]; rfl
   have hMw:=hM.wide d5 d4.nm d6
   have hrn:∀ m,nmO r'=some m → M ≤ m:=fun m h=>(hrowk.lt h).1
   have hrow2:RowOk 145 (B ++ Hx) N n' r' x.smp:=hrowk.low (by omega)
   have hon:=hM.out (by simp)
   have key:∃ Hw Hz,builtinA Tryz.prog .append #[101,101] ((n',.cells (tc x r') 144) :: (B ++ Hx)) (n' + 1) [outrV (decide (i ≠ 0)) o (i + 1),.slice (some ⟨n',0,none⟩) 1 1]=some (outS (n' + 1) (i + 1 + 1),Hw,n' + 1 + 1) ∧ storeA Hw (N + 1) 1 [outS (n' + 1) (i + 1 + 1)]=some Hz ∧ Ab.MS true X N 144 103 145 (N + 1) s ((holT :: ts.reverse.take i) ++ [x]) (rs ++ [r']) Hz (n' + 1 + 1) (n' + 1) ∧ (plainH (B ++ Hx)=true → plainH Hz=true):=by
     have hdis:∀ q ∈ rs,nmO r'=none ∨ nmO r' ≠ nmO q:=fun q hq=>by
       cases hm:nmO r' with
       | none=>exact .inl rfl
       | some m=>
         refine .inr fun e=>?_
         have:=(nm_lt hM hq e.symm).2
         have:=hrn m hm
         omega
     by_cases hi0:i=0
     · subst hi0
       obtain ⟨Hw,Hz,q1,q2,q3,_,q5⟩:=MS.appC (P:=Tryz.prog) (st:=101) (i:=Tryz.t144) hXlt Tryz.underlying101 inf144 sz144i zo144 by144 hMw (by simp) (by rw [htl]; omega) (x:=x) hx8 hrow2 (fun e=>by have:=hrn _ e; omega) (fun _ e=>by have:=hrn _ e; omega) hdis
       exact ⟨Hw,Hz,q1,q2,q3,q5⟩
     · have hd:decide (i ≠ 0)=true:=decide_eq_true hi0
       rw [hd] at hMw ⊢
       obtain ⟨Hw,Hz,q1,q2,q3,_,q5⟩:=MS.app2 (P:=Tryz.prog) (st:=101) (i:=Tryz.t144) hXlt Tryz.underlying101 inf144 sz144i zo144 by144 hMw (by rw [htl]; omega) (x:=x) hx8 hrow2 (fun e=>by have:=hrn _ e; omega) (fun _ e=>by have:=hrn _ e; omega) hdis
       rw [htl] at q1 q2
       exact ⟨Hw,Hz,q1,q2,q3,q5⟩
   obtain ⟨Hw,Hz,hap,hst,hMz,hplz⟩:=key
   have hHzp:=hplz d4.pl
   have hbox:=hM.box
   rw [htl] at hbox
   obtain ⟨bv,hbv⟩:∃ v,outrV (decide (i ≠ 0)) o (i + 1)=v:=⟨_,rfl⟩
   rw [hbv] at hap hbox
   rw [htc] at hap hck
   rw [outS_ne (Nat.succ_ne_zero _)] at hap hst
   have hHzn:=hMz.nm
   obtain ⟨xx,hxx⟩:=storeA_form hst
   have hHwn:namesOk (n' + 1 + 1) Hw=true:=by rw [← nm_hset (k:=N + 1) (c:=xx),← hxx]; exact hHzn
   have eb:cellA (B ++ Hx) (N + 1) 1=some bv:=by rw [cellA_eq,d5 _ _ hbox]; rfl
   have eb':cellA Hx (N + 1) 1=some bv:=by rw [cellA_eq,hbox]; rfl
   have ec:cellsA Hx n 0 2=some [.string s,.slice oa ts.length c]:=by rw [cellsA_eq,hxs _ _ b0]; rfl
   have ec1:cellA (B ++ Hx) n 1=some (.slice oa ts.length c):=by rw [cellA_eq,d5 _ _ (hxs _ _ b0)]; rfl
   have hn1:n < M:=by have:=hXlt _ _ b0; omega
   have hn2:N + 1 < M:=by omega
   have hMn:=pmx.nm
   have hBn:=d4.nm
   have hBp:=d4.pl
   have hBn1:namesOk (n' + 1) (B ++ Hx)=true:=namesOk_mono (by omega) _ hBn
   have hw1:IntKind.i64.wrap ((ts.length:Int) - 1)=(ts.length:Int) - 1:=W_in (by omega) (by omega)
   have hw2:IntKind.i64.wrap ((ts.length:Int) - 1 - i)=(k:Int):=by rw [hkI]; exact W_in (by omega) (by omega)
   have hk0:(0:Int) ≤ k:=by omega
   have hkL:(k:Int) < ts.length:=by omega
   have hoL:outS o' ts.length = .slice (some ⟨o',0,some 0⟩) ts.length 0:=outS_ne (by omega)
   rw [hoL] at d1
   have hfo:flat ⟨o',0,some 0⟩=true:=rfl
   have hbl:∀ m,builtinA Tryz.prog .len #[101] [] m [.slice oa ts.length c]=some (iv ts.length,[],m):=fun _=>by simp
   refine E.seq (E.drawU mixed hr [14,16] [3,13,14,16] [1,2,3,12,13,14,16] (by kernel_rfl) (by simp [-cellA,-cellsA,-readA,-builtinA,-storeA,-flat,cellA_read,cellsA_read,handA_nn,hMn,hpl,d1,d2,d3,d6,d8,eb',ec,ec1,hn1,hn2,hw1,hw2,hk0,hkL,hfo,hck,hap,hst,hHwn,hHzn,partA,hbl]; rfl) ?_)
   have hzs:Sub X Hz:=hMz.sub
   refine E.lead { fr:=[(3,ptA n),(7,iv sq),(8,iv hf),(9,iv W),(14,ptA (N + 1)),(15,sv),(16,iv i),(108,iv ts.length),(109,iv i)],sz:=319,H:=Hz,n:=n' + 1 + 1,marks:=[],vs:=vs12 } (.keep rfl rfl rfl (by simp) (Sub.refl _)) ?_
   obtain ⟨ad,q,hoa,hf,hcs,h8i,hq⟩:=htrow i hil
   obtain ⟨e8,e9,_⟩:=trc_cells (hzs.cells hcs) h8i
   have e1:cellA Hz n 1=some (.slice (some ad) ts.length c):=by rw [cellA_eq,hzs _ _ b0,← hoa]; rfl
   have hMn':Ab.MS (decide (i + 1 ≠ 0)) X N 144 103 145 (N + 1) s (holT :: ts.reverse.take (i + 1)) (rs ++ [r']) Hz (n' + 1 + 1) (n' + 1):=by
     rw [htk,show decide (i + 1 ≠ 0)=true from decide_eq_true (by omega)]
     exact hMz
   refine E.seq (E.reg hr0 (by simp [-cellA,-flat,e1,hil,hf,e8]; rfl) ?_)
   cases hh:ts[i].hole with
   | false=>
     refine E.cond (t:=true) (by simp) (fun _=>?_) (fun h=>by cases h)
     refine E.reg hr0 (by simp [-cellA,-flat,e1,hil,hf,e9]; rfl) ?_
     refine E.reg hr0 (by simp [hwi]; rfl) ?_
     exact ⟨(i + 1,Hz,n' + 1 + 1,n' + 1,rs ++ [r'],q),.keep rfl rfl rfl (by simp) (Sub.refl _),⟨hil,hMn',hHzp,by dsimp only; omega,.inr ⟨ts[i],List.getElem_mem hil,hh,hq⟩⟩,by dsimp only; omega⟩
   | true=>
     refine E.cond (t:=false) (by simp) (fun h=>by cases h) (fun _=>?_)
     refine E.skip (E.reg hr0 (by simp [hwi]; rfl) ?_)
     refine ⟨(i + 1,Hz,n' + 1 + 1,n' + 1,rs ++ [r'],sv),.keep rfl rfl rfl (by simp) (Sub.refl _),⟨hil,hMn',hHzp,by dsimp only; omega,?_⟩,by dsimp only; omega⟩
     rcases hsv with h | h
     · refine .inl fun j hj hji=>?_
       by_cases e:j=i
       · subst e; exact hh
       · exact h j hj (by omega)
     · exact .inr h
 · have hi':i=ts.length:=by omega
   subst hi'
   refine E.cond (t:=false) (by simp) (fun h=>by cases h) (fun _=>?_)
   refine E.exit ?_
   have hd:decide (ts.length ≠ 0)=true:=decide_eq_true (by omega)
   have etk:holT :: ts.reverse.take ts.length=trn ts:=by
     unfold trn
     rw [List.take_of_length_le (by rw [List.length_reverse]; exact Nat.le_refl _)]
   rw [hd,etk] at hM
   obtain ⟨y,hy,hyh,hyv⟩:∃ y ∈ ts,y.hole=false ∧ reaV X sv=some y.smp:=by
     rcases hsv with h | h
     · obtain ⟨y,hy,hyh⟩:=wid_some (ts:=ts) (by omega)
       obtain ⟨j,hj,rfl⟩:=List.getElem_of_mem hy
       rw [h j hj hj] at hyh
       cases hyh
     · exact h
   have hyl:(y.smp.length:Int)=W:=by rw [hok.wid y hy hyh,hW]
   have hWy:W=y.smp.length:=by omega
   subst hWy
   have hlt:(trn ts).length=ts.length + 1:=by unfold trn; rw [List.length_cons,List.length_reverse]
   have hbox:=hM.box
   rw [hlt] at hbox
   have hvw:shtV Hx (.agg ⟨[.string s,outS o (ts.length + 1)]⟩)=some (s,trn ts):=by
     have:=hM.view (G:=Hx) (fun _ _ _ _ h=>h) (by omega) fun x hx=>by
       rcases trn_mem hx with rfl | hx
       · exact Nat.lt_of_lt_of_le (show 0 < 1 by decide) (by decide)
       · have:=hsm x hx; omega
     rw [hlt] at this
     exact shtV_mk this
   have hrw:RowS Hx M (outS o (ts.length + 1)):=by
     refine ⟨_,ts.length + 1,0,outS_ne (by omega),fun k hk=>?_⟩
     have hk':k < (trn ts).length:=by omega
     have hk2:k < rs.length:=by rw [← hM.len]; exact hk'
     have h1:=(hM.at9 (List.getElem?_eq_getElem hk') (List.getElem?_eq_getElem hk2)).1
     refine ⟨_,_,rfl,by rw [Nat.zero_add]; exact h1,?_⟩
     obtain ⟨h2,_,_⟩:=hM.row k _ _ (List.getElem?_eq_getElem hk') (List.getElem?_eq_getElem hk2)
     rcases h2 with ⟨e,_⟩ | ⟨m,mk,_,g2,e,_⟩
     · rw [e]; trivial
     · rw [e]
       cases mk <;> exact g2
   have key:=w12y (n:=n) (p:=N + 1) (sv:=sv) (sq:=sq) (hf:=hf) (bs:=y.smp) ⟨hM.nm,hpl⟩ (hTX.trans hxs') (hxs' _ _ hR) (hxs' _ _ b0) hbox (shtV_mono hxs' v0) hvw (r0.mono hxs' (by omega)) hrw (listV_mono decR_mono hxs' hyv) h0 hW hl (hok.good y hy) (by omega) hsq hhf (by omega)
   refine E.lead _ ?_ key
   exact .keep rfl rfl rfl (by simp) (Sub.refl _)
def Q57f (_:List Value) (H:Heap) (n:Nat) (v:Value) (H':Heap) (n':Nat):Prop:=v = .bool false ∧ H'=H ∧ n'=n
def hdP (j:Nat) (ts:List Trc):List Trc:=(ts.take j).map zT ++ ts.drop j
theorem hdP_zero {ts:List Trc}:hdP 0 ts=ts:=by unfold hdP; simp
theorem hdP_all {ts:List Trc}:hdP ts.length ts=ts.map zT:=by unfold hdP; simp
theorem hdP_len {j:Nat} {ts:List Trc}:(hdP j ts).length=ts.length:=by
 unfold hdP
 rw [List.length_append,List.length_map,List.length_take,List.length_drop]; omega
theorem mod_mid {α:Type} {f:α → α} {x:α} {B:List α}:∀ A:List α,(A ++ x :: B).modify A.length f=A ++ f x :: B
 | []=>rfl
 | a :: A=>by
   rw [List.cons_append,List.length_cons,List.modify_succ_cons,mod_mid A]
   rfl
theorem hdP_succ {j:Nat} {ts:List Trc} (h:j < ts.length):hdT z8 (hdP j ts) j=hdP (j + 1) ts:=by
 unfold hdT hdP
 have hlen:((ts.take j).map zT).length=j:=by rw [List.length_map,List.length_take]; omega
 have:=mod_mid (f:=fun x=>Trc.mk z8 x.hole x.smp) (x:=ts[j]) (B:=ts.drop (j + 1)) ((ts.take j).map zT)
 rw [hlen] at this
 rw [List.drop_eq_getElem_cons h,this,List.take_succ_eq_append_getElem h,List.map_append,List.append_assoc]
 rfl
theorem build142z {fr:Fr} {H:Heap} {n:Nat}:opBuild Tryz.prog 142 #[] fr H n=some (.agg ⟨[iv 0,iv 0,iv 0,iv 0,iv 0,iv 0,iv 0,iv 0]⟩,H,n):=by kernel_rfl
abbrev fr12w (n p:Nat) (sq hf:Int) (W L i:Nat):Fr:=[(3,ptA n),(7,iv sq),(8,iv hf),(9,iv W),(10,ptA p),(74,iv L),(75,iv i)]
set_option maxHeartbeats 12800000 in
set_option maxRecDepth 100000 in
theorem w12w {T X : Heap} {N n W : Nat} {s : ByteArray} {sl : Value} {ts : List Trc} {sq hf : Int} (hp : PM N X) (hTX : Sub T X) (hR : dR X) (b0 : hget X n = some (.cells [.string s, sl] 103)) (v0 : shtV X (.agg ⟨[.string s, sl]⟩) = some (s, ts)) (r0 : RowS X N sl) (h0 : shtE s ts = 0) (hW : (widF ts).1 = W) (hl : 1 ≤ W ∧ W ≤ 16) (hts : ts.length ≤ 5) (hsq : 1 ≤ sq ∧ sq ≤ 65536) (hhf : 0 ≤ hf ∧ hf ≤ 3) (h9 : 9 ≤ N) :
   E Tryz.prog n none (cFrom (bodyOf Tryz.f12) 4) { fr:=[(3,ptA n),(7,iv sq),(8,iv hf),(9,iv W)],sz:=319,H:=X,n:=N,marks:=[],vs:=vs12 } (pureK Tryz.prog Tryz.f12 T (.bool true)):=by
 have hr0:=recT_ok (P:=Tryz.prog) (l:=[]) (by simp)
 have hXlt:=hp.lt
 have hok:=shtE_ok h0
 have hlen:=hok.len
 have hne:ts ≠ []:=fun e=>by rw [e] at hlen; exact absurd hlen.1 (by decide)
 have smO:∀ {us:List Trc},OkS us → ∀ x ∈ us,x.smp.length ≤ 1048576:=fun {us} ho x hx=>by
   have:=(trcE_ok (ho.err x hx)).2.2.1
   omega
 have hXt:Sub X (tidy N X):=fun k b hk=>hget_tidy.2 ⟨hk,hXlt _ _ hk,hp.plain _ _ hk⟩
 have hLlt:∀ k b,hget (tidy N X) k=some b → k < N:=fun k b hk=>tidy_lt _ _ hk
 obtain ⟨u6,H6,n6,d1,d2,kb,rs,o,rfl,hM⟩:=gEx_at (Q:=Q82 s ts) (w82M (H:=X) (n:=N) v0 hXlt (smO hok) hne)
 obtain ⟨p6,s6,m6,v6⟩:=MadeS.alone hp d2
 have hld:=load103 b0
 obtain ⟨L,hL⟩:∃ L,ts.length=L:=⟨_,rfl⟩
 have hL0:L ≠ 0:=by omega
 have e6:(outrV true o ts.length) = .slice (some ⟨o,0,some 0⟩) L 0:=by rw [hL]; exact outS_ne hL0
 rw [e6] at d1
 have st6:storeA ((n6,.cells [.string ⟨#[]⟩,.slice none 0 0] 103) :: H6) n6 0 [.string s,.slice (some ⟨o,0,some 0⟩) L 0]=some ((n6,.cells [.string s,.slice (some ⟨o,0,some 0⟩) L 0] 103) :: H6):=store_new rfl
 have hr6:=recT_ok (P:=Tryz.prog) (l:=[(82,gEx Tryz.prog 82 (Q82 s ts))]) (by simp only [List.forall_mem_cons]; exact ⟨gEx_ok,by simp⟩)
 refine E.seq (E.reg hr6 (by simp [-loadA,-storeA,hld,d1,st6]; rfl) ?_)
 obtain ⟨Y,hY⟩:∃ Z,(n6,Blk.cells [.string s,.slice (some ⟨o,0,some 0⟩) L 0] 103) :: H6=Z:=⟨_,rfl⟩
 have pY:PM (n6 + 1) Y:=by rw [← hY]; exact p6.put rfl
 have sY:Sub H6 Y:=by rw [← hY]; exact p6.sub
 have bY:hget Y n6=some (.cells [.string s,.slice (some ⟨o,0,some 0⟩) L 0] 103):=by rw [← hY,hget_cons,if_pos rfl]
 have hMY:Ab.MS true (tidy N X) N 144 103 145 kb s ts rs Y (n6 + 1) o:=hM.wide sY pY.nm (by omega)
 have ho6:o < n6:=(hM.out hne).2.2.1
 rw [hY]
 have c1:cellA Y n6 1=some (.slice (some ⟨o,0,some 0⟩) L 0):=by rw [cellA_eq,bY]; rfl
 refine E.seq (E.seq (E.reg hr0 (by simp [-cellA,c1]; rfl) ?_))
 refine E.block (E.loop ?_)
 refine EL.ind (fun x:Nat × Heap=>{ fr:=fr12w n n6 sq hf W L x.1,sz:=319,H:=x.2,n:=n6 + 1,marks:=[],vs:=vs12 }) (fun x=>L - x.1) (fun x=>x.1 ≤ L ∧ Ab.MS true (tidy N X) N 144 103 145 kb s (hdP x.1 ts) rs x.2 (n6 + 1) o ∧ plainH x.2=true ∧ hget x.2 n6=some (.cells [.string s,.slice (some ⟨o,0,some 0⟩) L 0] 103)) (0,Y) (.keep rfl rfl rfl (by simp) (Sub.refl _)) ⟨Nat.zero_le _,by rw [hdP_zero]; exact hMY,pY.pl,bY⟩ (fun _=>rfl) ?_
 rintro ⟨j,Hx⟩ ⟨hj,hMx,hpx,hbx⟩
 dsimp only at hj hMx hpx hbx ⊢
 have hwj:IntKind.i64.wrap ((j:Int) + 1)=(j:Int) + 1:=W_in (by omega) (by omega)
 have hxs:Sub X Hx:=hXt.trans hMx.sub
 refine E.seq (E.reg hr0 (by simp; rfl) ?_)
 refine E.seq ?_
 by_cases hjl:j < L
 · refine E.cond (t:=true) (by simp; omega) (fun _=>?_) (fun h=>by cases h)
   refine E.skip (E.seq ?_)
   refine E.block (E.seq (E.reg hr0 (by simp; rfl) ?_))
   obtain ⟨Hz,g1,g2,g3,g4⟩:=hMx.head hLlt (hd:=z8) rfl (i:=j) (by rw [hdP_len]; omega)
   have g1':storeA Hx o (j * 10) [iv 0,iv 0,iv 0,iv 0,iv 0,iv 0,iv 0,iv 0]=some Hz:=g1
   have c2:cellA Hx n6 1=some (.slice (some ⟨o,0,some 0⟩) L 0):=by rw [cellA_eq,hbx]; rfl
   have hfo:flat ⟨o,0,some 0⟩=true:=rfl
   have b142:=@build142z
   refine E.reg hr0 (by simp [-cellA,-flat,-storeA,c2,hjl,hfo,b142,g1']; rfl) ?_
   refine E.reg hr0 (by simp [hwj]; rfl) ?_
   refine ⟨(j + 1,Hz),.keep rfl rfl rfl (by simp) (Sub.refl _),⟨hjl,by rw [← hdP_succ (by omega)]; exact g2,g4 hpx,by dsimp only; rw [g3 _ (by omega)]; exact hbx⟩,by dsimp only; omega⟩
 · have hj':j=L:=by omega
   subst hj'
   rw [← hL,hdP_all] at hMx
   refine E.cond (t:=false) (by simp) (fun h=>by cases h) (fun _=>?_)
   refine E.exit ?_
   obtain ⟨zs,hzs⟩:∃ zs,ts.map zT=zs:=⟨_,rfl⟩
   have hzl:zs.length=j:=by rw [← hzs,List.length_map,hL]
   have hE0:shtE s zs=0:=by rw [← hzs]; exact zL_shtE h0
   have hsame:sameG (corG zs sq 0 (widN zs) (dn (widN zs) 0)) zs:=by rw [← hzs]; exact zL_same (by rw [hzs]; exact shtE_ok hE0)
   rw [hzs] at hMx
   have hokz:=shtE_ok hE0
   have pmx:PM (n6 + 1) Hx:=⟨hMx.nm,hpx⟩
   have hzne:zs ≠ []:=fun e=>by rw [e] at hzl; exact hL0 hzl.symm
   have hout:outrV true o zs.length = .slice (some ⟨o,0,some 0⟩) j 0:=by rw [hzl]; exact outS_ne hL0
   have vz:shtV Hx (.agg ⟨[.string s,.slice (some ⟨o,0,some 0⟩) j 0]⟩)=some (s,zs):=by
     have:=hMx.view (G:=Hx) (fun _ _ _ _ h=>h) (by omega) fun x hx=>by have:=smO hokz x hx; omega
     rw [hout] at this
     exact shtV_mk this
   have rz:RowS Hx (n6 + 1) (.slice (some ⟨o,0,some 0⟩) j 0):=by
     refine ⟨_,j,0,rfl,fun k hk=>?_⟩
     have hk':k < zs.length:=by omega
     have hk2:k < rs.length:=by rw [← hMx.len]; exact hk'
     have h1:=(hMx.at9 (List.getElem?_eq_getElem hk') (List.getElem?_eq_getElem hk2)).1
     refine ⟨_,_,rfl,by rw [Nat.zero_add]; exact h1,?_⟩
     obtain ⟨h2,_,_⟩:=hMx.row k _ _ (List.getElem?_eq_getElem hk') (List.getElem?_eq_getElem hk2)
     rcases h2 with ⟨e,_⟩ | ⟨m,mk,_,g2,e,_⟩
     · rw [e]; trivial
     · rw [e]
       cases mk <;> exact g2
   obtain ⟨u1,H1,n1,q1,q2,q3,q4,q5⟩:=call59p vz pmx rz (smO hokz)
   have hcE:corE s zs sq 0=0:=first_all fun x hx=>by
     rcases List.mem_cons.1 hx with rfl | hx
     · exact hE0
     rcases List.mem_cons.1 hx with rfl | hx
     · exact within_in ⟨by omega,by omega⟩
     · rw [List.mem_singleton] at hx; subst hx; rfl
   have hcR:corR s zs sq 0=(s,corG zs sq 0 (widN zs) (dn (widN zs) 0)):=by unfold corR; rw [if_pos hcE]
   obtain ⟨cs,hcs⟩:∃ cs,corG zs sq 0 (widN zs) (dn (widN zs) 0)=cs:=⟨_,rfl⟩
   rw [hcs] at hcR hsame
   obtain ⟨v2,H2,n2,r1,u2,rfl,r2⟩:=gEx_at (Q:=Q60 s zs sq 0) (by
     obtain ⟨u,H',n',h1,h2⟩:=w60 (H:=H1) (n:=n1) (v:=u1) (w:=sq) (st:=0) (q3 _ _ (hxs _ _ hR)) q5 q2.lt (by omega)
     exact ⟨_,_,_,h1,u,rfl,h2⟩)
   rw [hcR] at r2
   rw [hcE] at r1
   obtain ⟨p2,s2,m2,v2⟩:=MadeS.alone q2 r2
   obtain ⟨l5,rfl,ht5⟩:=shtV_form v2
   obtain ⟨oa5,c5,rfl,_,_,_⟩:=trcV_form ht5
   have ld10:=load103 hbx
   have st12:storeA ((n2,.cells [.string ⟨#[]⟩,.slice none 0 0] 110) :: H2) n2 0 [.string s,.slice oa5 cs.length c5]=some ((n2,.cells [.string s,.slice oa5 cs.length c5] 110) :: H2):=store_new rfl
   have hr12:=recT_ok (P:=Tryz.prog) (l:=[(59,gEx Tryz.prog 59 (Q59 s zs)),(60,gEx Tryz.prog 60 (Q60 s zs sq 0)),(71,gEx Tryz.prog 71 (Q71 s cs)),(70,gEx Tryz.prog 70 Q57)]) (by simp only [List.forall_mem_cons]; exact ⟨gEx_ok,gEx_ok,gEx_ok,gEx_ok,by simp⟩)
   refine E.seq (E.reg hr12 (by simp [-loadA,-storeA,ld10,q1,r1,st12]; rfl) ?_)
   obtain ⟨Z,hZ⟩:∃ Z,(n2,Blk.cells [.string s,.slice oa5 cs.length c5] 110) :: H2=Z:=⟨_,rfl⟩
   have pZ:PM (n2 + 1) Z:=by rw [← hZ]; exact p2.put rfl
   have sZ:Sub Hx Z:=by rw [← hZ]; exact (q3.trans s2).trans p2.sub
   have sZ2:Sub H2 Z:=by rw [← hZ]; exact p2.sub
   have bZ:hget Z n2=some (.cells [.string s,.slice oa5 cs.length c5] 110):=by rw [← hZ,hget_cons,if_pos rfl]
   rw [hZ]
   refine E.lead { fr:=[(3,ptA n),(7,iv sq),(8,iv hf),(9,iv W),(10,ptA n6),(12,ptA n2),(13,iv 0)],sz:=319,H:=Z,n:=n2 + 1,marks:=[],vs:=vs12 } (.keep rfl rfl rfl (by simp) (Sub.refl _)) ?_
   have hfl:∀ k b,hget (frzH Z) k=some b → k < n2 + 1:=fun k b hk=>by
     rw [hget_frz,Option.map_eq_some_iff] at hk
     obtain ⟨b',hk,_⟩:=hk
     exact pZ.lt _ _ hk
   obtain ⟨u7,H7,n7,b1,b2⟩:=gEx_at (Q:=Q71 s cs) (w71 (H:=frzH Z) (n:=n2 + 1) (v:=.agg ⟨[.string s,.slice oa5 cs.length c5]⟩) (by rw [shtV_frz]; exact shtV_mono sZ2 v2) hfl)
   obtain ⟨B7,rfl,k2,k3,k4,k5,k6,k7⟩:=MadeS.late pZ b2
   have h70:gEx Tryz.prog 70 Q57 [u7,.agg ⟨[.string s,.slice (some ⟨o,0,some 0⟩) j 0]⟩] (B7 ++ Z) n7=some (.bool true,B7 ++ Z,n7):=by
     obtain ⟨v,H',n',g1,rfl,rfl,rfl⟩:=gEx_at (Q:=Q57) ⟨_,_,_,w70 (n:=n7) k7 (shtV_mono (sZ.trans k5) vz) hsame,rfl,rfl,rfl⟩
     exact g1
   have x1:cellsA Z n2 0 2=some [.string s,.slice oa5 cs.length c5]:=by rw [cellsA_eq,bZ]; rfl
   have x2:cellsA Z n6 0 2=some [.string s,.slice (some ⟨o,0,some 0⟩) j 0]:=by rw [cellsA_eq,sZ _ _ hbx]; rfl
   have x3:cellsA (B7 ++ Z) n6 0 2=some [.string s,.slice (some ⟨o,0,some 0⟩) j 0]:=k5.cells x2
   have pZn:=pZ.nm
   have pZp:=pZ.pl
   have k4n:=k4.nm
   have k4p:=k4.pl
   have y1:n2 < n2 + 1:=by omega
   have y2:n6 < n2 + 1:=by omega
   have y3:n6 < n7:=by omega
   refine E.seq (E.seq ?_)
   refine E.drawU mixed hr12 [6] [4,6] [3,4,6] (by kernel_rfl) (by simp [-cellA,-cellsA,-readA,cellsA_read,pZn,pZp,k4n,x1,x3,b1,k2,k3,k6,h70,y1,y2,y3]; rfl) ?_
   refine E.cond (t:=false) (by simp) (fun h=>by cases h) (fun _=>?_)
   refine E.skip ?_
   have hXV:Sub X (B7 ++ Z):=hxs.trans (sZ.trans k5)
   have key:=w12x (n:=n) (sq:=sq) (hf:=hf) k4 (hTX.trans hXV) (hXV _ _ hR) (hXV _ _ b0) (shtV_mono hXV v0) (r0.mono hXV (by omega)) h0 hW hl hts hsq hhf (by omega)
   refine E.lead _ ?_ key
   exact .keep rfl rfl rfl (by simp) (Sub.refl _)
set_option maxHeartbeats 12800000 in
set_option maxRecDepth 100000 in
theorem w12a {H:Heap} {n:Nat} {s:ByteArray} {ts:List Trc} {sl:Value} {v wn:Int} {Ls:List Nat} (h0:hget H 0=some (.inp 0 freeV)) (hR:dR H) (hv:shtV H (.agg ⟨[.string s,sl]⟩)=some (s,ts)) (hu:listV 10 decTL H sl=some Ls) (hss:s.size ≤ 60) (hLs:Ls.length ≤ 6 ∨ Ls.length=65) (hsh:Ls.all shortN=true) (hvr:0 ≤ v ∧ v ≤ 65535) (hwr:0 ≤ wn ∧ wn ≤ 255):AC Tryz.prog 12 [.agg ⟨[.string s,sl]⟩,.int .u16 v,.int .u8 wn] H n (.bool true) H n:=by
 refine AC.given fun hold hsc hgn=>AC.tidied (B:=[]) (by simp) ?_
 have h9:9 ≤ n:=gsz ▸ hgn
 replace hv:=shtV_tidy (n:=n) (fun k b h=>(hold k b h).1) hv
 replace hu:=listV_tidy (n:=n) decTL_tidy (fun k b h=>(hold k b h).1) hu
 replace h0:hget (tidy n H) 0=some (.inp 0 freeV):=hget_tidy.2 ⟨h0,by omega,rfl⟩
 replace hR:hget (tidy n H) 1=some (.inp 0 rangesV):=hget_tidy.2 ⟨hR,by omega,rfl⟩
 replace hold:∀ k b,hget (tidy n H) k=some b → k < n ∧ scB (· < n) b:=fun k b h=>hold k b (hget_tidy.1 h).1
 have hpm0:PM n (tidy n H):=PM.tidy
 obtain ⟨T,hT⟩:∃ T,tidy n H=T:=⟨_,rfl⟩
 rw [hT] at hv hu h0 hR hold hpm0 ⊢
 have hr:=recT_ok (P:=Tryz.prog) (l:=[(15,g15),(57,gEx Tryz.prog 57 Q57),(62,g62),(81,g81)]) (by simp only [List.forall_mem_cons]; exact ⟨ok15,gEx_ok,ok62,ok81,by simp⟩)
 have hr0:=recT_ok (P:=Tryz.prog) (l:=[]) (by simp)
 obtain ⟨u,e',ht⟩:=shtV_form hv
 obtain rfl:sl=u:=by
   injection e' with e; injection e with e; injection e with _ e; injection e
 clear e'
 obtain ⟨oa,c,rfl,hl31,_,htrow⟩:=trcV_form ht
 obtain ⟨X,hX⟩:∃ X,(n,Blk.cells [.string s,.slice oa ts.length c] 103) :: T=X:=⟨_,rfl⟩
 have hpX:PM (n + 1) X:=by rw [← hX]; exact hpm0.put rfl
 have hTX:Sub T X:=by rw [← hX]; exact hpm0.sub
 have hb0:hget X n=some (.cells [.string s,.slice oa ts.length c] 103):=by rw [← hX,hget_cons,if_pos rfl]
 have hld:=load103 hb0
 have hvX:=shtV_mono hTX hv
 have hdR:dR X:=hTX _ _ hR
 have h15:∀ m,g15 [] X m=some (.bool true,X,m):=fun m=>if_pos ⟨rfl,hdR,hTX _ _ h0⟩
 have h57:∀ m,m=n + 1 → gEx Tryz.prog 57 Q57 [.agg ⟨[.string s,.slice oa ts.length c]⟩] X m=some (.bool true,X,m):=fun m hm=>by
   have:=w57 (H:=X) (n:=m) (s:=s) (listV_mono (dec:=decTL) (fun _ _ _ _ _ h=>h) hTX hu) hss hLs
   rw [hsh] at this
   obtain ⟨v,H',n',h1,rfl,rfl,rfl⟩:=gEx_at (Q:=Q57) ⟨_,_,_,this,rfl,rfl,rfl⟩
   exact h1
 replace h57:=h57 _ rfl
 obtain ⟨e0,he0⟩:∃ e,shtE s ts=e:=⟨_,rfl⟩
 have h62:∀ m,g62 [.agg ⟨[.string s,.slice oa ts.length c]⟩] X m=some (iv e0,X,m):=fun m=>by
   simp only [g62,hvX,he0]
 obtain ⟨Wd,hWd⟩:∃ w,(widF ts).1=w:=⟨_,rfl⟩
 have h81:∀ m,g81 [.agg ⟨[.string s,.slice oa ts.length c]⟩] X m=some (iv Wd,X,m):=fun m=>by
   simp only [g81,hvX,hWd]
 have c1:cellA X n 1=some (.slice oa ts.length c):=by rw [cellA_eq,hb0]; rfl
 have l101:loadA Tryz.prog 101 X (.pointer (some ⟨n,1,none⟩))=some (.slice oa ts.length c):=by simp [-cellA,c1]
 refine AC.pure Tryz.func12 rfl (by kernel_rfl) rfl vs12 rfl ?_
 refine E.seq (E.reg hr0 (by simp; rfl) ?_)
 rw [hX]
 refine E.seq (E.seq ?_)
 by_cases hz:e0=0
 case neg=>
   refine E.reg hr (by simp [-loadA,hld,h15,h57,h62,hz]; rfl) ?_
   refine E.cond (t:=true) (by simp) (fun _=>?_) (fun h=>by cases h)
   refine E.seq (E.reg hr (by simp [h15]; rfl) ?_)
   refine E.ret ?_
   exact pureK.ret rfl rfl (by simp) hTX
 case pos=>
 by_cases hw:16 < Wd
 case pos=>
   refine E.reg hr (by simp [-loadA,hld,h15,h57,h62,h81,hz,hw]; rfl) ?_
   refine E.cond (t:=true) (by simp) (fun _=>?_) (fun h=>by cases h)
   refine E.seq (E.reg hr (by simp [h15]; rfl) ?_)
   refine E.ret ?_
   exact pureK.ret rfl rfl (by simp) hTX
 case neg=>
 by_cases h5:(5:Int) < ts.length
 case pos=>
   refine E.reg hr (by simp [-loadA,hld,h15,h57,h62,h81,hz,hw,l101,h5]; rfl) ?_
   refine E.cond (t:=true) (by simp) (fun _=>?_) (fun h=>by cases h)
   refine E.seq (E.reg hr (by simp [h15]; rfl) ?_)
   refine E.ret ?_
   exact pureK.ret rfl rfl (by simp) hTX
 case neg=>
 refine E.reg hr (by simp [-loadA,hld,h15,h57,h62,h81,hz,hw,l101,h5]; rfl) ?_
 refine E.cond (t:=false) (by simp) (fun h=>by cases h) (fun _=>?_)
 refine E.skip ?_
 have hE0:shtE s ts=0:=he0.trans hz
 have hok:=shtE_ok hE0
 have hw0:=hok.w0
 obtain ⟨W,rfl⟩:∃ W:Nat,Wd=W:=⟨Wd.toNat,by omega⟩
 have hwv:IntKind.i64.wrap v=v:=W_in (by omega) (by omega)
 have hwn:IntKind.i64.wrap wn=wn:=W_in (by omega) (by omega)
 have hws:IntKind.i64.wrap (1 + v)=1 + v:=W_in (by omega) (by omega)
 have hrm:wn.tmod 4=wn % 4:=Int.tmod_eq_emod_of_nonneg hwr.1
 refine E.lead { fr:=[(1,.int .u16 v),(2,.int .u8 wn),(3,ptA n)],sz:=319,H:=X,n:=n + 1,marks:=[],vs:=vs12 } (.keep rfl rfl rfl (by simp) (Sub.refl _)) ?_
 refine E.seq (E.reg hr (by simp [-loadA,hld,h81,opConvert,cv55,cv5_3,hwv,hwn,hws,bin_rem,hrm]; rfl) ?_)
 refine E.lead { fr:=[(3,ptA n),(7,iv (1 + v)),(8,iv (wn % 4)),(9,iv W)],sz:=319,H:=X,n:=n + 1,marks:=[],vs:=vs12 } (.keep rfl rfl rfl (by simp) (Sub.refl _)) ?_
 refine E.seq (E.seq (E.reg hr0 (by simp; rfl) ?_))
 by_cases hW0:W=0
 · refine E.cond (t:=true) (by simp [hW0]) (fun _=>?_) (fun h=>by cases h)
   refine E.seq (E.reg hr0 (by simp; rfl) ?_)
   refine E.ret ?_
   exact pureK.ret rfl rfl (by simp) hTX
 refine E.cond (t:=false) (by simp; omega) (fun h=>by cases h) (fun _=>?_)
 refine E.skip ?_
 have hrs:RowS X (n + 1) (.slice oa ts.length c):=by
   refine ⟨oa,ts.length,c,rfl,fun i hi=>?_⟩
   obtain ⟨a,q,e,_,hcs,h8,_⟩:=htrow i hi
   obtain ⟨_,c9,_⟩:=trc_cells hcs h8
   refine ⟨a,q,e,hTX.cell c9,?_⟩
   rw [cellsA_eq] at hcs
   cases hb:hget T a.block with
   | none=>rw [hb] at hcs; cases hcs
   | some b=>exact sc_mono (fun k hk=>by omega) _ (sc_cell hb (hold _ _ hb).2 c9)
 have key:=w12w (n:=n) (sq:=1 + v) (hf:=wn % 4) hpX hTX hdR hb0 hvX hrs hE0 hWd ⟨by omega,by omega⟩ (by omega) ⟨by omega,by omega⟩ ⟨by omega,by omega⟩ (by omega)
 refine E.lead _ ?_ key
 exact .keep rfl rfl rfl (by simp) (Sub.refl _)
set_option maxHeartbeats 1600000 in
set_option maxRecDepth 100000 in
theorem w12s {H:Heap} {n:Nat} {s:ByteArray} {l:Value} {v wn:Int} (h0:hget H 0=some (.inp 0 freeV)) (hR:dR H) (hs:∀ (G:Heap) (m:Nat),Sub (tidy n H) G → AC Tryz.prog 57 [.agg ⟨[.string s,l]⟩] G m (.bool false) G m):AC Tryz.prog 12 [.agg ⟨[.string s,l]⟩,.int .u16 v,.int .u8 wn] H n (.bool true) H n:=by
 refine AC.given fun hold hsc hgn=>AC.tidied (B:=[]) (by simp) ?_
 have h9:9 ≤ n:=gsz ▸ hgn
 replace h0:hget (tidy n H) 0=some (.inp 0 freeV):=hget_tidy.2 ⟨h0,by omega,rfl⟩
 replace hR:hget (tidy n H) 1=some (.inp 0 rangesV):=hget_tidy.2 ⟨hR,by omega,rfl⟩
 have hpm0:PM n (tidy n H):=PM.tidy
 obtain ⟨T,hT⟩:∃ T,tidy n H=T:=⟨_,rfl⟩
 rw [hT] at h0 hR hpm0 hs ⊢
 have hr:=recT_ok (P:=Tryz.prog) (l:=[(15,g15),(57,gEx Tryz.prog 57 Q57f)]) (by simp only [List.forall_mem_cons]; exact ⟨ok15,gEx_ok,by simp⟩)
 have hr0:=recT_ok (P:=Tryz.prog) (l:=[]) (by simp)
 obtain ⟨X,hX⟩:∃ X,(n,Blk.cells [.string s,l] 103) :: T=X:=⟨_,rfl⟩
 have hTX:Sub T X:=by rw [← hX]; exact hpm0.sub
 have hb0:hget X n=some (.cells [.string s,l] 103):=by rw [← hX,hget_cons,if_pos rfl]
 have hld:=load103 hb0
 have h15:∀ m,g15 [] X m=some (.bool true,X,m):=fun m=>if_pos ⟨rfl,hTX _ _ hR,hTX _ _ h0⟩
 have h57:∀ m,gEx Tryz.prog 57 Q57f [.agg ⟨[.string s,l]⟩] X m=some (.bool false,X,m):=fun m=>by
   obtain ⟨v,H',n',h1,rfl,rfl,rfl⟩:=gEx_at (Q:=Q57f) ⟨_,_,_,hs X m hTX,rfl,rfl,rfl⟩
   exact h1
 refine AC.pure Tryz.func12 rfl (by kernel_rfl) rfl vs12 rfl ?_
 refine E.seq (E.reg hr0 (by simp; rfl) ?_)
 rw [hX]
 refine E.seq (E.seq (E.reg hr (by simp [-loadA,hld,h15,h57]; rfl) ?_))
 refine E.cond (t:=true) (by simp) (fun _=>?_) (fun h=>by cases h)
 refine E.seq (E.reg hr (by simp [h15]; rfl) ?_)
 refine E.ret ?_
 exact pureK.ret rfl rfl (by simp) hTX
theorem w12 {H:Heap} {n:Nat} {s:ByteArray} {oa:Option Addr} {L c:Nat} {v wn:Int} (h0:hget H 0=some (.inp 0 freeV)) (hR:dR H) (hvr:0 ≤ v ∧ v ≤ 65535) (hwr:0 ≤ wn ∧ wn ≤ 255) (hl:L < 2147483648 → ∃ Ls:List Nat,Ls.length=L ∧ listV 10 decTL H (.slice oa L c)=some Ls ∧ ((∀ x ∈ Ls,x < 2147483648) → ∃ ts,trcV H (.slice oa L c)=some ts ∧ ts.map (·.smp.length)=Ls)):AC Tryz.prog 12 [.agg ⟨[.string s,.slice oa L c]⟩,.int .u16 v,.int .u8 wn] H n (.bool true) H n:=by
 refine AC.given fun hold hsc hgn=>?_
 by_cases h1:60 < s.size ∨ 6 < L ∧ L ≠ 65
 · exact w12s h0 hR fun G m _=>w57big h1
 · obtain ⟨Ls,e,hu,hx⟩:=hl (by omega)
   subst e
   cases ha:Ls.all shortN with
   | false=>
     refine w12s h0 hR fun G m hG=>?_
     have h2:=listV_mono (dec:=decTL) (fun _ _ _ _ _ h=>h) hG (listV_tidy (n:=n) decTL_tidy (fun k b h=>(hold k b h).1) hu)
     have:=w57 (H:=G) (n:=m) (s:=s) h2 (by omega) (by omega)
     rw [ha] at this
     exact this
   | true=>
     have hsm:∀ x ∈ Ls,x ≤ 1025:=fun x hx=>by
       have:=List.all_eq_true.1 ha x hx
       unfold shortN at this
       simp only [Bool.or_eq_true,decide_eq_true_eq] at this
       omega
     obtain ⟨ts,ht,hts⟩:=hx fun x hx=>by have:=hsm x hx; omega
     exact w12a (ts:=ts) h0 hR (shtV_mk ht) hu (by omega) (by omega) ha hvr hwr
end Go.Proofs.YtkongcnmkiihjaaGreatDoor
namespace Go.Ab
open Go Go.ChangeShapes Go.WideShapes
structure WV where
 blk:Nat
 off:Nat
 cs:List Value
def wvH (N:Nat):List WV → Heap → Heap
 | [],G=>G
 | v :: vs,G=>wvH (N + 1) vs ((N,.inp v.off v.cs) :: G)
def wvLoc (N:Nat) (vs:List WV) (ds:List Nat):Vl:=⟨fun k=>if k < N then k else match (vs.map (·.blk) ++ ds)[k - N]? with | some b=>b | none=>0,fun _=>0⟩
theorem wvLoc_low {N:Nat} {vs:List WV} {ds:List Nat} {k:Nat} (h:k < N):(wvLoc N vs ds).loc k=k:=by simp only [wvLoc]; rw [if_pos h]
theorem wvLoc_at {N:Nat} {vs:List WV} {ds:List Nat} {i b:Nat} (h:(vs.map (·.blk) ++ ds)[i]? = some b):(wvLoc N vs ds).loc (N + i)=b:=by
 simp only [wvLoc]
 rw [if_neg (by omega),show N + i - N=i by omega,h]
theorem wvLoc_view {N:Nat} {vs:List WV} {ds:List Nat} {i:Nat} {v:WV} (h:vs[i]? = some v):(wvLoc N vs ds).loc (N + i)=v.blk:=by
 have hi:=(List.getElem?_eq_some_iff.1 h).1
 exact wvLoc_at (by rw [List.getElem?_append_left (by simpa using hi),List.getElem?_map,h]; rfl)
theorem wvLoc_dead {N:Nat} {vs:List WV} {ds:List Nat} {i b:Nat} (h:ds[i]? = some b):(wvLoc N vs ds).loc (N + vs.length + i)=b:=by
 rw [Nat.add_assoc]
 exact wvLoc_at (by rw [List.getElem?_append_right (by rw [List.length_map]; omega),List.length_map,show vs.length + i - vs.length=i by omega,h])
theorem wvH_low:∀ (vs:List WV) (M:Nat) (G:Heap) (k:Nat) (b:Blk),k < M → hget G k=some b → hget (wvH M vs G) k=some b
 | [],_,_,_,_,_,h=>h
 | _ :: xs,M,G,k,b,hk,h=>wvH_low xs (M + 1) _ k b (by omega) (by rw [hget_cons,if_neg (by omega)]; exact h)
theorem wvH_at {N:Nat}:∀ (vs:List WV) (G:Heap) (i:Nat) (v:WV),vs[i]? = some v → hget (wvH N vs G) (N + i)=some (.inp v.off v.cs)
 | [],_,i,v,h=>by simp at h
 | u :: vs,G,0,v,h=>by
   simp at h; subst h
   exact wvH_low vs (N + 1) _ (N + 0) _ (by omega) (by rw [hget_cons,if_pos (by omega)])
 | u :: vs,G,i + 1,v,h=>by
   rw [show N + (i + 1)=N + 1 + i by omega]
   exact wvH_at vs _ i v (by simpa using h)
theorem hget_wvH {N:Nat}:∀ (vs:List WV) (G:Heap) (k:Nat) (b:Blk),(∀ k b,hget G k=some b → k < N) → hget (wvH N vs G) k=some b → hget G k=some b ∨ ∃ v,vs[k - N]? = some v ∧ N ≤ k ∧ b = .inp v.off v.cs
 | [],_,_,_,_,h=>.inl h
 | v :: vs,G,k,b,hG,h=>by
   have:=hget_wvH (N:=N + 1) vs ((N,.inp v.off v.cs) :: G) k b (fun j c hj=>by
     rw [hget_cons] at hj
     split at hj
     · omega
     · have:=hG j c hj
       omega) h
   rcases this with h2 | ⟨u,h1,h2,h3⟩
   · rw [hget_cons] at h2
     by_cases hk:N=k
     · rw [if_pos hk] at h2; injection h2 with h2; subst hk
       exact .inr ⟨v,by simp,Nat.le_refl _,h2.symm⟩
     · rw [if_neg hk] at h2
       exact .inl h2
   · refine .inr ⟨u,?_,by omega,h3⟩
     rw [show k - N=(k - (N + 1)) + 1 by omega]
     simpa using h1
theorem baseN {P : Program} {w : World} {N : Nat} (hgl : P.globals.size = N) {G : Heap} (hG : ∀ k b, hget G k = some b → k < N ∧ scB (· < N) b ∧ b.own = false ∧ ∀ φ : Vl, (∀ k, k < N → φ.loc k = k) → BRel P φ k b w.heap[k]?) (vs : List WV) (ds : List Nat)
   (hv:∀ v ∈ vs,scL (· < N + vs.length + ds.length) v.cs ∧ ∃ c t fz,w.heap[v.blk]? = some (.cells c t fz) ∧ ∀ i,i < v.cs.length → c[v.off + i]? = (denL (wvLoc N vs ds) v.cs)[i]?) :
   Base P (· < N + vs.length + ds.length) (wvLoc N vs ds) (N + vs.length + ds.length) (hget (wvH N vs G)) w [] act0 ∧ ∀ k b,hget (wvH N vs G) k=some b → b.own=false:=by
 have hH:∀ k b,hget (wvH N vs G) k=some b → hget G k=some b ∨ ∃ v,vs[k - N]? = some v ∧ N ≤ k ∧ b = .inp v.off v.cs:=fun k b hk=>hget_wvH vs G k b (fun k b h=>(hG k b h).1) hk
 have hown:∀ k b,hget (wvH N vs G) k=some b → b.own=false:=fun k b hk=>by
   rcases hH k b hk with h | ⟨v,_,_,rfl⟩
   · exact (hG k b h).2.2.1
   · rfl
 refine ⟨⟨⟨fun k b hk=>?_,fun k b k' b' h1 _ _ ho=>(by rw [hown k b h1] at ho; cases ho),fun g hg=>?_⟩,fun _ h=>h,fun g hg=>?_,?_,fun k b hk=>?_,fun t v hv=>by simp [lk] at hv,fun t v hv=>by simp [lk] at hv⟩,hown⟩
 · rcases hH k b hk with h | ⟨v,h1,h2,rfl⟩
   · obtain ⟨g1,_,_,g4⟩:=hG k b h
     rw [wvLoc_low g1]
     exact g4 _ fun j hj=>wvLoc_low hj
   · obtain ⟨_,c,t,fz,e1,e2⟩:=hv v (List.mem_of_getElem? h1)
     have:(wvLoc N vs ds).loc k=v.blk:=by
       have:=wvLoc_view (N:=N) (ds:=ds) h1
       rwa [show N + (k - N)=k by omega] at this
     rw [this]
     exact ⟨c,t,fz,e1,e2⟩
 · rw [hgl] at hg; exact wvLoc_low hg
 · rw [hgl] at hg; omega
 · rw [hgl]; omega
 · rcases hH k b hk with h | ⟨v,h1,h2,rfl⟩
   · obtain ⟨g1,g2,_,_⟩:=hG k b h
     exact ⟨by omega,scB_mono (fun j hj=>by show j < _; have hj:j < N:=hj; omega) _ g2⟩
   · have:=(List.getElem?_eq_some_iff.1 h1).1
     exact ⟨by omega,(hv v (List.mem_of_getElem? h1)).1⟩
structure RD where
 A:Option Addr
 L:Nat
 C:Nat
 Z:List Value
def RD.val (r:RD):Value:=.slice r.A r.L r.C
def RD.ok (w:World) (r:RD):Prop:=r.L ≤ r.C ∧ r.Z.length=r.C ∧ (r.A=none → r.C=0) ∧ afL r.Z=true ∧ ∀ a,r.A=some a → ∀ (c:Nat) v,r.Z[c]? = some v → w.cell? (a.add c)=some v
def RD.view (r:RD):WV:=match r.A with
 | some a=>if 0 < r.C then ⟨a.block,a.off,r.Z.take r.L⟩ else ⟨0,0,[]⟩
 | none=>⟨0,0,[]⟩
def RD.dead (r:RD):Nat:=match r.A with
 | some a=>a.block
 | none=>0
def RD.abs (vn dn:Nat) (r:RD):Value:=match r.A with
 | none=>.slice none 0 0
 | some a=>if 0 < r.C then .slice (some ⟨vn,a.off,none⟩) r.L r.C else match a.spot with
   | none=>.slice (some ⟨dn,a.off,none⟩) 0 0
   | some s=>.slice (some ⟨dn,a.off,some (a.off + 1 + s)⟩) 0 1
theorem afL_take:∀ (k:Nat) (vs:List Value),afL vs=true → afL (vs.take k)=true
 | 0,_,_=>by rw [List.take_zero]; rfl
 | _ + 1,[],_=>rfl
 | k + 1,v :: vs,h=>by
   simp only [afL,Bool.and_eq_true] at h
   simp only [List.take_succ_cons,afL,Bool.and_eq_true]
   exact ⟨h.1,afL_take k vs h.2⟩
section
variable {w:World} {r:RD}
theorem RD.spot (h:r.ok w) {a:Addr} (ha:r.A=some a) (hc:0 < r.C):a.spot=none ∧ ∃ c t fz,w.heap[a.block]? = some (.cells c t fz) ∧ ∀ (i:Nat) v,r.Z[i]? = some v → c[a.off + i]? = some v:=by
 obtain ⟨_,h2,_,_,h4⟩:=h
 have h0:=h4 a ha 0 r.Z[0] (List.getElem?_eq_getElem (by omega))
 have ha0:a.add 0=a:=by simp [Addr.add]
 rw [ha0] at h0
 unfold World.cell? at h0
 split at h0
 · rename_i c t fz hw
   split at h0
   · cases h0
   · rename_i hs
     have hs:a.spot=none:=by simpa using hs
     refine ⟨hs,c,t,fz,hw,fun i v hi=>?_⟩
     have:=h4 a ha i v hi
     obtain ⟨b,o,s⟩:=a
     dsimp only at hs hw
     subst hs
     rw [add_none,cell_get hw] at this
     exact this
 · cases h0
theorem RD.den {φ:Vl} {vn dn:Nat} (h:r.ok w) (hv:φ.loc vn=r.view.blk) (hd:φ.loc dn=r.dead) (hc:φ.cap dn=0):Ab.den φ (r.abs vn dn)=r.val:=by
 have h0:=h
 obtain ⟨h1,h2,h3,_⟩:=h0
 unfold RD.abs RD.val
 unfold RD.view at hv
 unfold RD.dead at hd
 cases hA:r.A with
 | none=>
   have:=h3 hA
   have hL:r.L=0:=by omega
   rw [hL,this]
   rfl
 | some a=>
   rw [hA] at hv hd
   dsimp only at hv hd ⊢
   by_cases hC:0 < r.C
   · obtain ⟨hs,_⟩:=RD.spot h hA hC
     rw [if_pos hC] at hv ⊢
     obtain ⟨b,o,s⟩:=a
     dsimp only at hs hv
     subst hs
     simp [Ab.den,hv]
   · have hC0:r.C=0:=by omega
     have hL:r.L=0:=by omega
     rw [if_neg hC,hL,hC0]
     obtain ⟨b,o,s⟩:=a
     dsimp only at hd
     cases s with
     | none=>simp [Ab.den,hd]
     | some s=>
       have h5:o < o + 1 + s:=by omega
       have h6:o + 1 + s - o - 1=s:=by omega
       simp [Ab.den,hd,hc,h5,h6]
theorem RD.sc {p:Nat → Prop} {vn dn:Nat} (h1:p vn) (h2:p dn):Ab.sc p (r.abs vn dn):=by
 unfold RD.abs
 split
 · trivial
 · split
   · exact h1
   · split
     · exact h2
     · exact h2
theorem RD.form {vn dn:Nat} (h:r.ok w):∃ a c,r.abs vn dn = .slice a r.L c:=by
 obtain ⟨h1,h2,h3,_⟩:=h
 unfold RD.abs
 cases hA:r.A with
 | none=>
   have hL:r.L=0:=by have:=h3 hA; omega
   exact ⟨_,_,by rw [hL]⟩
 | some a=>
   dsimp only
   split
   · exact ⟨_,_,rfl⟩
   · have hL:r.L=0:=by omega
     split <;> exact ⟨_,_,by rw [hL]⟩
theorem RD.seen {α:Type} {dec:Dec α} {H:Heap} {vn dn:Nat} {xs:List α} (h:r.ok w) (hv:hget H vn=some (.inp r.view.off r.view.cs)) (hl:r.L < 2147483648) (hlen:xs.length=r.L) (hd:∀ (i:Nat) v,(r.Z.take r.L)[i]? = some v → dec H [v]=xs[i]?):listV 1 dec H (r.abs vn dn)=some xs:=by
 have h0:=h
 obtain ⟨h1,h2,h3,_⟩:=h0
 have hnil:r.L=0 → xs=[]:=fun e=>List.length_eq_zero_iff.1 (by rw [hlen,e])
 unfold RD.abs
 unfold RD.view at hv
 cases hA:r.A with
 | none=>
   rw [hnil (by have:=h3 hA; omega)]
   rfl
 | some a=>
   rw [hA] at hv
   dsimp only at hv ⊢
   by_cases hC:0 < r.C
   · rw [if_pos hC] at hv ⊢
     have hz:(r.Z.take r.L).length=r.L:=by rw [List.length_take]; omega
     rw [← hlen]
     refine listV_mk (cs:=r.Z.take r.L) rfl ?_ (by rw [hz,hlen]) (by omega) hd
     rw [cellsA_eq,hv]
     simp [cellsB]
     exact List.take_of_length_le (by rw [List.length_take]; omega)
   · rw [if_neg hC,hnil (by omega)]
     split <;> rfl
theorem view_ok (hz:∃ c t fz,w.heap[0]? = some (.cells c t fz)) {φ:Vl} {p:Nat → Prop} (h:r.ok w):scL p r.view.cs ∧ ∃ c t fz,w.heap[r.view.blk]? = some (.cells c t fz) ∧ ∀ i,i < r.view.cs.length → c[r.view.off + i]? = (denL φ r.view.cs)[i]?:=by
 have h0:=h
 obtain ⟨h1,h2,h3,haf,_⟩:=h0
 have hdum:scL p ([]:List Value) ∧ ∃ c t fz,w.heap[0]? = some (.cells c t fz) ∧ ∀ i,i < ([]:List Value).length → c[0 + i]? = (denL φ [])[i]?:=by
   obtain ⟨c,t,fz,e⟩:=hz
   exact ⟨trivial,c,t,fz,e,fun i hi=>by simp at hi⟩
 unfold RD.view
 cases hA:r.A with
 | none=>exact hdum
 | some a=>
   dsimp only
   by_cases hC:0 < r.C
   · obtain ⟨hs,c,t,fz,hw,hc⟩:=RD.spot h hA hC
     rw [if_pos hC]
     refine ⟨scL_af _ _ (afL_take _ _ haf),c,t,fz,hw,fun i hi=>?_⟩
     dsimp only at hi ⊢
     rw [denL_af _ _ (afL_take _ _ haf),List.getElem?_eq_getElem hi]
     rw [List.length_take] at hi
     exact hc i _ (by rw [List.getElem_take,List.getElem?_eq_getElem (by omega)])
   · rw [if_neg hC]
     exact hdum
end
theorem leaf_af {l:Leaf} {v:Value} (h:l.fits v):af v=true:=by
 cases l with
 | int k=>obtain ⟨n,rfl,_⟩:=h; rfl
 | str=>obtain ⟨s,rfl,_⟩:=h; rfl
 | bool=>obtain ⟨b,rfl⟩:=h; rfl
 | flt k=>obtain ⟨b,rfl⟩:=h; rfl
section
variable {Hy:Type} {enc:TypeId × Value → Hy} {P:Program} {w:World} {base:Nat} {held:Bool}
theorem open_row {t e:TypeId} {d fuel:Nat} {lf:Leaf} {v:Value} {x:DataW Hy × List MemPlace} (ht:P.underlying t=some (.slice e)) (hl:leafs P d e=some [lf]) (hc:P.cellsOf e=1) (h:DataW.trod enc P w base (fun _=>true) held fuel t [v]=some x):∃ r:RD,v=r.val ∧ r.ok w ∧ r.C ≤ maxLen ∧ ∀ z ∈ r.Z,lf.fits z:=by
 rcases Deep.open_slice1 ht hc h with ⟨h0,_⟩ | ⟨a,len,cap,m,n,V,D,Pl,e0,_,hlc,hm,hmm,_,hx⟩
 · have h0:v = .slice none 0 0:=by simpa using h0
   refine ⟨⟨none,0,0,[]⟩,h0,⟨Nat.le_refl _,rfl,fun _=>rfl,rfl,fun a ha=>by cases ha⟩,Nat.zero_le _,fun z hz=>by cases hz⟩
 · simp only [if_true] at hmm
   subst hmm
   have hfit:∀ i,i < m → lf.fits (V i):=fun i hi=>(leafs_ok d e [lf] n [V i] _ hl (hx i hi).2).1
   have e0:v = .slice (some a) len m:=by simpa using e0
   refine ⟨⟨some a,len,m,(List.range m).map V⟩,e0,⟨hlc,by simp,(fun h=>by cases h),?_,fun a' ha c v hv=>?_⟩,hm,fun z hz=>?_⟩
   · have key:∀ l:List Nat,(∀ i ∈ l,i < m) → afL (l.map V)=true:=by
       intro l
       induction l with
       | nil=>intro _; rfl
       | cons i l ih=>
         intro hi
         rw [List.map_cons,afL,leaf_af (hfit i (hi i (List.mem_cons_self ..))),ih fun j hj=>hi j (List.mem_cons_of_mem _ hj)]
         rfl
     exact key _ fun i hi=>List.mem_range.1 hi
   · injection ha with ha
     subst ha
     rw [List.getElem?_map] at hv
     by_cases hi:c < m
     · rw [List.getElem?_range hi] at hv
       injection hv with hv
       rw [← hv]
       exact (hx c hi).1
     · rw [List.getElem?_eq_none (by simp; omega)] at hv
       cases hv
   · obtain ⟨i,hi,rfl⟩:=List.mem_map.1 hz
     exact hfit i (List.mem_range.1 hi)
end
end Go.Ab
