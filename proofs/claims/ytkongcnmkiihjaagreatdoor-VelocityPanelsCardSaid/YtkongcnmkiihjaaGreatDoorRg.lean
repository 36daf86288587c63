/-
Contracts and plain reckonings behind the law VelocityPanels, part 7 of 8 (each under the conditions in its statement).
-/
import Derived.Lib.SplitLaws
import Derived.Lib.ItoaNum
import Derived.Test.YtkongcnmkiihjaaGreatDoorRf
import Derived.Test.YtkongcnmkiihjaaGreatDoorRd
import Derived.Test.YtkongcnmkiihjaaGreatDoorRa
import Derived.Test.YtkongcnmkiihjaaGreatDoorRe
namespace Go.Proofs.YtkongcnmkiihjaaGreatDoor
open Go Go.Ab Go.Proofs
theorem w150 {n':Int} (h:n'.natAbs < 16777216):AC Tryz.prog 150 [iv n'] [] 9 (rv (sampB n')) [] 9:=by
 have hr:=recT_ok (P:=Tryz.prog) (l:=[]) (by simp)
 obtain ⟨r,h1,h2⟩:=smp_told (n:=n') h
 have h3:sampB n'=r:=by
   unfold sampB sampQ
   rw [show FloatKind.f32.format=Ieee.single from rfl,h1]
   rfl
 have hcv:runP Tryz.prog (convert 3 145 (iv n'))=some (rv (FloatKind.f32.nearest n')):=by kernel_rfl
 refine AC.pure Tryz.func150 rfl (by kernel_rfl) rfl [] rfl ?_
 refine E.seq (E.reg hr (by simp; rfl) ?_)
 refine E.seq (E.reg hr (by simp [opConvert,hcv,bin_fdiv (k:=.f32) h1]; rfl) ?_)
 refine E.ret ?_
 exact pureK.ret rfl rfl (by rw [h3]; rfl) (sub_refl _)
def g150 (args:List Value) (H:Heap) (n:Nat):R:=match args with
 | [.int .i64 a]=>if a.natAbs < 16777216 then some (rv (sampB a),H,n) else none
 | _=>none
theorem ok150:EntOk Tryz.prog (150,g150):=by
 intro args H n v H' n' h
 simp only [g150] at h
 split at h
 · split at h
   · rename_i hc
     injection h with h; injection h with e1 e2; injection e2 with e2 e3; subst e1 e2 e3
     exact AC.liftP rfl (Part.plain (by simp) [] (by simp [Seen]) gsz ⟨_,_,w150 hc⟩)
   · cases h
 · cases h
theorem flr_q {n d:Int} (hd:1 ≤ d):n / d=if n < n.tdiv d * d then n.tdiv d - 1 else n.tdiv d:=by
 have h2:=Int.mul_ediv_add_emod n d
 have h3:=Int.emod_nonneg n (show d ≠ 0 by omega)
 have h4:=Int.emod_lt_of_pos n (show 0 < d by omega)
 rw [Int.tdiv_eq_ediv]
 have hc:n / d * d=d * (n / d):=Int.mul_comm _ _
 by_cases h:0 ≤ n ∨ d ∣ n
 · rw [if_pos h,Int.add_zero,if_neg]
   omega
 · rw [if_neg h,Int.sign_eq_one_of_pos (by omega),if_pos]
   · omega
   · rw [Int.add_mul,Int.one_mul]
     omega
theorem w176 {x d:Int} (hx:-4398046511104 ≤ x ∧ x ≤ 4398046511104) (hd:1 ≤ d ∧ d ≤ 4194304):AC Tryz.prog 176 [iv x,iv d] [] 9 (iv (x / d)) [] 9:=by
 have hr:=recT_ok (P:=Tryz.prog) (l:=[]) (by simp)
 have hd0:d ≠ 0:=by omega
 have hf:=flr_q (n:=x) (d:=d) hd.1
 have hq2:(x.tdiv d).natAbs ≤ x.natAbs:=by
   rw [Int.natAbs_tdiv]; exact Nat.div_le_self _ _
 have hqm:=Int.natAbs_mul (x.tdiv d) d
 have hqm2:(x.tdiv d).natAbs * d.natAbs ≤ x.natAbs:=by
   rw [Int.natAbs_tdiv]; exact Nat.div_mul_le_self _ _
 obtain ⟨q,hq⟩:∃ q,x.tdiv d=q:=⟨_,rfl⟩
 rw [hq] at hf hq2 hqm hqm2
 have h4:IntKind.i64.wrap q=q:=W_in (by omega) (by omega)
 have h6:IntKind.i64.wrap (q * d)=q * d:=W_in (by omega) (by omega)
 have h7:IntKind.i64.wrap (q - 1)=q - 1:=W_in (by omega) (by omega)
 refine AC.pure Tryz.func176 rfl (by kernel_rfl) rfl [0,1,5] rfl ?_
 refine E.seq (E.reg hr (by simp; rfl) ?_)
 refine E.seq (E.reg hr (by simp [bin_quo hd0,hq,h4]; rfl) ?_)
 refine E.seq (E.seq (E.reg hr (by simp [h6]; rfl) ?_))
 by_cases hn:x < q * d
 · rw [if_pos hn] at hf
   refine E.cond (t:=true) (by simp [hn]) (fun _=>?_) (fun h=>by cases h)
   refine E.reg hr (by simp [h7]; rfl) ?_
   refine E.seq (E.reg hr (by simp; rfl) ?_)
   refine E.ret ?_
   exact pureK.ret rfl rfl (by simp [hf]) (sub_refl _)
 · rw [if_neg hn] at hf
   refine E.cond (t:=false) (by simp [hn]) (fun h=>by cases h) (fun _=>?_)
   refine E.skip (E.seq (E.reg hr (by simp; rfl) ?_))
   refine E.ret ?_
   exact pureK.ret rfl rfl (by simp [hf]) (sub_refl _)
def g176 (args:List Value) (H:Heap) (n:Nat):R:=match args with
 | [.int .i64 x,.int .i64 d]=>if (-4398046511104 ≤ x ∧ x ≤ 4398046511104) ∧ 1 ≤ d ∧ d ≤ 4194304 then some (iv (x / d),H,n) else none
 | _=>none
theorem ok176:EntOk Tryz.prog (176,g176):=by
 intro args H n v H' n' h
 simp only [g176] at h
 split at h
 · split at h
   · rename_i hc
     injection h with h; injection h with e1 e2; injection e2 with e2 e3; subst e1 e2 e3
     exact AC.liftP rfl (Part.plain (by simp) [] (by simp [Seen]) gsz ⟨_,_,w176 hc.1 hc.2⟩)
   · cases h
 · cases h
theorem w151 {x c:Int} (h:flrB x c):AC Tryz.prog 151 [iv x,iv c] [] 9 (iv (flrV x c)) [] 9:=by
 have hr:=recT_ok (P:=Tryz.prog) (l:=[(176,g176)]) (by simp only [List.forall_mem_cons]; exact ⟨ok176,by simp⟩)
 obtain ⟨hx,hc⟩:=h
 have h1:IntKind.i64.wrap (2 * x)=2 * x:=W_in (by omega) (by omega)
 have h2:IntKind.i64.wrap (2 * x + c)=2 * x + c:=W_in (by omega) (by omega)
 have h3:IntKind.i64.wrap (2 * c)=2 * c:=W_in (by omega) (by omega)
 have hg:∀ Z m,g176 [iv (2 * x + c),iv (2 * c)] Z m=some (iv (flrV x c),Z,m):=fun Z m=>if_pos ⟨⟨by omega,by omega⟩,by omega,by omega⟩
 refine AC.pure Tryz.func151 rfl (by kernel_rfl) rfl [] rfl ?_
 refine E.seq (E.reg hr (by simp; rfl) ?_)
 refine E.seq (E.reg hr (by simp [h1,h2,h3,hg]; rfl) ?_)
 refine E.ret ?_
 exact pureK.ret rfl rfl rfl (sub_refl _)
def g151 (args:List Value) (H:Heap) (n:Nat):R:=match args with
 | [.int .i64 x,.int .i64 c]=>if flrB x c then some (iv (flrV x c),H,n) else none
 | _=>none
theorem ok151:EntOk Tryz.prog (151,g151):=by
 intro args H n v H' n' h
 simp only [g151] at h
 split at h
 · split at h
   · rename_i hc
     injection h with h; injection h with e1 e2; injection e2 with e2 e3; subst e1 e2 e3
     exact AC.liftP rfl (Part.plain (by simp) [] (by simp [Seen]) gsz ⟨_,_,w151 hc⟩)
   · cases h
 · cases h
theorem GL.wide {L Hx Hy:Heap} {n t sz k N N' o:Nat} {cs:List Value} (h:GL L n t sz cs k Hx N o) (hs:Sub Hx Hy) (hp:PM N' Hy) (hN:N ≤ N'):GL L n t sz cs k Hy N' o:=
 ⟨h.len,fun hk=>⟨hs _ _ (h.out hk).1,by have:=(h.out hk).2; omega⟩,h.sub.trans hs,hp.nm,by have:=h.big; omega,h.low,hp.pl⟩
def stkR2 (ts:List Trc) (l rl:List Int) (st e:Int):List Nat:=if rowE l rl (widF ts).1 e=0 then stkL ts l rl st e (widN ts) else []
theorem samp_zero:sampB 0=0:=by kernel_rfl
abbrev vs76:List Nat:=[2,3,4,8,9,10,11,12,13,14]
abbrev fr76 (n:Nat) (rv':Value) (o k:Nat):Fr:=[(2,rv'),(3,ptA n),(4,ptA (n + 1)),(8,outS o k),(9,iv k)]
abbrev fr76b (n:Nat) (rv':Value) (o k:Nat) (v:Int) (m L:Nat) (s:Int) (j:Nat):Fr:=[(2,rv'),(3,ptA n),(4,ptA (n + 1)),(8,outS o k),(9,iv k),(10,iv v),(11,outS m L),(12,iv s),(13,iv j)]
set_option maxHeartbeats 12800000 in
set_option maxRecDepth 100000 in
theorem w76 {H:Heap} {n:Nat} {v fv rv':Value} {s:ByteArray} {ts:List Trc} {l rl:List Int} {w st e:Int} (hv:shtV H v=some (s,ts)) (hl:intV H fv=some l) (hrv:intV H rv'=some rl) (hok:OkS ts) (hso:SetOk l w st e) (hlt:∀ k b,hget H k=some b → k < n):∃ u H' n',AC Tryz.prog 76 [v,setA fv w st e,rv'] H n (.tuple #[u,iv (rowE l rl (widF ts).1 e)]) H' n' ∧ MadeV reaV H n H' n' u (stkR2 ts l rl st e):=by
 replace hv:=shtV_tidy (n:=n) hlt hv
 replace hl:intV (tidy n H) fv=some l:=listV_tidy decI_tidy hlt hl
 replace hrv:intV (tidy n H) rv'=some rl:=listV_tidy decI_tidy hlt hrv
 obtain ⟨u,rfl,ht⟩:=shtV_form hv
 obtain ⟨oa,c,rfl,hlt31,_,htrow⟩:=trcV_form ht
 have hpm0:PM n (tidy n H):=PM.tidy
 have hvf:∀ (z:Int) u,af (Value.tuple #[u,iv z])=af u:=fun z u=>by cases u <;> simp [af,afL]
 refine made_any (V:=reaV) (vf:=fun u=>.tuple #[u,iv (rowE l rl (widF ts).1 e)]) Tryz.func76 rfl (by kernel_rfl) rfl vs76 hlt (hvf _) ?_
 obtain ⟨T0,hT0⟩:∃ T,tidy n H=T:=⟨_,rfl⟩
 rw [hT0] at hv ht hl hrv hpm0 htrow ⊢
 obtain ⟨fa,fc,rfl,hl31,_,hfrow⟩:=intV_form hl
 obtain ⟨ra,rc,rfl,hrl31,_,hrrow⟩:=intV_form hrv
 have hr:=recT_ok (P:=Tryz.prog) (l:=[(81,g81),(148,g148),(149,g149),(67,g67),(139,g139),(19,g19),(141,g141),(150,g150),(151,g151)]) (by simp only [List.forall_mem_cons]; exact ⟨ok81,ok148,ok149,ok67,ok139,ok19,ok141,ok150,ok151,by simp⟩)
 have hr0:=recT_ok (P:=Tryz.prog) (l:=[]) (by simp)
 have hw0:=hok.w0
 have h64:=hok.len
 obtain ⟨W,hWN⟩:∃ W:Nat,widN ts=W:=⟨_,rfl⟩
 have hWI:(widF ts).1=(W:Int):=by rw [← hWN]; unfold widN; omega
 have hW1024:W ≤ 1024:=by omega
 obtain ⟨Tn,hTn⟩:∃ T:Nat,timV W e=T:=⟨(timV W e).toNat,by have:=timV_b (W:=W) (e:=e) ⟨by omega,by omega⟩ hso.evr; omega⟩
 obtain ⟨PE,hPEe⟩:∃ x,rowE l rl (widF ts).1 e=x:=⟨_,rfl⟩
 obtain ⟨PL,hPLe⟩:∃ x,stkR2 ts l rl st e=x:=⟨_,rfl⟩
 have hPL:PL=if PE=0 then stkL ts l rl st e W else []:=by rw [← hPLe,← hPEe]; unfold stkR2; rw [hWN]
 have hPE:PE=if (rl.length:Int)=Tn then whenV (rl.any (badR l.length)) 10 else 2:=by
   rw [← hPEe,hWI]
   unfold rowE
   rw [hTn]
   by_cases h:(rl.length:Int)=Tn
   · rw [if_pos h,show decide ((rl.length:Int) ≠ Tn)=false by simp [h]]
     cases rl.any (badR l.length) <;> rfl
   · rw [if_neg h,show decide ((rl.length:Int) ≠ Tn)=true by simp [h]]
     rfl
 rw [hPEe,hPLe]
 obtain ⟨X,hX⟩:∃ X,(n + 1,Blk.cells [.slice fa l.length fc,iv w,iv st,iv e] 26) :: (n,Blk.cells [.string s,.slice oa ts.length c] 103) :: T0=X:=⟨_,rfl⟩
 have hp1:PM (n + 1) ((n,Blk.cells [.string s,.slice oa ts.length c] 103) :: T0):=hpm0.put rfl
 have hpX:PM (n + 2) X:=by rw [← hX]; exact hp1.put rfl
 have hTX:Sub T0 X:=by rw [← hX]; exact hpm0.sub.trans hp1.sub
 have hb0:hget X n=some (.cells [.string s,.slice oa ts.length c] 103):=by rw [← hX,hget_cons,if_neg (by omega),hget_cons,if_pos rfl]
 have hb1:hget X (n + 1)=some (.cells [.slice fa l.length fc,iv w,iv st,iv e] 26):=by rw [← hX,hget_cons,if_pos rfl]
 have hc26:cellsA X (n + 1) 0 4=some [.slice fa l.length fc,iv w,iv st,iv e]:=by rw [cellsA_eq,hb1]; rfl
 have hc103:cellsA X n 0 2=some [.string s,.slice oa ts.length c]:=by rw [cellsA_eq,hb0]; rfl
 have hl26:loadA Tryz.prog 26 X (.pointer (some ⟨n + 1,0,none⟩))=some (setA (.slice fa l.length fc) w st e):=by
   simp only [loadA,ag26,sz26,hc26,Option.map_some]
 have h81f:∀ m,g81 [.agg ⟨[.string s,.slice oa ts.length c]⟩] (frzH X) m=some (iv W,frzH X,m):=fun m=>by
   have:shtV (frzH X) (.agg ⟨[.string s,.slice oa ts.length c]⟩)=some (s,ts):=by rw [shtV_frz]; exact shtV_mono hTX hv
   simp only [g81,this,hWI]
 have h148:∀ Y m,g148 [setA (.slice fa l.length fc) w st e,iv W] Y m=some (iv Tn,Y,m):=fun Y m=>by
   simp only [g148]
   rw [if_pos ⟨⟨by omega,by omega⟩,hso.evr⟩,hTn]
 have h149:∀ m,g149 [setA (.slice fa l.length fc) w st e,.slice ra rl.length rc] X m=some (.bool (!rl.any (badR l.length)),X,m):=fun m=>by
   have:intV X (.slice ra rl.length rc)=some rl:=listV_mono decI_mono hTX hrv
   simp only [g149,this]
 have hXn:=hpX.nm
 have hXp:=hpX.pl
 have hXt:=takeNew_frz hXn
 have hl1:n + 1 < n + 2:=by omega
 have hl0:n < n + 2:=by omega
 refine E.seq (E.reg hr0 (by simp; rfl) ?_)
 rw [hX]
 refine E.seq (E.seq ?_)
 refine E.drawU mixed hr [5] [4,5] [2,3,4,5] (by kernel_rfl) (by simp [-cellA,-cellsA,-readA,cellsA_read,hXn,hXp,hXt,hc26,hc103,hl0,hl1,h81f,h148]; rfl) ?_
 by_cases hsh:(rl.length:Int)=Tn
 rotate_left
 · rw [if_neg hsh] at hPE
   rw [if_neg (by omega)] at hPL
   refine E.cond (t:=true) (by simp [hsh]) (fun _=>?_) (fun h=>by cases h)
   refine E.seq (E.reg hr0 (by simp; rfl) ?_)
   refine E.ret ?_
   rw [hPL,hPE]
   exact outM.ret X rfl (vs:=[.slice none 0 0,iv 2]) (by simp [resultsA,resultA,Tryz.results76]) ⟨.slice none 0 0,rfl,hTX,hpX.nm,by dsimp only; omega,fun _ G=>rfl,fun G _ _=>rfl⟩
 rw [if_pos hsh] at hPE
 refine E.cond (t:=false) (by simp [hsh]) (fun h=>by cases h) (fun _=>?_)
 refine E.skip ?_
 refine E.lead { fr:=[(2,.slice ra rl.length rc),(3,ptA n),(4,ptA (n + 1))],sz:=90,H:=X,n:=n + 2,marks:=[],vs:=vs76 } (.keep rfl rfl rfl (by simp) (Sub.refl _)) ?_
 refine E.seq (E.seq (E.reg hr (by simp [-loadA,hl26,h149]; rfl) ?_))
 cases hbad:rl.any (badR l.length) with
 | true=>
   rw [hbad] at hPE
   replace hPE:PE=10:=hPE
   rw [if_neg (by omega)] at hPL
   refine E.cond (t:=true) (by simp) (fun _=>?_) (fun h=>by cases h)
   refine E.seq (E.reg hr0 (by simp; rfl) ?_)
   refine E.ret ?_
   rw [hPL,hPE]
   exact outM.ret X rfl (vs:=[.slice none 0 0,iv 10]) (by simp [resultsA,resultA,Tryz.results76]) ⟨.slice none 0 0,rfl,hTX,hpX.nm,by dsimp only; omega,fun _ G=>rfl,fun G _ _=>rfl⟩
 | false=>
 rw [hbad] at hPE
 replace hPE:PE=0:=hPE
 rw [if_pos hPE] at hPL
 have hrl:(rl.length:Int)=timV W e:=by rw [hTn]; exact hsh
 refine E.cond (t:=false) (by simp) (fun h=>by cases h) (fun _=>?_)
 refine E.skip (E.seq (E.reg hr0 (by simp; rfl) ?_))
 refine E.seq (E.seq (E.reg hr0 (by simp; rfl) ?_))
 refine E.block (E.loop ?_)
 refine EL.ind (fun x:Nat × Heap × Nat × Nat=>{ fr:=fr76 n (.slice ra rl.length rc) x.2.2.2 x.1,sz:=90,H:=x.2.1,n:=x.2.2.1,marks:=[],vs:=vs76 }) (fun x=>W - x.1) (fun x=>x.1 ≤ W ∧ GL X (n + 2) 145 1 ((stkL ts l rl st e x.1).map rv) x.1 x.2.1 x.2.2.1 x.2.2.2) (0,X,n + 2,n + 2) (.keep rfl rfl rfl (by simp) (Sub.refl _)) ⟨Nat.zero_le _,GL.start (t:=145) (sz:=1) (Sub.refl X) hpX.nm (Nat.le_refl _) hpX.pl⟩ (fun _=>rfl) ?_
 rintro ⟨k,Hx,N,o⟩ ⟨hk,hG⟩
 dsimp only at hk hG ⊢
 have hXx:=hG.sub
 have hTx:=hTX.trans hXx
 have hpx:PM N Hx:=⟨hG.nm,hG.pl⟩
 have hNb:=hG.big
 have hXlt:=hpX.lt
 have hwk:IntKind.i64.wrap ((k:Int) + 1)=(k:Int) + 1:=W_in (by omega) (by omega)
 have hvx:=shtV_mono hTx hv
 have hldx:=load103 (hXx _ _ hb0)
 have h81:∀ m,g81 [.agg ⟨[.string s,.slice oa ts.length c]⟩] Hx m=some (iv W,Hx,m):=fun m=>by
   simp only [g81,hvx,hWI]
 refine E.seq (E.seq (E.reg hr (by simp [-loadA,hldx,h81]; rfl) ?_))
 by_cases hkW:k < W
 · refine E.cond (t:=true) (by simp; omega) (fun _=>?_) (fun h=>by cases h)
   refine E.skip (E.seq ?_)
   refine E.block (E.seq ?_)
   obtain ⟨qi,ri,hq,hri,hqI,hrI,hvl⟩:=velA_ix (l:=l) (t:=k) ⟨by omega,by omega⟩ hso.evr hrl hbad (by omega)
   have hvr:=hso.vel _ (List.getElem_mem hri)
   obtain ⟨ra',rfl,hra1,hra2⟩:=hrrow qi hq
   obtain ⟨fa',rfl,hfa1,hfa2⟩:=hfrow ri hri
   obtain ⟨vl,hvle⟩:∃ x,velA l rl e k=x:=⟨_,rfl⟩
   rw [hvl,hvle] at hvr hfa2
   rw [hrI] at hra2
   have hra3:=hTx.cell hra2
   have hfa3:=hTx.cell hfa2
   have hwq:IntKind.i64.wrap (qi:Int)=(qi:Int):=W_in (by omega) (by omega)
   have hdq:(k:Int).tdiv e=(qi:Int):=by rw [Int.tdiv_eq_ediv_of_nonneg (by omega),hqI]
   have he0':e ≠ 0:=by have:=hso.evr; omega
   have z0:cellA Hx (n + 1) 0=some (.slice (some fa') l.length fc):=by rw [cellA_eq,hXx _ _ hb1]; rfl
   have z2:cellA Hx (n + 1) 2=some (iv st):=by rw [cellA_eq,hXx _ _ hb1]; rfl
   have z3:cellA Hx (n + 1) 3=some (iv e):=by rw [cellA_eq,hXx _ _ hb1]; rfl
   have hnx:=hpx.nm
   have b1:=lt_cell hnx hra3
   have b2:=lt_cell hnx hfa3
   have b4:n + 1 < N:=by omega
   refine E.drawU mixed hr0 [] [] [1,5,8,10] (by kernel_rfl) (by simp [-cellA,-readA,-flat,cellA_read,hnx,z0,z3,bin_quo he0',hdq,hwq,hra1,hra3,hfa1,hfa3,hq,hri,b1,b2,b4]; rfl) ?_
   refine E.seq ?_
   obtain ⟨LV,hLV⟩:∃ x,livL ts k vl st ts.length=x:=⟨_,rfl⟩
   have hLVlen:LV.length ≤ ts.length:=by rw [← hLV]; exact livL_len _ _ _ _ _
   have hhd:hdsOk ts:=hok.hd
   have h67:∀ m,g67 [.agg ⟨[.string s,.slice oa ts.length c]⟩,iv k,iv vl,iv st] Hx m=some (outS m LV.length,outSB m 3 1 LV.length (LV.map iv) ++ Hx,m + 1):=fun m=>by
     simp only [g67,hvx]
     rw [if_pos ⟨hhd,⟨by omega,by omega⟩,hvr,hso.str⟩,hLV]
   have hld3:loadA Tryz.prog 3 Hx (.pointer (some ⟨n + 1,2,none⟩))=some (iv st):=by simp [-cellA,z2]
   refine E.reg hr (by simp [-loadA,-cellA,hldx,h67,hld3]; rfl) ?_
   obtain ⟨Hl,hHl⟩:∃ X,outSB N 3 1 LV.length (LV.map iv) ++ Hx=X:=⟨_,rfl⟩
   have hxl:Sub Hx Hl:=by
     rw [← hHl,outSB]
     split
     · exact Sub.refl _
     · exact hpx.sub
   have hpl:PM (N + 1) Hl:=by
     rw [← hHl,outSB]
     split
     · exact hpx.wide (Nat.le_succ _)
     · exact hpx.put rfl
   have hll:LV ≠ [] → hget Hl N=some (.ext (LV.map iv) 3 1):=fun h=>by
     rw [← hHl,outSB,if_neg fun e=>h (List.length_eq_zero_iff.1 e)]
     simp
   rw [hHl]
   refine E.seq (E.reg hr0 (by simp; rfl) ?_)
   refine E.seq (E.seq (E.reg hr0 (by simp; rfl) ?_))
   refine E.block (E.loop ?_)
   refine EL.ind (fun x:Nat × Heap × Nat=>{ fr:=fr76b n (.slice (some ra') rl.length rc) o k vl N LV.length (sumI (smpN ts k vl) (LV.take x.1)) x.1,sz:=90,H:=x.2.1,n:=x.2.2,marks:=[],vs:=vs76 }) (fun x=>LV.length - x.1) (fun x=>x.1 ≤ LV.length ∧ Sub Hl x.2.1 ∧ PM x.2.2 x.2.1 ∧ N + 1 ≤ x.2.2) (0,Hl,N + 1) (.keep rfl rfl rfl (by simp [sumI]) (Sub.refl _)) ⟨Nat.zero_le _,Sub.refl _,hpl,Nat.le_refl _⟩ (fun _=>rfl) ?_
   rintro ⟨j,Hy,M⟩ ⟨hj,hSy,hpy,hNM⟩
   dsimp only at hj hSy hpy hNM ⊢
   have hwj:IntKind.i64.wrap ((j:Int) + 1)=(j:Int) + 1:=W_in (by omega) (by omega)
   obtain ⟨ol,cl,hoL⟩:∃ oa c,outS N LV.length = .slice oa LV.length c:=by
     unfold outS
     split
     · exact ⟨_,_,by rw [‹LV.length=0›]⟩
     · exact ⟨_,_,rfl⟩
   have hxy:=hxl.trans hSy
   have hTy:=hTx.trans hxy
   have hXy:=hXx.trans hxy
   refine E.seq (E.seq (E.reg hr0 (by simp [hoL]; rfl) ?_))
   by_cases hjl:j < LV.length
   · refine E.cond (t:=true) (by simp [hjl]) (fun _=>?_) (fun h=>by cases h)
     have hLV0:LV ≠ []:=fun e=>by rw [e] at hjl; cases hjl
     have hLn0:LV.length ≠ 0:=by omega
     obtain ⟨i,hi,hxi,hlv⟩:=livL_mem ts.length (by rw [hLV]; exact List.getElem_mem hjl)
     have hcj:cellA Hy N j=some (iv i):=by
       rw [cellA_eq,hSy _ _ (hll hLV0)]
       show (LV.map iv)[j]? = _
       rw [List.getElem?_map,List.getElem?_eq_getElem hjl,hxi]
       rfl
     have hoS:outS N LV.length = .slice (some ⟨N,0,some 0⟩) LV.length 0:=outS_ne hLn0
     rw [hoL] at hoS
     injection hoS with hoS1 _ hoS2
     subst hoS1 hoS2
     have hlv2:=hlv
     rw [livB_at hi] at hlv2
     simp only [Bool.and_eq_true,Bool.not_eq_true',decide_eq_true_eq] at hlv2
     obtain ⟨hho,hmW,_⟩:=hlv2
     rw [hWI] at hmW
     have hhdi:=hok.hd _ (List.getElem_mem hi)
     have hob:=(off_bound hhdi).2
     have hin:MvIn k (offV ts[i].hd) vl:=⟨by omega,by omega,hob.1,hob.2,hvr.1,hvr.2⟩
     obtain ⟨mv,hmv⟩:∃ mv,movV k (offV ts[i].hd) vl=mv:=⟨_,rfl⟩
     have hmv0:0 ≤ mv:=by rw [← hmv]; unfold movV; omega
     rw [hmv] at hmW
     have hmlen:(ts[i].smp.length:Int)=W:=by rw [hok.wid _ (List.getElem_mem hi) hho,hWI]
     obtain ⟨p,hp⟩:∃ p:Nat,mv=p:=⟨mv.toNat,by omega⟩
     have hpl':p < ts[i].smp.length:=by omega
     obtain ⟨a,q,rfl,hf,hcs,h8,hq⟩:=htrow i hi
     have hqT:=listV_mono decR_mono hTy hq
     obtain ⟨oq,cq,rfl,hlq,_,hqx⟩:=reaV_form hqT
     obtain ⟨aq,rfl,hfq,hcq⟩:=hqx p hpl'
     have hgb:=hok.good _ (List.getElem_mem hi) _ (List.getElem_mem hpl')
     have hsix:six32 (ts[i].smp[p])=smpN ts k vl (i:Int):=by
       unfold smpN
       rw [Int.toNat_natCast,List.getElem?_eq_getElem hi]
       dsimp only
       rw [hmv,hp,Int.toNat_natCast,List.getD_eq_getElem?_getD,List.getElem?_eq_getElem hpl']
       rfl
     obtain ⟨b,hb⟩:∃ b,ts[i].smp[p]=b:=⟨_,rfl⟩
     rw [hb] at hgb hsix hcq
     obtain ⟨cs,hcse⟩:∃ cs,ts[i].hd.map iv ++ [.bool ts[i].hole,.slice (some aq) ts[i].smp.length cq]=cs:=⟨_,rfl⟩
     have hcsl:cs.length=10:=by rw [← hcse]; simp [h8]
     rw [hcse] at hcs
     have hcsy:=hTy.cells hcs
     have hny:=hpy.nm
     have hpyl:=hpy.pl
     have hny1:namesOk (M + 1) Hy=true:=namesOk_mono (Nat.le_succ _) _ hny
     have c1:cellA Hy n 1=some (.slice (some a) ts.length c):=by rw [cellA_eq,hXy _ _ hb0]; rfl
     have hfo:flat ⟨N,0,some 0⟩=true:=rfl
     have hiI:(i:Int) < ts.length:=by omega
     have m1:n < M:=by omega
     have m2:=lt_cell hny hcj
     have m3:=lt_cells hny hcsy
     have hone:oneL cs=true:=by rw [← hcse,oneL_ivs]; rfl
     have hst:storeA ((M,.cells [iv 0,iv 0,iv 0,iv 0,iv 0,iv 0,iv 0,iv 0,.bool false,.slice none 0 0] 144) :: Hy) M 0 cs=some ((M,.cells cs 144) :: Hy):=store_fresh (by rw [hcsl]; rfl)
     refine E.skip (E.seq ?_)
     refine E.block (E.seq ?_)
     refine E.drawU mixed hr0 [9] [8,9] [1,5,7,8,9] (by kernel_rfl) (by simp [-cellA,-cellsA,-flat,-readA,-storeA,cellA_read,cellsA_read,hny,c1,hoL,hcj,hcsy,hjl,hiI,hf,hfo,m1,m2,m3,hst,hone,hcsl,hny1]; rfl) ?_
     obtain ⟨Z,hZ⟩:∃ Z,(M,Blk.cells cs 144) :: Hy=Z:=⟨_,rfl⟩
     have hpZ:PM (M + 1) Z:=by rw [← hZ]; exact hpy.put rfl
     have hyZ:Sub Hy Z:=by rw [← hZ]; exact hpy.sub
     have hZM:hget Z M=some (.cells cs 144):=by rw [← hZ,hget_cons,if_pos rfl]
     rw [hZ]
     have c9:cellA Z M 9=some (.slice (some aq) ts[i].smp.length cq):=by
       rw [cellA_eq,hZM]
       show cs[9]? = _
       rw [← hcse,List.getElem?_append_right (by rw [List.length_map,h8]; omega),List.length_map,h8]
       rfl
     have cZ:cellsA Z M 0 10=some cs:=by
       rw [cellsA_eq,hZM]
       show (if 0 + 10 ≤ cs.length then some ((cs.drop 0).take 10) else none)=_
       rw [if_pos (by omega),List.drop_zero,List.take_of_length_le (by omega)]
     have hcqZ:=hyZ.cell hcq
     have h139:∀ m,g139 [.agg ⟨cs⟩] (frzH Z) m=some (iv (offV ts[i].hd),frzH Z,m):=fun m=>by
       have:=decT_mk (H:=Z) (t:=ts[i]) h8 (listV_mono decR_mono hyZ hqT)
       rw [← decT_frz,hcse] at this
       simp only [g139,this,hhdi,if_true]
     have h19:∀ m,g19 [iv k,iv (offV ts[i].hd),iv vl] (frzH Z) m=some (iv mv,frzH Z,m):=fun m=>by rw [← hmv]; exact if_pos hin
     have h141:∀ m,g141 [rv b] Z m=some (iv (six32 b),Z,m):=fun m=>if_pos hgb
     have hZn:=hpZ.nm
     have hZp:=hpZ.pl
     have hZt:=takeNew_frz hZn
     have q1:M < M + 1:=by omega
     have q2:=lt_cell hZn hcqZ
     have hpI:(p:Int) < ts[i].smp.length:=by omega
     have hts:LV.take (j + 1)=LV.take j ++ [(i:Int)]:=by rw [List.take_succ_eq_append_getElem hjl,hxi]
     have hxa:=smpN_abs hok k vl (i:Int)
     have htl:(LV.take j).length ≤ 64:=by rw [List.length_take]; omega
     have hsa:=sumI_abs (f:=smpN ts k vl) (M:=16384) (LV.take j) fun x _=>smpN_abs hok k vl x
     have e1:16384 * (LV.take j).length ≤ 16384 * 64:=Nat.mul_le_mul_left _ htl
     have hs1:sumI (smpN ts k vl) (LV.take (j + 1))=sumI (smpN ts k vl) (LV.take j) + smpN ts k vl i:=by rw [hts,sumI_snoc]
     obtain ⟨S1,hS1⟩:∃ x,sumI (smpN ts k vl) (LV.take j)=x:=⟨_,rfl⟩
     obtain ⟨x,hx⟩:∃ x,smpN ts k vl i=x:=⟨_,rfl⟩
     rw [hS1,hx] at hs1
     rw [hS1] at hsa
     rw [hx] at hxa hsix
     rw [hsix] at h141
     rw [hp] at h19
     have w1:IntKind.i64.wrap (S1 + x)=S1 + x:=W_in (by omega) (by omega)
     rw [hS1]
     refine E.drawU mixed hr [10] [5,7,10] [2,4,5,7,9,10] (by kernel_rfl) (by simp [-cellA,-cellsA,-flat,-readA,cellA_read,cellsA_read,hZn,hZp,hZt,c9,cZ,hcqZ,hpI,hfq,q1,q2,h139,h19,h141,w1]; rfl) ?_
     refine E.reg hr0 (by simp [hwj]; rfl) ?_
     exact ⟨(j + 1,Z,M + 1),.keep rfl rfl rfl (by simp [hs1]) (Sub.refl _),⟨hjl,hSy.trans hyZ,hpZ,by dsimp only; omega⟩,by dsimp only; omega⟩
   · have hj':j=LV.length:=by omega
     subst hj'
     refine E.cond (t:=false) (by simp) (fun h=>by cases h) (fun _=>?_)
     refine E.exit ?_
     rw [List.take_length]
     have hGw:=GL.wide hG hxy hpy (by omega)
     have hstk:stkB ts l rl st e k=sampB (flrV (sumI (smpN ts k vl) LV) (max 1 (LV.length:Nat))):=by unfold stkB; rw [hvle]; unfold livA; rw [hLV]
     have hsn:(stkL ts l rl st e k).map rv ++ [rv (stkB ts l rl st e k)]=(stkL ts l rl st e (k + 1)).map rv:=by rw [stkL_succ,List.map_append]; rfl
     obtain ⟨b,hb⟩:∃ b,stkB ts l rl st e k=b:=⟨_,rfl⟩
     rw [hb] at hstk hsn
     obtain ⟨Hz,happ,hGz⟩:=hGw.app (P:=Tryz.prog) (st:=126) (i:=Tryz.t145) (new:=[rv b]) hXlt Tryz.underlying126 inf145' sz145i zo145 by145 (by omega) rfl (by omega) rfl rfl
     rw [hsn] at hGz
     refine E.seq (E.reg hr0 (by simp [hoL]; rfl) ?_)
     by_cases hL0:LV.length=0
     · have hb0':b=0:=by
         have:LV=[]:=List.length_eq_zero_iff.1 hL0
         rw [hstk,this]
         exact samp_zero
       subst hb0'
       refine E.cond (t:=true) (by simpa using hL0) (fun _=>?_) (fun h=>by cases h)
       refine E.reg hr0 (by simp [-builtinA,happ]; rfl) ?_
       refine E.reg hr0 (by simp [hwk]; rfl) ?_
       exact ⟨(k + 1,Hz,M + 1 + 1,M + 1),.keep rfl rfl rfl (by simp) (Sub.refl _),⟨hkW,hGz⟩,by dsimp only; omega⟩
     · have hsa:=sumI_abs (f:=smpN ts k vl) (M:=16384) LV fun x _=>smpN_abs hok k vl x
       have e1:16384 * LV.length ≤ 16384 * 64:=Nat.mul_le_mul_left _ (by omega)
       rw [show max (1:Int) (LV.length:Nat)=(LV.length:Int) by omega] at hstk
       obtain ⟨S1,hS1⟩:∃ x,sumI (smpN ts k vl) LV=x:=⟨_,rfl⟩
       rw [hS1] at hsa hstk
       rw [hS1]
       have hfb:=flr_b (x:=S1) (c:=(LV.length:Int)) (by omega) (M:=1048576) (by decide) ⟨by omega,by omega⟩
       obtain ⟨y,hy⟩:∃ y,flrV S1 (LV.length:Int)=y:=⟨_,rfl⟩
       rw [hy] at hfb hstk
       have h151:∀ Z m,g151 [iv S1,iv (LV.length:Nat)] Z m=some (iv y,Z,m):=fun Z m=>by
         simp only [g151]
         rw [if_pos ⟨⟨by omega,by omega⟩,by omega,by omega⟩,hy]
       have h150:∀ Z m,g150 [iv y] Z m=some (rv b,Z,m):=fun Z m=>by
         simp only [g150]
         rw [if_pos (by omega),hstk]
       refine E.cond (t:=false) (by simpa using hL0) (fun h=>by cases h) (fun _=>?_)
       have hbl:∀ m,builtinA Tryz.prog .len #[24] Hy m [.slice ol LV.length cl]=some (iv LV.length,Hy,m):=fun _=>by simp
       refine E.reg hr (by simp [hoL,-builtinA,hbl,h151,h150,happ]; rfl) ?_
       refine E.reg hr0 (by simp [hwk]; rfl) ?_
       exact ⟨(k + 1,Hz,M + 1 + 1,M + 1),.keep rfl rfl rfl (by simp) (Sub.refl _),⟨hkW,hGz⟩,by dsimp only; omega⟩
 · have hkW':k=W:=by omega
   subst hkW'
   refine E.cond (t:=false) (by simp) (fun h=>by cases h) (fun _=>?_)
   refine E.exit ?_
   refine E.seq (E.reg hr0 (by simp; rfl) ?_)
   refine E.ret ?_
   rw [hPE,hPL]
   refine outM.ret Hx rfl (vs:=[outS o k,iv 0]) (by simp [resultsA,resultA,Tryz.results76]) ⟨outS o k,rfl,hTx,hG.nm,by dsimp only; omega,fun h G=>?_,fun G _ hG'=>?_⟩
   · by_cases hk0:k=0
     · subst hk0; rfl
     · rw [outS_ne hk0] at h; cases h
   · have:=rea_view (G:=G) (o:=o) (bs:=stkL ts l rl st e k) (fun h0=>hG' _ _ (by have:=hG.low; omega) rfl (hG.out fun e=>h0 (by subst e; rfl)).1) (by rw [stkL_len]; omega)
     rw [stkL_len] at this
     exact this
@[simp] theorem run_next {P:Program} {r:Rec} {st:St} {dst ty ps af g} {it:Operand}:runOp P r ⟨dst,.next it true,ty,ps,af,g⟩ st=opNext P it st.fr st.H st.n:=rfl
section
variable {P:Program} {t:TypeId} {x y:Operand} {H:Heap} {n:Nat} {a b:List UInt8}
variable {i j:Int}
@[simp] theorem bin_lss32:binV P .lss t x y (.int .i32 i) (.int .i32 j) H n=some (.bool (decide (i < j)),H,n):=rfl
@[simp] theorem bin_gtr32:binV P .gtr t x y (.int .i32 i) (.int .i32 j) H n=some (.bool (decide (j < i)),H,n):=rfl
@[simp] theorem bin_sub32:binV P .sub t x y (.int .i32 i) (.int .i32 j) H n=some (.int .i32 (IntKind.i32.wrap (i - j)),H,n):=rfl
end
attribute [simp] Tryz.t9
@[simp] theorem wrap1:IntKind.i64.wrap 1=1:=W_in (by omega) (by omega)
@[simp] theorem inf100s:Tryz.prog.info? 100=some Tryz.t100:=by kernel_rfl
attribute [simp] Tryz.t100
theorem build100s {fr:Fr} {H:Heap} {n:Nat} {x y z:Operand} {a b c:Int} (hx:evO Tryz.prog fr x=some (iv a)) (hy:evO Tryz.prog fr y=some (iv b)) (hz:evO Tryz.prog fr z=some (iv c)):opBuild Tryz.prog 100 #[(0,x),(1,y),(2,z)] fr H n=some (.agg #[iv a,iv b,iv c],H,n):=by
 unfold opBuild
 simp only [evPs,hx,hy,hz]
 kernel_rfl
attribute [simp] run_vcall_tmp vcallF target
section
variable {P:Program}
theorem runP_bind {α β:Type} {P:Program} (a:Sem α) (g:α → Sem β):runP P (Sem.bind a g)=(runP P a).bind fun x=>runP P (g x):=by
 induction a with
 | program k ih=>exact ih P
 | mark m k ih=>exact ih
 | _=>rfl
theorem runP_bind' {α β:Type} (a:Sem α) (g:α → Sem β):runP P (a >>= g)=(runP P a).bind fun x=>runP P (g x):=runP_bind a g
theorem runP_pure {α:Type} (a:α):runP P (pure a:Sem α)=some a:=rfl
theorem runP_program:runP P program=some P:=rfl
theorem runP_und' {t:TypeId} {d:TypeDesc} (h:P.underlying t=some d):runP P (underlying t)=some d:=by
 show runP P (match P.underlying t with | some d=>_ | none=>_)=_
 rw [h]
 rfl
theorem runP_ite {α:Type} {c:Prop} [Decidable c] (a b:Sem α):runP P (if c then a else b)=if c then runP P a else runP P b:=by
 split <;> rfl
theorem runP_eqStruct (d : Nat) {t : TypeId} {fs : Array Field} (xs ys : Array Value) (ht : P.underlying t = some (.struct fs)) (hp : P.stoodInHeld t = false)
   (h:∀ f ∈ fs.toList,∃ a b,runP P (part f.type xs f.offset)=some a ∧ runP P (part f.type ys f.offset)=some b ∧ runP P (Op.equalIn d f.type a b)=some true):runP P (Op.equalIn (d + 1) t (.agg xs) (.agg ys))=some true:=by
 simp only [Op.equalIn,runP_bind',runP_und' ht,Option.bind_some,runP_program,hp,Bool.false_eq_true,if_false]
 rw [← Array.forIn_toList]
 generalize fs.toList=fl at h
 induction fl with
 | nil=>rfl
 | cons f fl ih=>
   obtain ⟨a,b,h1,h2,h3⟩:=h f (List.mem_cons_self ..)
   have ih:=ih fun f hf=>h f (List.mem_cons_of_mem _ hf)
   simp only [List.forIn_cons,runP_bind',runP_ite]
   split
   · simp only [h1,h2,h3,Option.bind_some,Bool.not_true,Bool.false_eq_true,if_false,runP_pure]
     exact ih
   · simp only [runP_pure,Option.bind_some]
     exact ih
theorem runP_eqInt (d:Nat) {t:TypeId} {k k':IntKind} (n:Int) (h:P.underlying t=some (.int k')):runP P (Op.equalIn (d + 1) t (.int k n) (.int k n))=some true:=by
 simp only [Op.equalIn,runP_bind',runP_und' h,Option.bind_some,if_true,runP_pure,beq_self_eq_true]
end
def S80 (l:List Pk) (o c:Nat):Nat → St
 | 0=>{ fr:=[(3,.slice none 0 0),(6,.slice (some ⟨9,o,none⟩) l.length c),(7,iv l.length),(8,iv 0)],sz:=18,H:=[(9,.inp o (pcs l))],n:=10,marks:=[],vs:=[3,6,7,8] }
 | i + 1=>{ fr:=[(3,.slice (some ⟨10,0,some 0⟩) (i + 1) 0),(6,.slice (some ⟨9,o,none⟩) l.length c),(7,iv l.length),(8,iv (i + 1:Nat))],sz:=18,H:=[(10,.ext (pcs (l.take (i + 1))) 100 3),(9,.inp o (pcs l))],n:=11,marks:=[],vs:=[3,6,7,8] }
def tdQ (l:List Pk) (v:Value) (H:Heap):Prop:=∃ m,v = .slice (some ⟨m,0,some 0⟩) l.length 0 ∧ hget H m=some (.ext (pcs l) 100 3) ∧ 10 ≤ m
set_option maxRecDepth 100000 in
theorem w80 (l:List Pk) (o c:Nat) (hne:l ≠ []) (hl:l.length ≤ 4096):∃ u H1 n1 H2,AC Tryz.prog 80 [.slice (some ⟨9,o,none⟩) l.length c] [(9,.inp o (pcs l))] 10 u H1 n1 ∧ tdQ l u H2 ∧ (af u=false → H1=H2):=by
 have hr:=recT_ok (P:=Tryz.prog) (l:=[]) (by simp)
 have hpos:0 < l.length:=List.length_pos_iff.2 hne
 refine AC.out Tryz.func80 rfl (by kernel_rfl) rfl [3,6,7,8] ?_
 refine E.seq (E.reg hr (by simp; rfl) ?_)
 refine E.seq (E.reg hr (by simp; rfl) ?_)
 refine E.seq (E.seq (E.reg hr (by simp; rfl) ?_))
 refine E.block (E.loop ?_)
 refine EL.ind (S80 l o c) (fun i=>l.length - i) (fun i=>i ≤ l.length) 0 (.less rfl rfl rfl (by simp [S80]) (by simp [S80])) (Nat.zero_le _) (fun i=>by cases i <;> rfl) ?_
 intro i hi
 rcases i with _ | i
 · have hw:IntKind.i64.wrap 1=1:=W_in (by omega) (by omega)
   refine E.seq (E.reg hr (by simp [S80]; rfl) ?_)
   refine E.seq ?_
   refine E.cond (by rfl) (fun h=>?_) (fun h=>?_)
   · simp at h
     have hx:=pcs_take hpos
     have hts:pcs (l.take 1)=l[0].cells:=by rw [pcs_succ hpos]; simp [pcs]
     have h7:3 ≤ l.length * 3:=by omega
     rw [Nat.zero_mul,List.drop_zero] at hx
     refine E.skip (E.seq ?_)
     refine E.block (E.seq (E.reg hr (by simp [hx,hpos,h7,Pk.cells]; rfl) ?_))
     refine E.reg hr (by simp; rfl) ?_
     refine E.reg hr (by simp [hw]; rfl) ?_
     exact ⟨1,Leads.ren [12] rfl rfl rfl ⟨rfl,rfl⟩ (by simp [S80]) (by simp [S80,hts]),by omega,by dsimp only; omega⟩
   · simp at h
     exact absurd h hne
 · have hw:IntKind.i64.wrap ((i:Int) + 1 + 1)=(i:Int) + 1 + 1:=W_in (by omega) (by omega)
   have hlen:(pcs (l.take (i + 1))).length=(i + 1) * 3:=by rw [pcs_length,List.length_take,Nat.min_eq_left hi]
   have ht:List.take ((i + 1) * 3) (pcs (l.take (i + 1)))=pcs (l.take (i + 1)):=List.take_of_length_le (by omega)
   refine E.seq (E.reg hr (by simp [S80]; rfl) ?_)
   refine E.seq ?_
   refine E.cond (by rfl) (fun h=>?_) (fun h=>?_)
   · simp at h
     have hlt:i + 1 < l.length:=by omega
     have hltI:(i:Int) + 1 < l.length:=by omega
     have hx:=pcs_take hlt
     have hts:=pcs_succ hlt
     have h7:(i + 1) * 3 + 3 ≤ l.length * 3:=by omega
     have hno:¬ (i + 1 + 1) * 3 ≤ (i + 1) * 3:=by omega
     have hsm:(i + 1 + 1) * 24 ≤ 1099511627776 ∧ (i + 1 + 1) * 3 ≤ 1099511627776 ∧ i + 1 + 1 ≤ 1099511627776:=by omega
     refine E.skip (E.seq ?_)
     refine E.block (E.seq (E.reg hr (by simp [hx,hltI,h7,Pk.cells]; rfl) ?_))
     refine E.reg hr (by simp [hsm,ht,hlen,hno]; rfl) ?_
     refine E.reg hr (by simp [hw]; rfl) ?_
     exact ⟨i + 2,Leads.ren [13] rfl rfl rfl ⟨rfl,rfl⟩ (by simp [S80]) (by simp [S80,hts]),by omega,by dsimp only; omega⟩
   · simp at h
     have hal:l.take (i + 1)=l:=List.take_of_length_le (by omega)
     have hll:l.length=i + 1:=by omega
     refine E.exit ?_
     refine E.seq (E.reg hr (by simp; rfl) ?_)
     refine E.ret ?_
     refine outK.ret rfl rfl ?_
     simp [tdQ,hal,hll]
theorem w80e (o c:Nat):AC Tryz.prog 80 [.slice (some ⟨9,o,none⟩) 0 c] [(9,.inp o (pcs []))] 10 (.slice none 0 0) [(9,.inp o (pcs []))] 10:=by
 have hr:=recT_ok (P:=Tryz.prog) (l:=[]) (by simp)
 refine AC.pure Tryz.func80 rfl (by kernel_rfl) rfl [3,6,7,8] rfl ?_
 refine E.seq (E.reg hr (by simp; rfl) ?_)
 refine E.seq (E.reg hr (by simp; rfl) ?_)
 refine E.seq (E.seq (E.reg hr (by simp; rfl) ?_))
 refine E.block (E.loop ?_)
 refine EL.step ?_
 refine E.seq (E.reg hr (by simp; rfl) ?_)
 refine E.seq ?_
 refine E.cond (by rfl) (fun h=>?_) (fun h=>?_)
 · simp at h
 refine E.exit ?_
 refine E.seq (E.reg hr (by simp; rfl) ?_)
 refine E.ret ?_
 exact pureK.ret rfl rfl (by simp) (by repeat first | exact sub_refl _ | refine sub_cons rfl ?_)
theorem w80n:AC Tryz.prog 80 [.slice none 0 0] [] 9 (.slice none 0 0) [] 9:=by
 have hr:=recT_ok (P:=Tryz.prog) (l:=[]) (by simp)
 refine AC.pure Tryz.func80 rfl (by kernel_rfl) rfl [3,6,7,8] rfl ?_
 refine E.seq (E.reg hr (by simp; rfl) ?_)
 refine E.seq (E.reg hr (by simp; rfl) ?_)
 refine E.seq (E.seq (E.reg hr (by simp; rfl) ?_))
 refine E.block (E.loop ?_)
 refine EL.step ?_
 refine E.seq (E.reg hr (by simp; rfl) ?_)
 refine E.seq ?_
 refine E.cond (by rfl) (fun h=>?_) (fun h=>?_)
 · simp at h
 refine E.exit ?_
 refine E.seq (E.reg hr (by simp; rfl) ?_)
 refine E.ret ?_
 exact pureK.ret rfl rfl (by simp) (by repeat first | exact sub_refl _ | refine sub_cons rfl ?_)
def g80 (args:List Value) (H:Heap) (n:Nat):R:=match args with
 | [v]=>match pksR H v with
   | some l=>if l=[] then some (.slice none 0 0,H,n) else if l.length ≤ 4096 then some (.slice (some ⟨n,0,some 0⟩) l.length 0,(n,.ext (pcs l) 100 3) :: H,n + 1) else none
   | none=>none
 | _=>none
theorem ok80:EntOk Tryz.prog (80,g80):=by
 intro args H n v H' n' h'
 simp only [g80] at h'
 split at h'
 · rename_i x
   split at h'
   · rename_i l hx
     split at h'
     · rename_i hl
       subst hl
       injection h' with h'; injection h' with e1 e2; injection e2 with e2 e3; subst e1 e2 e3
       unfold pksR at hx
       split at hx
       · exact AC.liftP (by simp) (Part.plain (by simp) [] (by simp [Seen]) gsz ⟨_,_,w80n⟩)
       · obtain ⟨hf,hc,hlen,hlt⟩:=pksAt_ok hx
         subst hlen
         exact AC.liftP (by simp) (Part.one (fun s=>[s]) (by intro φ φ0 s s0 h; simp [denL,h]) (by intro p s h; exact ⟨h,trivial⟩) hf hc (afL_pcs []) [] (by simp [Seen]) gsz fun c=>⟨_,_,w80e _ c⟩)
       · cases hx
     rename_i hne
     split at h'
     · rename_i hle
       injection h' with h'; injection h' with e1 e2; injection e2 with e2 e3; subst e1 e2 e3
       unfold pksR at hx
       split at hx
       · injection hx with hx; exact absurd hx.symm hne
       · obtain ⟨hf,hc,hlen,hlt⟩:=pksAt_ok hx
         subst hlen
         refine AC.liftF (names_sx _ _) (.inr ⟨_,_,_,rfl,afL_pcs l⟩) (Part.one (fun s=>[s]) (by intro φ φ0 s s0 h; simp [denL,h]) (by intro p s h; exact ⟨h,trivial⟩) hf hc (afL_pcs l) [] (by simp [Seen]) gsz fun c=>?_)
         obtain ⟨u,H1,n1,H2,hAC,hq,hh⟩:=w80 l _ c hne hle
         obtain ⟨m,hv,hm,hle⟩:=hq
         subst hv
         have:=hh rfl
         subst this
         exact ⟨m,_,_,hle,hm,hAC⟩
       · cases hx
     · cases h'
   · cases h'
 · cases h'
theorem neq100 {x y:Operand} {H:Heap} {n:Nat} (a b c:Int):binV Tryz.prog .neq 100 x y (.agg ⟨[iv a,iv b,iv c]⟩) (.agg ⟨[iv a,iv b,iv c]⟩) H n=some (.bool false,H,n):=by
 have he:runP Tryz.prog (Op.equalIn 10000 100 (.agg ⟨[iv a,iv b,iv c]⟩) (.agg ⟨[iv a,iv b,iv c]⟩))=some true:=by
   refine runP_eqStruct 9999 _ _ Tryz.underlying100 (by kernel_rfl) fun f hf=>?_
   simp at hf
   rcases hf with rfl | rfl | rfl
   · exact ⟨iv a,iv a,by kernel_rfl,by kernel_rfl,runP_eqInt 9998 a Tryz.underlying3⟩
   · exact ⟨iv b,iv b,by kernel_rfl,by kernel_rfl,runP_eqInt 9998 b Tryz.underlying3⟩
   · exact ⟨iv c,iv c,by kernel_rfl,by kernel_rfl,runP_eqInt 9998 c Tryz.underlying3⟩
 have h:runP Tryz.prog (do eqGuard .neq 100 x y (.agg ⟨[iv a,iv b,iv c]⟩) (.agg ⟨[iv a,iv b,iv c]⟩); binOp .neq 100 (.agg ⟨[iv a,iv b,iv c]⟩) (.agg ⟨[iv a,iv b,iv c]⟩))=some (.bool false):=by
   rw [runP_bind']
   have h1:runP Tryz.prog (eqGuard .neq 100 x y (.agg ⟨[iv a,iv b,iv c]⟩) (.agg ⟨[iv a,iv b,iv c]⟩))=some ():=by kernel_rfl
   rw [h1,Option.bind_some]
   show runP Tryz.prog (Op.equalIn 10000 100 (.agg ⟨[iv a,iv b,iv c]⟩) (.agg ⟨[iv a,iv b,iv c]⟩) >>= fun b=>pure (Value.bool (!b)))=_
   rw [runP_bind',he]
   rfl
 have ha:afq (.agg ⟨[iv a,iv b,iv c]⟩)=true:=rfl
 unfold binV
 rw [ha]
 simp only [Bool.and_self,if_true]
 rw [h]
 rfl
abbrev inpP (b o k c:Nat):Value:=.slice (some ⟨b,o,none⟩) k c
theorem w79nn:AC Tryz.prog 79 [.slice none 0 0,.slice none 0 0] [] 9 (.bool true) [] 9:=by
 have hr:=recT_ok (P:=Tryz.prog) (l:=[]) (by simp)
 refine AC.pure Tryz.func79 rfl (by kernel_rfl) rfl [0,1,5] rfl ?_
 refine E.seq (E.reg hr (by simp; rfl) ?_)
 refine E.seq (E.seq (E.reg hr (by simp; rfl) ?_))
 refine E.cond (t:=false) (by rfl) (fun h=>by cases h) (fun _=>?_)
 refine E.skip (E.seq ?_)
 refine E.seq (E.reg hr (by simp; rfl) ?_)
 refine E.block (E.loop ?_)
 refine EL.step ?_
 refine E.seq (E.seq (E.reg hr (by simp; rfl) ?_))
 refine E.cond (t:=false) (by rfl) (fun h=>by cases h) (fun _=>?_)
 refine E.exit ?_
 refine E.seq (E.reg hr (by simp; rfl) ?_)
 refine E.ret ?_
 exact pureK.ret rfl rfl (by simp) (by repeat first | exact sub_refl _ | refine sub_cons rfl ?_)
theorem w79ne (o c:Nat):AC Tryz.prog 79 [.slice none 0 0,inpP 9 o 0 c] [(9,.inp o (pcs []))] 10 (.bool true) [(9,.inp o (pcs []))] 10:=by
 have hr:=recT_ok (P:=Tryz.prog) (l:=[]) (by simp)
 refine AC.pure Tryz.func79 rfl (by kernel_rfl) rfl [0,1,5] rfl ?_
 refine E.seq (E.reg hr (by simp; rfl) ?_)
 refine E.seq (E.seq (E.reg hr (by simp; rfl) ?_))
 refine E.cond (t:=false) (by rfl) (fun h=>by cases h) (fun _=>?_)
 refine E.skip (E.seq ?_)
 refine E.seq (E.reg hr (by simp; rfl) ?_)
 refine E.block (E.loop ?_)
 refine EL.step ?_
 refine E.seq (E.seq (E.reg hr (by simp; rfl) ?_))
 refine E.cond (t:=false) (by rfl) (fun h=>by cases h) (fun _=>?_)
 refine E.exit ?_
 refine E.seq (E.reg hr (by simp; rfl) ?_)
 refine E.ret ?_
 exact pureK.ret rfl rfl (by simp) (by repeat first | exact sub_refl _ | refine sub_cons rfl ?_)
set_option maxHeartbeats 4000000 in
set_option maxRecDepth 100000 in
theorem w79 (l:List Pk) (o c o2 c2:Nat) (hl:l.length < 2 ^ 63):AC Tryz.prog 79 [inpP 9 o l.length c,inpP 10 o2 l.length c2] [(10,.inp o2 (pcs l)),(9,.inp o (pcs l))] 11 (.bool true) [(10,.inp o2 (pcs l)),(9,.inp o (pcs l))] 11:=by
 have hr:=recT_ok (P:=Tryz.prog) (l:=[]) (by simp)
 refine AC.pure Tryz.func79 rfl (by kernel_rfl) rfl [0,1,5] rfl ?_
 refine E.seq (E.reg hr (by simp; rfl) ?_)
 refine E.seq (E.seq (E.reg hr (by simp; rfl) ?_))
 refine E.cond (t:=false) (by rfl) (fun h=>by cases h) (fun _=>?_)
 refine E.skip (E.seq ?_)
 refine E.seq (E.reg hr (by simp; rfl) ?_)
 refine E.block (E.loop ?_)
 refine EL.ind (fun i:Nat=>{ fr:=[(0,inpP 9 o l.length c),(1,inpP 10 o2 l.length c2),(5,iv i)],sz:=26,H:=[(10,.inp o2 (pcs l)),(9,.inp o (pcs l))],n:=11,marks:=[],vs:=[0,1,5] }) (fun i=>l.length - i) (fun i=>i ≤ l.length) 0 (.less rfl rfl rfl (by simp) (by simp)) (Nat.zero_le _) (fun _=>rfl) ?_
 intro i hi
 refine E.seq (E.seq (E.reg hr (by simp; rfl) ?_))
 refine E.cond (by rfl) (fun h=>?_) (fun h=>?_)
 · simp at h
   have hlI:(i:Int) < l.length:=by omega
   have hw:IntKind.i64.wrap ((i:Int) + 1)=(i:Int) + 1:=W_in (by omega) (by omega)
   have hx:=pcs_take h
   obtain ⟨p,hp⟩:∃ p,p=l[i]:=⟨_,rfl⟩
   rw [← hp] at hx
   obtain ⟨t,q,e⟩:=p
   have h3:i * 3 + 3 ≤ l.length * 3:=by omega
   refine E.skip (E.seq ?_)
   refine E.block (E.seq ?_)
   refine E.drawC mixed hr [] [] [3,7] (by kernel_rfl) (by simp [hlI,h,h3,hx,neq100]; rfl) ?_
   refine E.cond (t:=false) (by rfl) (fun h=>by cases h) (fun _=>?_)
   refine E.skip (E.reg hr (by simp [hw]; rfl) ?_)
   exact ⟨i + 1,.less rfl rfl rfl (by simp) (by simp),by dsimp only; omega,by dsimp only; omega⟩
 · simp at h
   refine E.exit ?_
   refine E.seq (E.reg hr (by simp; rfl) ?_)
   refine E.ret ?_
   exact pureK.ret rfl rfl (by simp) (by repeat first | exact sub_refl _ | refine sub_cons rfl ?_)
def alikeP (H:Heap) (s u:Value):Prop:=(s = .slice none 0 0 ∧ u = .slice none 0 0) ∨ (s = .slice none 0 0 ∧ ∃ a c,u = .slice (some a) 0 c ∧ pksAt H a 0=some []) ∨
 ∃ (l:List Pk) (a:Addr) (c:Nat) (a2:Addr) (c2:Nat),s = .slice (some a) l.length c ∧ u = .slice (some a2) l.length c2 ∧ pksAt H a l.length=some l ∧ pksAt H a2 l.length=some l
open Classical in
noncomputable def g79 (args:List Value) (H:Heap) (n:Nat):R:=match args with
 | [s,u]=>if alikeP H s u then some (.bool true,H,n) else none
 | _=>none
theorem ok79:EntOk Tryz.prog (79,g79):=by
 intro args H n v H' n' hh
 simp only [g79] at hh
 split at hh
 · rename_i s u
   split at hh
   · rename_i hc
     injection hh with hh; injection hh with e1 e2; injection e2 with e2 e3; subst e1 e2 e3
     rcases hc with ⟨rfl,rfl⟩ | ⟨rfl,a,c,rfl,ha⟩ | ⟨l,a,c,a2,c2,rfl,rfl,h1,h2⟩
     · exact AC.liftP rfl (Part.plain (by simp) [] (by simp [Seen]) gsz ⟨_,_,w79nn⟩)
     · obtain ⟨hf,hc,hlen,hlt⟩:=pksAt_ok ha
       exact AC.liftP rfl (Part.one (fun x=>[.slice none 0 0,x]) (by intro φ φ0 s s0 h; simp [denL,den,h]) (by intro p s h; exact ⟨by simp [sc],h,trivial⟩) hf hc (afL_pcs []) [] (by simp [Seen]) gsz fun c=>⟨_,_,w79ne _ c⟩)
     · obtain ⟨hf,hc,_,hlt⟩:=pksAt_ok h1
       obtain ⟨hf2,hc2,_,_⟩:=pksAt_ok h2
       exact AC.liftP rfl (Part.two (fun x y=>[x,y]) (by intro φ φ0 s s0 u u0 h1 h2; simp [denL,h1,h2]) (by intro p s u h1 h2; exact ⟨h1,h2,trivial⟩) hf hc (afL_pcs l) hf2 hc2 (afL_pcs l) [] (by simp [Seen]) gsz fun c0 c02=>⟨_,_,w79 l _ c0 _ c02 hlt⟩)
   · cases hh
 · cases hh
def pckA (l rl:List Int) (e d:Int):Nat → List Pk
 | 0=>[]
 | k + 1=>if k=0 then [] else pckA l rl e d k ++ [⟨k * e,l.getD (rl.getD k 0).toNat 0,d⟩]
theorem pckA_len {l rl:List Int} {e d:Int}:∀ k,(pckA l rl e d k).length=k - 1
 | 0=>rfl
 | k + 1=>by
   rw [pckA]
   split
   · rename_i h; subst h; rfl
   · rw [List.length_append,pckA_len k,List.length_singleton]; omega
def pckE (l rl:List Int) (e:Int):Int:=firstV [whenV (decide (64 < (rl.length:Int))) 5,whenV (rl.any (badR l.length)) 10,withinV (((rl.length:Int) - 1) * e) (-e) 1024]
def pckR (l rl:List Int) (e d:Int):List Pk:=if pckE l rl e=0 then pckA l rl e d rl.length else []
theorem row_ix {l rl:List Int} {k:Nat} (hb:rl.any (badR l.length)=false) (hk:k < rl.length):∃ (ri:Nat) (hr:ri < l.length),rl[k]=(ri:Int) ∧ l[ri]=l.getD (rl.getD k 0).toNat 0:=by
 have h4:badR l.length rl[k]=false:=by
   rw [List.any_eq_false] at hb
   simpa using hb _ (List.getElem_mem hk)
 unfold badR at h4
 simp only [Bool.or_eq_false_iff,decide_eq_false_iff_not] at h4
 have h5:(rl[k]).toNat < l.length:=by omega
 refine ⟨_,h5,by omega,?_⟩
 rw [List.getD_eq_getElem?_getD,List.getD_eq_getElem?_getD,List.getElem?_eq_getElem hk,Option.getD_some,List.getElem?_eq_getElem h5,Option.getD_some]
theorem inf100:Tryz.prog.info? 100=some Tryz.t100:=by kernel_rfl
theorem sz100i:Tryz.t100.size=3:=by kernel_rfl
theorem by100:Tryz.t100.bytes ≤ 128:=by decide +kernel
theorem zo100:zeroOk Tryz.t100=true:=by kernel_rfl
theorem pks_view {t:TypeId} {G:Heap} {o:Nat} {ps:List Pk} (h:ps ≠ [] → hget G o=some (.ext (pcs ps) t 3)) (hl:ps.length < 2147483648):pksR G (outS o ps.length)=some ps:=by
 by_cases h0:ps=[]
 · subst h0; rfl
 · rw [outS_ne fun e=>h0 (List.length_eq_zero_iff.1 e)]
   unfold pksR pksAt
   dsimp only
   rw [if_pos (by simp [flat]; omega),cellsA_eq,h h0]
   simp only [Option.bind_some,cellsB]
   rw [if_pos (by simp),List.drop_zero,List.take_of_length_le (by simp),Option.bind_some,pksOf_pcs]
abbrev vs77:List Nat:=[1,2,3,8,9]
abbrev fr77 (n:Nat) (rv':Value) (d:Int) (o k i:Nat):Fr:=[(1,rv'),(2,iv d),(3,ptA n),(8,outS o k),(9,iv i)]
set_option maxHeartbeats 6400000 in
set_option maxRecDepth 100000 in
theorem w77 {H:Heap} {n:Nat} {fv rv':Value} {l rl:List Int} {w st e d:Int} (hl:intV H fv=some l) (hrv:intV H rv'=some rl) (hso:SetOk l w st e) (hlt:∀ k b,hget H k=some b → k < n):∃ u H' n',AC Tryz.prog 77 [setA fv w st e,rv',iv d] H n (.tuple #[u,iv (pckE l rl e)]) H' n' ∧ MadeV pksR H n H' n' u (pckR l rl e d):=by
 replace hl:intV (tidy n H) fv=some l:=listV_tidy decI_tidy hlt hl
 replace hrv:intV (tidy n H) rv'=some rl:=listV_tidy decI_tidy hlt hrv
 have hpm0:PM n (tidy n H):=PM.tidy
 have hvf:∀ (z:Int) u,af (Value.tuple #[u,iv z])=af u:=fun z u=>by cases u <;> simp [af,afL]
 refine made_any (V:=pksR) (vf:=fun u=>.tuple #[u,iv (pckE l rl e)]) Tryz.func77 rfl (by kernel_rfl) rfl vs77 hlt (hvf _) ?_
 obtain ⟨T0,hT0⟩:∃ T,tidy n H=T:=⟨_,rfl⟩
 rw [hT0] at hl hrv hpm0 ⊢
 obtain ⟨fa,fc,rfl,hl31,_,hfrow⟩:=intV_form hl
 obtain ⟨ra,rc,rfl,hrl31,_,hrrow⟩:=intV_form hrv
 have hr:=recT_ok (P:=Tryz.prog) (l:=[(149,g149)]) (by simp only [List.forall_mem_cons]; exact ⟨ok149,by simp⟩)
 have hr0:=recT_ok (P:=Tryz.prog) (l:=[]) (by simp)
 have hev:=hso.evr
 obtain ⟨PE,hPEe⟩:∃ x,pckE l rl e=x:=⟨_,rfl⟩
 obtain ⟨PL,hPLe⟩:∃ x,pckR l rl e d=x:=⟨_,rfl⟩
 have hPL:PL=if PE=0 then pckA l rl e d rl.length else []:=by rw [← hPLe,← hPEe]; rfl
 have hPE:PE=if 64 < rl.length then 5 else if rl.any (badR l.length)=true then 10 else withinV (((rl.length:Int) - 1) * e) (-e) 1024:=by
   rw [← hPEe]
   unfold pckE
   by_cases h:64 < rl.length
   · rw [if_pos h,show decide (64 < (rl.length:Int))=true by simp; omega]; rfl
   · rw [if_neg h,show decide (64 < (rl.length:Int))=false by simp; omega]
     cases rl.any (badR l.length)
     · have:∀ x:Int,firstV [whenV false 5,whenV false 10,x]=if false=true then 10 else x:=fun x=>by
         show (if x=0 then 0 else x)=x
         split
         · rename_i h; exact h.symm
         · rfl
       exact this _
     · rfl
 rw [hPEe,hPLe]
 obtain ⟨X,hX⟩:∃ X,(n,Blk.cells [.slice fa l.length fc,iv w,iv st,iv e] 26) :: T0=X:=⟨_,rfl⟩
 have hpX:PM (n + 1) X:=by rw [← hX]; exact hpm0.put rfl
 have hTX:Sub T0 X:=by rw [← hX]; exact hpm0.sub
 have hb1:hget X n=some (.cells [.slice fa l.length fc,iv w,iv st,iv e] 26):=by rw [← hX,hget_cons,if_pos rfl]
 have hc26:cellsA X n 0 4=some [.slice fa l.length fc,iv w,iv st,iv e]:=by rw [cellsA_eq,hb1]; rfl
 have hl26:loadA Tryz.prog 26 X (.pointer (some ⟨n,0,none⟩))=some (setA (.slice fa l.length fc) w st e):=by
   simp only [loadA,ag26,sz26,hc26,Option.map_some]
 have h149:∀ m,g149 [setA (.slice fa l.length fc) w st e,.slice ra rl.length rc] X m=some (.bool (!rl.any (badR l.length)),X,m):=fun m=>by
   have:intV X (.slice ra rl.length rc)=some rl:=listV_mono decI_mono hTX hrv
   simp only [g149,this]
 refine E.seq (E.reg hr0 (by simp; rfl) ?_)
 rw [hX]
 refine E.seq (E.seq (E.reg hr0 (by simp; rfl) ?_))
 by_cases h64:64 < rl.length
 · rw [if_pos h64] at hPE
   rw [if_neg (by omega)] at hPL
   refine E.cond (t:=true) (by simp; omega) (fun _=>?_) (fun h=>by cases h)
   refine E.seq (E.reg hr0 (by simp; rfl) ?_)
   refine E.ret ?_
   rw [hPL,hPE]
   exact outM.ret X rfl (vs:=[.slice none 0 0,iv 5]) (by simp [resultsA,resultA,Tryz.results77]) ⟨.slice none 0 0,rfl,hTX,hpX.nm,by dsimp only; omega,fun _ G=>rfl,fun G _ _=>rfl⟩
 rw [if_neg h64] at hPE
 refine E.cond (t:=false) (by simp; omega) (fun h=>by cases h) (fun _=>?_)
 refine E.skip (E.seq ?_)
 refine E.seq (E.reg hr (by simp [-loadA,hl26,h149]; rfl) ?_)
 cases hbad:rl.any (badR l.length) with
 | true=>
   rw [hbad] at hPE
   replace hPE:PE=10:=hPE
   rw [if_neg (by omega)] at hPL
   refine E.cond (t:=true) (by simp) (fun _=>?_) (fun h=>by cases h)
   refine E.seq (E.reg hr0 (by simp; rfl) ?_)
   refine E.ret ?_
   rw [hPL,hPE]
   exact outM.ret X rfl (vs:=[.slice none 0 0,iv 10]) (by simp [resultsA,resultA,Tryz.results77]) ⟨.slice none 0 0,rfl,hTX,hpX.nm,by dsimp only; omega,fun _ G=>rfl,fun G _ _=>rfl⟩
 | false=>
 rw [hbad,if_neg (by simp)] at hPE
 have hXlt:=hpX.lt
 refine E.cond (t:=false) (by simp) (fun h=>by cases h) (fun _=>?_)
 refine E.skip (E.seq (E.reg hr0 (by simp; rfl) ?_))
 refine E.seq (E.seq (E.reg hr0 (by simp; rfl) ?_))
 refine E.block (E.loop ?_)
 refine EL.ind (fun x:Nat × Heap × Nat × Nat=>{ fr:=fr77 n (.slice ra rl.length rc) d x.2.2.2 x.1 (x.1 + 1),sz:=46,H:=x.2.1,n:=x.2.2.1,marks:=[],vs:=vs77 }) (fun x=>rl.length - x.1) (fun x=>(x.1=0 ∨ x.1 + 1 ≤ rl.length) ∧ ((x.1:Nat):Int) * e ≤ 1024 ∧ GL X (n + 1) 100 3 (pcs (pckA l rl e d (x.1 + 1))) x.1 x.2.1 x.2.2.1 x.2.2.2) (0,X,n + 1,n + 1) (.keep rfl rfl rfl (by simp) (Sub.refl _)) ⟨.inl rfl,by simp,GL.start (t:=100) (sz:=3) (Sub.refl X) hpX.nm (Nat.le_refl _) hpX.pl⟩ (fun _=>rfl) ?_
 rintro ⟨k,Hx,N,o⟩ ⟨hk,hke,hG⟩
 dsimp only at hk hke hG ⊢
 have hXx:=hG.sub
 have hTx:=hTX.trans hXx
 have hpx:PM N Hx:=⟨hG.nm,hG.pl⟩
 have hNb:=hG.big
 have hwk:IntKind.i64.wrap ((k:Int) + 1 + 1)=(k:Int) + 1 + 1:=W_in (by omega) (by omega)
 refine E.seq (E.seq (E.reg hr0 (by simp; rfl) ?_))
 by_cases hkl:k + 1 < rl.length
 · refine E.cond (t:=true) (by simp; omega) (fun _=>?_) (fun h=>by cases h)
   refine E.skip (E.seq ?_)
   refine E.block (E.seq ?_)
   have z3:cellA Hx n 3=some (iv e):=by rw [cellA_eq,hXx _ _ hb1]; rfl
   have z0:cellA Hx n 0=some (.slice fa l.length fc):=by rw [cellA_eq,hXx _ _ hb1]; rfl
   have hmm:((k:Int) + 1) * e ≤ 64 * 1024:=by
     have h1:((k:Int) + 1) * e ≤ 64 * e:=Int.mul_le_mul_of_nonneg_right (by omega) (by omega)
     have h2:(64:Int) * e ≤ 64 * 1024:=Int.mul_le_mul_of_nonneg_left hev.2 (by omega)
     omega
   have hm0:0 ≤ ((k:Int) + 1) * e:=Int.mul_nonneg (by omega) (by omega)
   have hme:((k + 1:Nat):Int) * e=((k:Int) + 1) * e:=by rw [Int.natCast_succ]
   have hfin:((k:Int) + 1) * e ≤ ((rl.length:Int) - 1) * e:=Int.mul_le_mul_of_nonneg_right (by omega) (by omega)
   obtain ⟨x,hx⟩:∃ x,((k:Int) + 1) * e=x:=⟨_,rfl⟩
   have hwm:IntKind.i64.wrap (((k:Int) + 1) * e)=x:=by rw [hx]; exact W_in (by omega) (by omega)
   rw [hx] at hmm hm0 hme hfin
   refine E.seq (E.reg hr0 (by simp [-cellA,z3,hwm]; rfl) ?_)
   by_cases hbig:1024 < x
   · have hPE3:PE=3:=by rw [hPE]; unfold withinV; rw [if_pos (.inr (by omega))]
     rw [if_neg (by omega)] at hPL
     refine E.cond (t:=true) (by simp [hbig]) (fun _=>?_) (fun h=>by cases h)
     refine E.seq (E.reg hr0 (by simp; rfl) ?_)
     refine E.ret ?_
     rw [hPL,hPE3]
     exact outM.ret Hx rfl (vs:=[.slice none 0 0,iv 3]) (by simp [resultsA,resultA,Tryz.results77]) ⟨.slice none 0 0,rfl,hTx,hpx.nm,by dsimp only; omega,fun _ G=>rfl,fun G _ _=>rfl⟩
   refine E.cond (t:=false) (by simp; omega) (fun h=>by cases h) (fun _=>?_)
   refine E.skip ?_
   obtain ⟨ri,hri,hrI,hvl⟩:=row_ix hbad hkl
   obtain ⟨ra',rfl,hra1,hra2⟩:=hrrow _ hkl
   obtain ⟨fa',rfl,hfa1,hfa2⟩:=hfrow ri hri
   obtain ⟨q,hq⟩:∃ q,l.getD (rl.getD (k + 1) 0).toNat 0=q:=⟨_,rfl⟩
   rw [hvl,hq] at hfa2
   rw [hrI] at hra2
   have hra3:=hTx.cell hra2
   have hfa3:=hTx.cell hfa2
   have hnx:=hpx.nm
   have b1:=lt_cell hnx hra3
   have b2:=lt_cell hnx hfa3
   have b4:n < N:=by omega
   have hsn:pcs (pckA l rl e d (k + 1)) ++ [iv x,iv q,iv d]=pcs (pckA l rl e d (k + 1 + 1)):=by
     rw [show pckA l rl e d (k + 1 + 1)=pckA l rl e d (k + 1) ++ [⟨((k + 1:Nat):Int) * e,l.getD (rl.getD (k + 1) 0).toNat 0,d⟩] from if_neg (Nat.succ_ne_zero k),hme,hq]
     simp [pcs]
   obtain ⟨Hz,happ,hGz⟩:=hG.app (P:=Tryz.prog) (st:=72) (i:=Tryz.t100) (new:=[iv x,iv q,iv d]) hXlt Tryz.underlying72 inf100 sz100i zo100 by100 (by omega) rfl (by omega) rfl rfl
   rw [hsn] at hGz
   have hk1:(k:Int) + 1 < rl.length:=by omega
   have hnx1:namesOk (N + 1) Hx=true:=namesOk_mono (Nat.le_succ _) _ hnx
   have hnz:=hGz.nm
   have hkn:((k:Int) + 1).toNat=k + 1:=by omega
   have hk0:(0:Int) ≤ (k:Int) + 1:=by omega
   refine E.drawU mixed hr0 [15,16] [15,16] [3,6,10,12,15,16] (by kernel_rfl) (by simp [-cellA,-readA,-flat,-builtinA,cellA_read,hnx,hnx1,hnz,z0,z3,hwm,hra1,hra3,hfa1,hfa3,hri,hk0,hk1,hkn,b1,b2,b4,build100s (a:=x) (b:=q) (c:=d),happ]; rfl) ?_
   refine E.reg hr0 (by simp [hwk]; rfl) ?_
   exact ⟨(k + 1,Hz,N + 1 + 1,N + 1),.keep rfl rfl rfl (by simp) (Sub.refl _),⟨.inr (by omega),by dsimp only; omega,hGz⟩,by dsimp only; omega⟩
 · refine E.cond (t:=false) (by simp; omega) (fun h=>by cases h) (fun _=>?_)
   refine E.exit ?_
   refine E.seq (E.reg hr0 (by simp; rfl) ?_)
   refine E.ret ?_
   have hPE0:PE=0:=by
     rw [hPE]
     unfold withinV
     rw [if_neg]
     rintro (h | h)
     · have h1:(-1:Int) * e ≤ ((rl.length:Int) - 1) * e:=Int.mul_le_mul_of_nonneg_right (by omega) (by omega)
       omega
     · have h1:((rl.length:Int) - 1) * e ≤ (k:Int) * e:=Int.mul_le_mul_of_nonneg_right (by omega) (by omega)
       omega
   rw [if_pos hPE0] at hPL
   have hlast:pckA l rl e d rl.length=pckA l rl e d (k + 1):=by
     rcases hk with h | h
     · subst h
       rcases Nat.eq_zero_or_pos rl.length with h0 | h0
       · rw [h0]; rfl
       · rw [show rl.length=1 by omega]
     · rw [show rl.length=k + 1 by omega]
   rw [hPE0,hPL,hlast]
   have hkk:(pckA l rl e d (k + 1)).length=k:=by rw [pckA_len]; rfl
   refine outM.ret Hx rfl (vs:=[outS o k,iv 0]) (by simp [resultsA,resultA,Tryz.results77]) ⟨outS o k,rfl,hTx,hG.nm,by dsimp only; omega,fun h G=>?_,fun G _ hG'=>?_⟩
   · by_cases hk0:k=0
     · subst hk0; rfl
     · rw [outS_ne hk0] at h; cases h
   · have:=pks_view (G:=G) (t:=100) (o:=o) (ps:=pckA l rl e d (k + 1)) (fun h0=>hG' _ _ (by have:=hG.low; omega) rfl (hG.out fun e=>h0 (by subst e; rfl)).1) (by rw [hkk]; omega)
     rw [hkk] at this
     exact this
def pckF (l rl:List Int) (w st e d:Int):Int:=if firstV [setE l w st e,withinV d 0 1000000000]=0 then pckE l rl e else firstV [setE l w st e,withinV d 0 1000000000]
def pckL (l rl:List Int) (w st e d:Int):List Pk:=if pckF l rl w st e d=0 then pckA l rl e d rl.length else []
theorem inf160':Tryz.prog.info? 160=some Tryz.t160:=by kernel_rfl
theorem sz160i:Tryz.t160.size=3:=by kernel_rfl
theorem by160:Tryz.t160.bytes ≤ 128:=by decide +kernel
theorem zo160:zeroOk Tryz.t160=true:=by kernel_rfl
theorem build160s {fr:Fr} {H:Heap} {n:Nat} {x y z:Operand} {a b c:Int} (hx:evO Tryz.prog fr x=some (iv a)) (hy:evO Tryz.prog fr y=some (iv b)) (hz:evO Tryz.prog fr z=some (iv c)):opBuild Tryz.prog 160 #[(0,x),(1,y),(2,z)] fr H n=some (.agg #[iv a,iv b,iv c],H,n):=by
 unfold opBuild
 simp only [evPs,hx,hy,hz]
 kernel_rfl
theorem unop_neg {o:Operand} {fr:Fr} {H:Heap} {n:Nat} {a:Int} (h:evO Tryz.prog fr o=some (iv a)):opUnop Tryz.prog .neg o fr H n=some (iv (IntKind.i64.wrap (0 - a)),H,n):=by
 have hr:runP Tryz.prog (Op.unary .neg (iv a))=some (iv (IntKind.i64.wrap (0 - a))):=by kernel_rfl
 unfold opUnop
 rw [h]
 show (if afq (iv a)=true then (runP Tryz.prog (Op.unary .neg (iv a))).bind fun v=>if afq v=true then some (v,H,n) else none else none)=_
 rw [if_pos (show afq (iv a)=true from rfl),hr]
 rfl
abbrev vs74:List Nat:=[1,2,3,8,9,10,11,12,44,45,46]
abbrev fr74 (n:Nat) (rv':Value) (L:Nat) (d:Int) (o k i:Nat):Fr:=[(1,rv'),(2,iv d),(3,ptA n),(10,outS o k),(44,rv'),(45,iv L),(46,iv i)]
set_option maxHeartbeats 6400000 in
set_option maxRecDepth 100000 in
theorem w74 {H:Heap} {n:Nat} {fv rv':Value} {l rl:List Int} {w st e d:Int} (hl:intsW H fv=some l) (hrv:intV H rv'=some rl) (hlt:∀ k b,hget H k=some b → k < n):∃ u H' n',AC Tryz.prog 74 [setA fv w st e,rv',iv d] H n (.tuple #[u,iv (pckF l rl w st e d)]) H' n' ∧ MadeV pksR H n H' n' u (pckL l rl w st e d):=by
 replace hl:intsW (tidy n H) fv=some l:=by
   unfold intsW at hl ⊢
   split at hl
   · exact hl
   · unfold intsAt at hl ⊢
     split at hl
     · rename_i hf
       rw [if_pos hf]
       rw [Option.bind_eq_some_iff] at hl ⊢
       obtain ⟨cs,h1,h2⟩:=hl
       exact ⟨cs,cellsA_tidy hlt h1,h2⟩
     · cases hl
   · cases hl
 replace hrv:intV (tidy n H) rv'=some rl:=listV_tidy decI_tidy hlt hrv
 have hpm0:PM n (tidy n H):=PM.tidy
 have hvf:∀ (z:Int) u,af (Value.tuple #[u,iv z])=af u:=fun z u=>by cases u <;> simp [af,afL]
 refine made_any (V:=pksR) (vf:=fun u=>.tuple #[u,iv (pckF l rl w st e d)]) Tryz.func74 rfl (by kernel_rfl) rfl vs74 hlt (hvf _) ?_
 obtain ⟨T0,hT0⟩:∃ T,tidy n H=T:=⟨_,rfl⟩
 rw [hT0] at hl hrv hpm0 ⊢
 have hlI:=W_intV hl
 obtain ⟨fa,fc,rfl,hl31,_,hfrow⟩:=intV_form hlI
 obtain ⟨ra,rc,rfl,hrl31,_,hrrow⟩:=intV_form hrv
 have hr:=recT_ok (P:=Tryz.prog) (l:=[(20,g20v),(91,g91),(90,g90),(96,g96),(146,g146)]) (by simp only [List.forall_mem_cons]; exact ⟨ok20v,ok91,ok90,ok96,ok146,by simp⟩)
 have hr0:=recT_ok (P:=Tryz.prog) (l:=[]) (by simp)
 obtain ⟨PE,hPEe⟩:∃ x,pckF l rl w st e d=x:=⟨_,rfl⟩
 obtain ⟨PL,hPLe⟩:∃ x,pckL l rl w st e d=x:=⟨_,rfl⟩
 have hPL:PL=if PE=0 then pckA l rl e d rl.length else []:=by rw [← hPLe,← hPEe]; rfl
 obtain ⟨e0,he0⟩:∃ x,setE l w st e=x:=⟨_,rfl⟩
 obtain ⟨e1,he1⟩:∃ x,withinV d 0 1000000000=x:=⟨_,rfl⟩
 obtain ⟨e8,he8⟩:∃ x,firstV [e0,e1]=x:=⟨_,rfl⟩
 have hPE:PE=if e8=0 then pckE l rl e else e8:=by rw [← hPEe,← he8,← he0,← he1]; rfl
 rw [hPEe,hPLe]
 obtain ⟨X,hX⟩:∃ X,(n,Blk.cells [.slice fa l.length fc,iv w,iv st,iv e] 34) :: T0=X:=⟨_,rfl⟩
 have hpX:PM (n + 1) X:=by rw [← hX]; exact hpm0.put rfl
 have hTX:Sub T0 X:=by rw [← hX]; exact hpm0.sub
 have hb1:hget X n=some (.cells [.slice fa l.length fc,iv w,iv st,iv e] 34):=by rw [← hX,hget_cons,if_pos rfl]
 have hc34:cellsA X n 0 4=some [.slice fa l.length fc,iv w,iv st,iv e]:=by rw [cellsA_eq,hb1]; rfl
 have hl34:loadA Tryz.prog 34 X (.pointer (some ⟨n,0,none⟩))=some (setA (.slice fa l.length fc) w st e):=by
   simp only [loadA,ag34,sz34,hc34,Option.map_some]
 have h20:∀ m,g20v [setA (.slice fa l.length fc) w st e] X m=some (iv e0,X,m):=fun m=>by
   have:=intsW_mono hTX hl
   simp only [g20v,this,Option.map_some,he0]
 have h91:∀ Z m,g91 [iv d,iv 0,iv 1000000000] Z m=some (iv e1,Z,m):=fun Z m=>by rw [← he1]; rfl
 have hI2:∀ (N:Nat) (Z:Heap) m (a b:Int),g90 [.slice (some ⟨N,0,none⟩) 2 2] ((N,.cells [iv a,iv b] 29) :: Z) m=some (iv (firstV [a,b]),(N,.cells [iv a,iv b] 29) :: Z,m):=fun N Z m a b=>by
   simp [g90,intsAt,intsOf]
 have hI3:∀ (N:Nat) (Z:Heap) m (a b c:Int),g90 [.slice (some ⟨N,0,none⟩) 3 3] ((N,.cells [iv a,iv b,iv c] 29) :: Z) m=some (iv (firstV [a,b,c]),(N,.cells [iv a,iv b,iv c] 29) :: Z,m):=fun N Z m a b c=>by
   simp [g90,intsAt,intsOf]
 refine E.seq (E.reg hr0 (by simp; rfl) ?_)
 rw [hX]
 refine E.seq (E.seq (E.reg hr (by simp [-loadA,hl34,h20,h91,hI2,he8]; rfl) ?_))
 obtain ⟨Y,hY⟩:∃ Z,(n + 1,Blk.cells [iv e0,iv e1] 29) :: X=Z:=⟨_,rfl⟩
 have hpY:PM (n + 2) Y:=by rw [← hY]; exact hpX.put rfl
 have hXY:Sub X Y:=by rw [← hY]; exact hpX.sub
 rw [hY]
 refine E.lead { fr:=[(1,.slice ra rl.length rc),(2,iv d),(3,ptA n),(8,iv e8)],sz:=69,H:=Y,n:=n + 2,marks:=[],vs:=vs74 } (.keep rfl rfl rfl (by simp) (Sub.refl _)) ?_
 refine E.seq (E.reg hr0 (by simp; rfl) ?_)
 by_cases hz:e8=0
 rotate_left
 · rw [if_neg hz] at hPE
   rw [if_neg (by rw [hPE]; exact hz)] at hPL
   refine E.cond (t:=true) (by simp [hz]) (fun _=>?_) (fun h=>by cases h)
   refine E.seq (E.reg hr0 (by simp; rfl) ?_)
   refine E.ret ?_
   rw [hPE,hPL]
   exact outM.ret Y rfl (vs:=[.slice none 0 0,iv e8]) (by simp [resultsA,resultA,Tryz.results74]) ⟨.slice none 0 0,rfl,hTX.trans hXY,hpY.nm,by dsimp only; omega,fun _ G=>rfl,fun G _ _=>rfl⟩
 rw [if_pos hz] at hPE
 have h01:e0=0 ∧ e1=0:=by
   rw [hz] at he8
   exact ⟨first_zero he8 e0 (by simp),first_zero he8 e1 (by simp)⟩
 have hso:SetOk l w st e:=set_ok (he0.trans h01.1)
 have hev:=hso.evr
 refine E.cond (t:=false) (by simp [hz]) (fun h=>by cases h) (fun _=>?_)
 refine E.skip (E.seq ?_)
 refine E.seq ?_
 have hYn:=hpY.nm
 have hYp:=hpY.pl
 have hYt:=takeNew_frz hYn
 have hYn1:=(hpY.wide (Nat.le_succ _)).nm
 have cs34:cellsA Y n 0 4=some [.slice fa l.length fc,iv w,iv st,iv e]:=hXY.cells hc34
 have c3:cellA Y n 3=some (iv e):=by have:=(cellsA_at cs34).2 3 (by decide); rwa [Nat.zero_add] at this
 have h96:∀ (b:Bool) (x:Int) Z m,g96 [.bool b,iv x] Z m=some (iv (whenV b x),Z,m):=fun _ _ _ _=>rfl
 obtain ⟨bd,hbd⟩:∃ b,rl.any (badR l.length)=b:=⟨_,rfl⟩
 have h146:∀ m,g146 [setA (.slice fa l.length fc) w st e,.slice ra rl.length rc] (frzH Y) m=some (iv (whenV bd 10),frzH Y,m):=fun m=>by
   have:intV (frzH Y) (.slice ra rl.length rc)=some rl:=(listV_frz decI_frz Y _).trans (listV_mono decI_mono (hTX.trans hXY) hrv)
   simp only [g146,this,hbd]
 have hml:((rl.length:Int) - 1) * e ≤ 2147483648 * 1024 ∧ -1024 ≤ ((rl.length:Int) - 1) * e:=by
   have h1:((rl.length:Int) - 1) * e ≤ 2147483648 * e:=Int.mul_le_mul_of_nonneg_right (by omega) (by omega)
   have h3:(-1:Int) * e ≤ ((rl.length:Int) - 1) * e:=Int.mul_le_mul_of_nonneg_right (by omega) (by omega)
   omega
 obtain ⟨mm,hmm⟩:∃ x,((rl.length:Int) - 1) * e=x:=⟨_,rfl⟩
 have hw1:IntKind.i64.wrap ((rl.length:Int) - 1)=(rl.length:Int) - 1:=W_in (by omega) (by omega)
 have hw2:IntKind.i64.wrap (((rl.length:Int) - 1) * e)=mm:=by rw [hmm]; rw [hmm] at hml; exact W_in (by omega) (by omega)
 have hw3:IntKind.i64.wrap (-e) = -e:=W_in (by omega) (by omega)
 have h91b:∀ Z m,g91 [iv mm,iv (-e),iv 1024] Z m=some (iv (withinV mm (-e) 1024),Z,m):=fun Z m=>rfl
 obtain ⟨q1,hq1⟩:∃ b,decide (64 < (rl.length:Int))=b:=⟨_,rfl⟩
 have hpE:pckE l rl e=firstV [whenV q1 5,whenV bd 10,withinV mm (-e) 1024]:=by unfold pckE; rw [hq1,hbd,hmm]
 obtain ⟨e3,he3⟩:∃ x,withinV mm (-e) 1024=x:=⟨_,rfl⟩
 rw [he3] at hpE h91b
 obtain ⟨e9,he9⟩:∃ x,firstV [whenV q1 5,whenV bd 10,e3]=x:=⟨_,rfl⟩
 rw [he9] at hpE
 rw [hpE] at hPE
 have hl1:n < n + 2:=by omega
 refine E.drawU mixed hr [16,17,18] [3,6,16,17,18] [3,6,16,17,18] (by kernel_rfl) (by simp [-decide_eq_true_eq,-cellA,-cellsA,-readA,cellA_read,cellsA_read,hYn,hYn1,hYp,hYt,hl1,cs34,c3,hw1,hw2,hw3,hq1,unop_neg,h96,h146,h91b,hI3,he9]; rfl) ?_
 obtain ⟨Y2,hY2⟩:∃ Z,(n + 2,Blk.cells [iv (whenV q1 5),iv (whenV bd 10),iv e3] 29) :: Y=Z:=⟨_,rfl⟩
 have hpY2:PM (n + 3) Y2:=by rw [← hY2]; exact hpY.put rfl
 have hYY2:Sub Y Y2:=by rw [← hY2]; exact hpY.sub
 have hTY:=hTX.trans (hXY.trans hYY2)
 have hbY:=hYY2 _ _ (hXY _ _ hb1)
 rw [hY2]
 refine E.lead { fr:=[(1,.slice ra rl.length rc),(2,iv d),(3,ptA n),(9,iv e9)],sz:=69,H:=Y2,n:=n + 3,marks:=[],vs:=vs74 } (.keep rfl rfl rfl (by simp) (Sub.refl _)) ?_
 refine E.seq (E.reg hr0 (by simp; rfl) ?_)
 by_cases hz9:e9=0
 rotate_left
 · rw [if_neg (by rw [hPE]; exact hz9)] at hPL
   refine E.cond (t:=true) (by simp [hz9]) (fun _=>?_) (fun h=>by cases h)
   refine E.seq (E.reg hr0 (by simp; rfl) ?_)
   refine E.ret ?_
   rw [hPE,hPL]
   exact outM.ret Y2 rfl (vs:=[.slice none 0 0,iv e9]) (by simp [resultsA,resultA,Tryz.results74]) ⟨.slice none 0 0,rfl,hTY,hpY2.nm,by dsimp only; omega,fun _ G=>rfl,fun G _ _=>rfl⟩
 have hPE0:PE=0:=hPE.trans hz9
 rw [if_pos hPE0] at hPL
 rw [hz9] at he9
 have hb:bd=false:=when_zero (by decide) (first_zero he9 (whenV bd 10) (by simp))
 have h64:rl.length ≤ 64:=by
   have h3:=when_zero (by decide) (first_zero he9 (whenV q1 5) (by simp))
   rw [← hq1] at h3
   simp only [decide_eq_false_iff_not] at h3
   omega
 have hmb:mm ≤ 1024:=by
   have h3:=first_zero he9 e3 (by simp)
   rw [← he3] at h3
   unfold withinV at h3
   split at h3
   · cases h3
   · rename_i h; omega
 subst hb
 refine E.cond (t:=false) (by simp [hz9]) (fun h=>by cases h) (fun _=>?_)
 refine E.skip ?_
 have hYlt:=hpY2.lt
 refine E.seq (E.reg hr0 (by simp; rfl) ?_)
 refine E.seq (E.seq (E.reg hr0 (by simp; rfl) ?_))
 refine E.block (E.loop ?_)
 refine EL.ind (fun x:Nat × Heap × Nat × Nat=>{ fr:=fr74 n (.slice ra rl.length rc) rl.length d x.2.2.2 (x.1 - 1) x.1,sz:=69,H:=x.2.1,n:=x.2.2.1,marks:=[],vs:=vs74 }) (fun x=>rl.length - x.1) (fun x=>x.1 ≤ rl.length ∧ GL Y2 (n + 3) 160 3 (pcs (pckA l rl e d x.1)) (x.1 - 1) x.2.1 x.2.2.1 x.2.2.2) (0,Y2,n + 3,n + 3) (.keep rfl rfl rfl (by simp) (Sub.refl _)) ⟨Nat.zero_le _,GL.start (t:=160) (sz:=3) (Sub.refl Y2) hpY2.nm (Nat.le_refl _) hpY2.pl⟩ (fun _=>rfl) ?_
 rintro ⟨k,Hx,N,o⟩ ⟨hk,hG⟩
 dsimp only at hk hG ⊢
 have hXx:=hG.sub
 have hTx:=hTY.trans hXx
 have hpx:PM N Hx:=⟨hG.nm,hG.pl⟩
 have hNb:=hG.big
 have hwk:IntKind.i64.wrap ((k:Int) + 1)=(k:Int) + 1:=W_in (by omega) (by omega)
 refine E.seq (E.reg hr0 (by simp; rfl) ?_)
 refine E.seq ?_
 by_cases hkl:k < rl.length
 · refine E.cond (t:=true) (by simp; omega) (fun _=>?_) (fun h=>by cases h)
   refine E.skip (E.seq ?_)
   refine E.block ?_
   obtain ⟨ri,hri,hrI,hvl⟩:=row_ix hbd hkl
   obtain ⟨ra',rfl,hra1,hra2⟩:=hrrow _ hkl
   obtain ⟨fa',rfl,hfa1,hfa2⟩:=hfrow ri hri
   rw [hrI] at hra2
   have hra3:=hTx.cell hra2
   refine E.seq (E.reg hr0 (by simp [-cellA,-flat,hkl,hra1,hra3]; rfl) ?_)
   refine E.seq (E.reg hr0 (by simp; rfl) ?_)
   by_cases hk0:k=0
   · subst hk0
     refine E.cond (t:=false) (by simp) (fun h=>by cases h) (fun _=>?_)
     refine E.skip (E.reg hr0 (by simp; rfl) ?_)
     exact ⟨(1,Hx,N,o),.keep rfl rfl rfl (by simp) (Sub.refl _),⟨hkl,hG⟩,by dsimp only; omega⟩
   refine E.cond (t:=true) (by simp; omega) (fun _=>?_) (fun h=>by cases h)
   obtain ⟨q,hq⟩:∃ q,l.getD (rl.getD k 0).toNat 0=q:=⟨_,rfl⟩
   rw [hvl,hq] at hfa2
   have hfa3:=hTx.cell hfa2
   have z3:cellA Hx n 3=some (iv e):=by rw [cellA_eq,hXx _ _ hbY]; rfl
   have z0:cellA Hx n 0=some (.slice (some fa') l.length fc):=by rw [cellA_eq,hXx _ _ hbY]; rfl
   have hm0:0 ≤ (k:Int) * e:=Int.mul_nonneg (by omega) (by omega)
   have hfin:(k:Int) * e ≤ ((rl.length:Int) - 1) * e:=Int.mul_le_mul_of_nonneg_right (by omega) (by omega)
   obtain ⟨x,hx⟩:∃ x,(k:Int) * e=x:=⟨_,rfl⟩
   have hwm:IntKind.i64.wrap ((k:Int) * e)=x:=by rw [hx]; exact W_in (by omega) (by omega)
   have hnx:=hpx.nm
   have b2:=lt_cell hnx hfa3
   have b4:n < N:=by omega
   have hsn:pcs (pckA l rl e d k) ++ [iv x,iv q,iv d]=pcs (pckA l rl e d (k + 1)):=by
     rw [show pckA l rl e d (k + 1)=pckA l rl e d k ++ [⟨(k:Int) * e,l.getD (rl.getD k 0).toNat 0,d⟩] from if_neg hk0,hx,hq]
     simp [pcs]
   obtain ⟨Hz,happ,hGz⟩:=hG.app (P:=Tryz.prog) (st:=79) (i:=Tryz.t160) (new:=[iv x,iv q,iv d]) hYlt Tryz.underlying79 inf160' sz160i zo160 by160 (by omega) rfl (by omega) rfl rfl
   rw [hsn,show k - 1 + 1=k + 1 - 1 by omega] at hGz
   rw [show k - 1 + 1=k + 1 - 1 by omega] at happ
   have hnx1:namesOk (N + 1) Hx=true:=namesOk_mono (Nat.le_succ _) _ hnx
   have hnz:=hGz.nm
   refine E.drawU mixed hr0 [12,13] [12,13] [3,6,9,12,13] (by kernel_rfl) (by simp [-cellA,-readA,-flat,-builtinA,cellA_read,hnx,hnx1,hnz,z0,z3,hwm,hfa1,hfa3,hri,b2,b4,build160s (a:=x) (b:=q) (c:=d),happ]; rfl) ?_
   refine E.reg hr0 (by simp [hwk]; rfl) ?_
   exact ⟨(k + 1,Hz,N + 1 + 1,N + 1),.keep rfl rfl rfl (by simp) (Sub.refl _),⟨hkl,hGz⟩,by dsimp only; omega⟩
 · have hkk':k=rl.length:=by omega
   subst hkk'
   refine E.cond (t:=false) (by simp) (fun h=>by cases h) (fun _=>?_)
   refine E.exit ?_
   refine E.seq (E.reg hr0 (by simp; rfl) ?_)
   refine E.ret ?_
   rw [hPE0,hPL]
   have hkk:(pckA l rl e d rl.length).length=rl.length - 1:=pckA_len _
   refine outM.ret Hx rfl (vs:=[outS o (rl.length - 1),iv 0]) (by simp [resultsA,resultA,Tryz.results74]) ⟨outS o (rl.length - 1),rfl,hTx,hG.nm,by dsimp only; omega,fun h G=>?_,fun G _ hG'=>?_⟩
   · by_cases hk0:rl.length - 1=0
     · rw [hk0]
       rw [hk0] at hkk
       rw [List.length_eq_zero_iff.1 hkk]
       rfl
     · rw [outS_ne hk0] at h; cases h
   · have:=pks_view (G:=G) (t:=160) (o:=o) (ps:=pckA l rl e d rl.length) (fun h0=>hG' _ _ (by have:=hG.low; omega) rfl (hG.out fun e=>h0 (List.length_eq_zero_iff.1 (hkk.trans e))).1) (by rw [hkk]; omega)
     rw [hkk] at this
     exact this
def shortN (L:Nat):Bool:=decide (L ≤ 32) || decide (L=1025)
theorem w167 {H:Heap} {n:Nat} {oa:Option Addr} {L c:Nat} (hL:L < 9223372036854775808):AC Tryz.prog 167 [.slice oa L c] H n (.bool (shortN L)) H n:=by
 refine AC.given fun hold hsc hgn=>AC.tidied (B:=[]) (by simp) ?_
 have hr:=recT_ok (P:=Tryz.prog) (l:=[]) (by simp)
 refine AC.pure Tryz.func167 rfl (by kernel_rfl) rfl [0,2] rfl ?_
 refine E.seq (E.reg hr (by simp; rfl) ?_)
 refine E.seq ?_
 by_cases h:L ≤ 32
 case' pos=>
   have h1:(L:Int) ≤ 32:=by omega
   refine E.reg hr (by simp [h1]; rfl) ?_
 case' neg=>
   have h1:¬ (L:Int) ≤ 32:=by omega
   have h2:((L:Int)=1025)=(L=1025):=by rw [eq_iff_iff]; omega
   refine E.reg hr (by simp [h1,h2]; rfl) ?_
 all_goals
   refine E.ret ?_
   exact pureK.ret rfl rfl (by simp [shortN,h]) (Sub.refl _)
def g167 (args:List Value) (H:Heap) (n:Nat):R:=match args with
 | [.slice _ L _]=>if L < 9223372036854775808 then some (.bool (shortN L),H,n) else none
 | _=>none
theorem ok167:EntOk Tryz.prog (167,g167):=by
 intro args H n v H' n' h
 simp only [g167] at h
 split at h
 · split at h
   · rename_i hL
     injection h with h; injection h with e1 e2; injection e2 with e2 e3; subst e1 e2 e3
     exact w167 hL
   · cases h
 · cases h
set_option maxRecDepth 20000 in
theorem w130 {H:Heap} {n:Nat} {cs:List Value} {oa:Option Addr} {L c:Nat} (h9:cs[9]? = some (.slice oa L c)) (hL:L < 9223372036854775808):AC Tryz.prog 130 [.agg ⟨cs⟩] H n (.bool (shortN L)) H n:=by
 refine AC.given fun hold hsc hgn=>AC.tidied (B:=[]) (by simp) ?_
 have hr:=recT_ok (P:=Tryz.prog) (l:=[(167,g167)]) (by simp [ok167])
 obtain ⟨X,hX⟩:∃ X,(n,Blk.cells cs 144) :: tidy n H=X:=⟨_,rfl⟩
 have hS:Sub (tidy n H) X:=by rw [← hX]; exact Sub.cons (by simp) (Sub.refl _)
 have hb:hget X n=some (.cells cs 144):=by rw [← hX,hget_cons,if_pos rfl]
 have hc9:cellA X n 9=some (.slice oa L c):=by rw [cellA_eq,hb]; exact h9
 refine AC.pure Tryz.func130 rfl (by kernel_rfl) rfl [1,2] rfl ?_
 refine E.seq (E.reg hr (by simp; rfl) ?_)
 rw [hX]
 refine E.seq (E.reg hr (by simp [-cellA,hc9,g167,hL]; rfl) ?_)
 refine E.ret ?_
 exact pureK.ret rfl rfl (by simp) hS
def g130 (args:List Value) (H:Heap) (n:Nat):R:=match args with
 | [.agg a]=>match a.toList[9]? with
   | some (Value.slice _ L _)=>if L < 9223372036854775808 then some (.bool (shortN L),H,n) else none
   | _=>none
 | _=>none
theorem ok130:EntOk Tryz.prog (130,g130):=by
 intro args H n v H' n' h
 simp only [g130] at h
 split at h
 · split at h
   · rename_i h9
     split at h
     · rename_i hL
       injection h with h; injection h with e1 e2; injection e2 with e2 e3; subst e1 e2 e3
       exact w130 h9 hL
     · cases h
   · cases h
 · cases h
theorem sq_bind {α β:Type} {P:Program} (a:Sem α) (g:α → Sem β):runP P (Sem.bind a g)=(runP P a).bind fun x=>runP P (g x):=by
 induction a with
 | program k ih=>exact ih P
 | mark m k ih=>exact ih
 | _=>rfl
theorem sq_und {α:Type} {P:Program} {t:TypeId} {d:TypeDesc} {f:TypeDesc → Sem α} (h:P.underlying t=some d):runP P (Sem.bind (underlying t) f)=runP P (f d):=by
 show runP P (Sem.bind (match P.underlying t with | some d=>_ | none=>_) f)=_
 rw [h]
 rfl
theorem len_nm {s:ByteArray} {o:Bool}:runP Tryz.prog (Go.builtin .len #[9] 3 #[o] #[.string s])=some (.value (iv s.size)):=by
 show runP Tryz.prog (Sem.bind (Sem.bind (underlying 9) _) _)=_
 rw [sq_bind,sq_und Tryz.underlying9]
 rfl
set_option maxHeartbeats 600000 in
set_option maxRecDepth 50000 in
theorem w57big {H:Heap} {n:Nat} {s:ByteArray} {oa:Option Addr} {L c:Nat} (h:60 < s.size ∨ 6 < L ∧ L ≠ 65):AC Tryz.prog 57 [.agg ⟨[.string s,.slice oa L c]⟩] H n (.bool false) H n:=by
 refine AC.given fun hold hsc hgn=>AC.tidied (B:=[]) (by simp) ?_
 have hr:=recT_ok (P:=Tryz.prog) (l:=[]) (by simp)
 obtain ⟨X,hX⟩:∃ X,(n,Blk.cells [.string s,.slice oa L c] 103) :: tidy n H=X:=⟨_,rfl⟩
 have hS:Sub (tidy n H) X:=by rw [← hX]; exact Sub.cons (by simp) (Sub.refl _)
 have hb:hget X n=some (.cells [.string s,.slice oa L c] 103):=by rw [← hX,hget_cons,if_pos rfl]
 have hc0:cellA X n 0=some (.string s):=by rw [cellA_eq,hb]; rfl
 have hc1:cellA X n 1=some (.slice oa L c):=by rw [cellA_eq,hb]; rfl
 refine AC.pure Tryz.func57 rfl (by kernel_rfl) rfl [1,2,3,19,33] rfl ?_
 refine E.seq (E.reg hr (by simp; rfl) ?_)
 rw [hX]
 refine E.seq (E.seq ?_)
 by_cases h1:60 < s.size
 case' pos=>
   have e1:(60:Int) < s.size:=by omega
   refine E.reg hr (by simp [-cellA,hc0,isConstO,len_nm,e1]; rfl) ?_
 case' neg=>
   have e1:¬ (60:Int) < s.size:=by omega
   have e2:(6:Int) < L:=by omega
   have e3:¬ (L:Int)=65:=by omega
   refine E.reg hr (by simp [-cellA,hc0,isConstO,len_nm,hc1,e1,e2,e3]; rfl) ?_
 all_goals
   refine E.cond (t:=true) (by simp) (fun _=>?_) (fun h=>by cases h)
   refine E.seq (E.reg hr (by simp; rfl) ?_)
   refine E.ret ?_
   exact pureK.ret rfl rfl (by simp) hS
def decTL:Dec Nat:=fun _ cs=>match cs[9]? with
 | some (Value.slice _ L _)=>if L < 9223372036854775808 then some L else none
 | _=>none
theorem decTL_tidy:DecTidy decTL:=fun _ _ _ _ _ h=>h
set_option maxHeartbeats 600000 in
set_option maxRecDepth 50000 in
theorem w57 {H:Heap} {n:Nat} {s:ByteArray} {u:Value} {Ls:List Nat} (hu:listV 10 decTL H u=some Ls) (hs:s.size ≤ 60) (hl:Ls.length ≤ 6 ∨ Ls.length=65):AC Tryz.prog 57 [.agg ⟨[.string s,u]⟩] H n (.bool (Ls.all shortN)) H n:=by
 refine AC.given fun hold hsc hgn=>AC.tidied (B:=[]) (by simp) ?_
 replace hu:=listV_tidy decTL_tidy (fun k b h=>(hold k b h).1) hu
 have hr:=recT_ok (P:=Tryz.prog) (l:=[(130,g130)]) (by simp [ok130])
 obtain ⟨oa,c,rfl,hlt,_,hrow⟩:=listV_form hu
 obtain ⟨X,hX⟩:∃ X,(n,Blk.cells [.string s,.slice oa Ls.length c] 103) :: tidy n H=X:=⟨_,rfl⟩
 have hS:Sub (tidy n H) X:=by rw [← hX]; exact Sub.cons (by simp) (Sub.refl _)
 have hb:hget X n=some (.cells [.string s,.slice oa Ls.length c] 103):=by rw [← hX,hget_cons,if_pos rfl]
 have hc0:cellA X n 0=some (.string s):=by rw [cellA_eq,hb]; rfl
 have hc1:cellA X n 1=some (.slice oa Ls.length c):=by rw [cellA_eq,hb]; rfl
 refine AC.pure Tryz.func57 rfl (by kernel_rfl) rfl [1,2,3,19,33] rfl ?_
 refine E.seq (E.reg hr (by simp; rfl) ?_)
 rw [hX]
 refine E.seq (E.seq ?_)
 have e1:¬ (60:Int) < s.size:=by omega
 by_cases h6:Ls.length ≤ 6
 case' pos=>
   have e2:¬ (6:Int) < Ls.length:=by omega
   refine E.reg hr (by simp [-cellA,hc0,isConstO,len_nm,hc1,e1,e2]; rfl) ?_
 case' neg=>
   have e2:(6:Int) < Ls.length:=by omega
   have e3:(Ls.length:Int)=65:=by omega
   refine E.reg hr (by simp [-cellA,hc0,isConstO,len_nm,hc1,e1,e3]; rfl) ?_
 all_goals
   refine E.cond (t:=false) (by simp) (fun h=>by cases h) (fun _=>?_)
   refine E.skip (E.seq ?_)
   refine E.seq (E.reg hr (by simp; rfl) ?_)
   refine E.block (E.loop ?_)
   refine EL.ind (fun i:Nat=>{ fr:=[(1,.pointer (some ⟨n,0,none⟩)),(3,iv i)],sz:=34,H:=X,n:=n + 1,marks:=[],vs:=[1,2,3,19,33] }) (fun i=>Ls.length - i) (fun i=>i ≤ Ls.length ∧ Ls.all shortN=(Ls.drop i).all shortN) 0 (.keep rfl rfl rfl (by simp) (Sub.refl _)) ⟨Nat.zero_le _,by rw [List.drop_zero]⟩ (fun _=>rfl) ?_
   rintro i ⟨hi,hg⟩
   have hw:IntKind.i64.wrap ((i:Int) + 1)=(i:Int) + 1:=W_in (by omega) (by omega)
   refine E.seq (E.seq (E.reg hr (by simp [-cellA,hc1]; rfl) ?_))
   by_cases hil:i < Ls.length
   · refine E.cond (t:=true) (by simp [hil]) (fun _=>?_) (fun h=>by cases h)
     obtain ⟨a,r,rfl,hf,hcs,hd⟩:=hrow i hil
     have hld:=load144 (hS.cells hcs)
     have hl1:loadA Tryz.prog 101 X (.pointer (some ⟨n,1,none⟩))=some (.slice (some a) Ls.length c):=by simp [-cellA,hc1]
     have hgt:∀ m,g130 [.agg ⟨r⟩] X m=some (.bool (shortN Ls[i]),X,m):=fun m=>by
       unfold decTL at hd
       split at hd
       · rename_i h9
         split at hd
         · rename_i hL
           injection hd with hd
           rw [← hd]
           unfold g130
           simp only [h9]
           rw [if_pos hL]
         · cases hd
       · cases hd
     rw [List.drop_eq_getElem_cons hil,List.all_cons] at hg
     refine E.skip (E.seq ?_)
     refine E.block (E.seq (E.reg hr (by simp [-cellA,-flat,-loadA,hl1,hil,hf,hld,hgt]; rfl) ?_))
     cases hb2:shortN Ls[i] with
     | false=>
       refine E.cond (t:=true) (by simp) (fun _=>?_) (fun h=>by cases h)
       refine E.seq (E.reg hr (by simp; rfl) ?_)
       refine E.ret ?_
       exact pureK.ret rfl rfl (by rw [hg,hb2]; simp) hS
     | true=>
       refine E.cond (t:=false) (by simp) (fun h=>by cases h) (fun _=>?_)
       refine E.skip (E.reg hr (by simp [hw]; rfl) ?_)
       rw [hb2,Bool.true_and] at hg
       exact ⟨i + 1,.keep rfl rfl rfl (by simp) (Sub.refl _),⟨by omega,hg⟩,by dsimp only; omega⟩
   · refine E.cond (t:=false) (by simp [hil]) (fun h=>by cases h) (fun _=>?_)
     refine E.exit ?_
     refine E.seq (E.reg hr (by simp; rfl) ?_)
     refine E.ret ?_
     rw [List.drop_of_length_le (by omega),List.all_nil] at hg
     exact pureK.ret rfl rfl (by rw [hg]; simp) hS
def Q57 (_:List Value) (H:Heap) (n:Nat) (v:Value) (H':Heap) (n':Nat):Prop:=v = .bool true ∧ H'=H ∧ n'=n
theorem w27g (l:List Int) (o c:Nat) (hl:l.length < 2 ^ 31):AC Tryz.prog 27 [.slice (some ⟨9,o,none⟩) l.length c] [(9,.inp o (l.map iv))] 10 (iv (firstV l)) [(9,.inp o (l.map iv))] 10:=by
 have hr:=recT_ok (P:=Tryz.prog) (l:=[(94,g94)]) (by simp [ok94])
 have hl':l.length < 2147483648:=by omega
 have ht:List.take l.length (l.map iv)=l.map iv:=List.take_of_length_le (by simp)
 refine AC.pure Tryz.func27 rfl (by kernel_rfl) rfl [] rfl ?_
 refine E.seq (E.reg hr (by simp; rfl) ?_)
 refine E.seq (E.reg hr (by simp [g94,intsAt,flat,hl',ht,intsOf_iv]; rfl) ?_)
 refine E.ret ?_
 exact pureK.ret rfl rfl (by simp) (by repeat first | exact sub_refl _ | refine sub_cons rfl ?_)
theorem ok27g:EntOk Tryz.prog (27,g94):=by
 intro args H n v H' n' h
 simp only [g94] at h
 split at h
 · rename_i a len c
   rw [Option.map_eq_some_iff] at h
   obtain ⟨l,h1,h⟩:=h
   injection h with e1 e2; injection e2 with e2 e3; subst e1 e2 e3
   obtain ⟨hf,hc,hlen,hlt⟩:=intsAt_ok h1
   subst hlen
   exact AC.liftP rfl (Part.one (fun s=>[s]) (by intro φ φ0 s s0 h; simp [denL,h]) (by intro p s h; exact ⟨h,trivial⟩) hf hc (afL_iv l) [] (by simp [Seen]) gsz fun c=>⟨_,_,w27g l _ c hlt⟩)
 · cases h
theorem nest_tidy {H:Heap} {n:Nat} (hold:∀ k b,hget H k=some b → k < n ∧ scB (· < n) b) {v:Value} {ls:List (List Int)} (h:nestV H v=some ls):nestV (tidy n H) v=some ls:=
 listV_tidy (decL_tidy decI_tidy) (fun k b hk=>(hold k b hk).1) h
theorem cell_read {H:Heap} {a o:Nat} {L:List Nat} (h:memN L a=true):cellA (readA L H) a o=cellA H a o:=by
 rw [cellA_eq,hget_readA,if_pos h,cellA_eq]
theorem w32 {H:Heap} {n:Nat} {v u:Value} {ls:List (List Int)} (h1:nestV H v=some ls) (h2:nestV H u=some ls):AC Tryz.prog 32 [v,u] H n (.bool true) H n:=by
 refine AC.given fun hold _ _=>AC.tidied (B:=[]) (by simp) ?_
 replace h1:=nest_tidy hold h1
 replace h2:=nest_tidy hold h2
 have hr:=recT_ok (P:=Tryz.prog) (l:=[(43,g43b)]) (by simp [ok43b])
 obtain ⟨oa,c,rfl,hlt,_,hrow⟩:=nestV_form h1
 obtain ⟨ob,d,rfl,_,_,hrow2⟩:=nestV_form h2
 refine AC.pure Tryz.func32 rfl (by kernel_rfl) rfl [0,1,5] rfl ?_
 refine E.seq (E.reg hr (by simp; rfl) ?_)
 refine E.seq (E.seq (E.reg hr (by simp; rfl) ?_))
 refine E.cond (t:=false) (by simp) (fun h=>by cases h) (fun _=>?_)
 refine E.skip (E.seq ?_)
 refine E.seq (E.reg hr (by simp; rfl) ?_)
 refine E.block (E.loop ?_)
 refine EL.ind (fun i:Nat=>{ fr:=[(0,.slice oa ls.length c),(1,.slice ob ls.length d),(5,iv i)],sz:=27,H:=tidy n H,n:=n,marks:=[],vs:=[0,1,5] }) (fun i=>ls.length - i) (fun i=>i ≤ ls.length) 0 (.keep rfl rfl rfl (by simp) (Sub.refl _)) (Nat.zero_le _) (fun _=>rfl) ?_
 intro i hi
 have hw:IntKind.i64.wrap ((i:Int) + 1)=(i:Int) + 1:=W_in (by omega) (by omega)
 refine E.seq (E.seq (E.reg hr (by simp; rfl) ?_))
 by_cases hlt':i < ls.length
 · obtain ⟨a,r,rfl,hf,hc,hv⟩:=hrow i hlt'
   obtain ⟨b,r2,rfl,hf2,hc2,hv2⟩:=hrow2 i hlt'
   have ha:=cellA_lt tidy_lt hc
   have hb:=cellA_lt tidy_lt hc2
   have hra:=cell_read (H:=tidy n H) (a:=a.block) (o:=a.off + i) (L:=[a.block]) (by simp)
   have hrb:=cell_read (H:=tidy n H) (a:=b.block) (o:=b.off + i) (L:=[b.block]) (by simp)
   refine E.cond (t:=true) (by simp [hlt']) (fun _=>?_) (fun h=>by cases h)
   refine E.skip (E.seq ?_)
   refine E.block (E.seq ?_)
   refine E.drawU mixed hr [8] [8] [3,7,8] (by kernel_rfl) (by simp [-cellA,-flat,-readA,hlt',hf,hf2,hra,hrb,hc,hc2,ha,hb,g43b,alikeV,hv,hv2]; rfl) ?_
   refine E.cond (t:=false) (by simp) (fun h=>by cases h) (fun _=>?_)
   refine E.skip (E.reg hr (by simp [hw]; rfl) ?_)
   exact ⟨i + 1,.keep rfl rfl rfl (by simp) (Sub.refl _),hlt',by dsimp only; omega⟩
 · refine E.cond (t:=false) (by simp [hlt']) (fun h=>by cases h) (fun _=>?_)
   refine E.exit ?_
   refine E.seq (E.reg hr (by simp; rfl) ?_)
   refine E.ret ?_
   exact pureK.ret rfl rfl (by simp) (Sub.refl _)
def alikeN (H:Heap) (v u:Value):Bool:=match nestV H v,nestV H u with
 | some x,some y=>decide (x=y)
 | _,_=>false
def g32 (args:List Value) (H:Heap) (n:Nat):R:=match args with
 | [v,u]=>if alikeN H v u=true then some (.bool true,H,n) else none
 | _=>none
theorem ok32:EntOk Tryz.prog (32,g32):=by
 intro args H n v H' n' h
 simp only [g32] at h
 split at h
 · split at h
   · rename_i hc
     injection h with h; injection h with e1 e2; injection e2 with e2 e3; subst e1 e2 e3
     unfold alikeN at hc
     split at hc
     · rename_i x y hx hy
       have:=of_decide_eq_true hc
       subst this
       exact w32 hx hy
     · cases hc
   · cases h
 · cases h
theorem stk_same {ts:List Trc} (hok:OkS ts) (l rl:List Int) (st e:Int) (k:Nat):Gn.sameF (stkL ts l rl st e k) (stkL ts l rl st e k)=true:=by
 refine sameF_of rfl fun i a b ha hb=>?_
 rw [ha] at hb
 injection hb with hb
 subst hb
 unfold stkL at ha
 rw [List.getElem?_map,Option.map_eq_some_iff] at ha
 obtain ⟨t,_,rfl⟩:=ha
 have h64:=hok.len.2
 have hLen:=livL_len ts t (velA l rl e t) st ts.length
 have hsa:=sumI_abs (f:=smpN ts t (velA l rl e t)) (M:=16384) (livA ts t (velA l rl e t) st) fun x _=>smpN_abs hok t (velA l rl e t) x
 have e1:16384 * (livA ts t (velA l rl e t) st).length ≤ 16384 * 64:=Nat.mul_le_mul_left _ (by unfold livA; omega)
 have hfb:=flr_b (x:=sumI (smpN ts t (velA l rl e t)) (livA ts t (velA l rl e t) st)) (c:=max 1 ((livA ts t (velA l rl e t) st).length:Nat)) (by omega) (M:=1048576) (by decide) ⟨by omega,by omega⟩
 unfold stkB
 have:=(smp_sampB (n:=flrV (sumI (smpN ts t (velA l rl e t)) (livA ts t (velA l rl e t) st)) (max 1 ((livA ts t (velA l rl e t) st).length:Nat))) (by omega)).2
 exact eqF_smp this this
theorem pksAt_mono {H H':Heap} (hs:Sub H H') {a:Addr} {L:Nat} {l:List Pk} (h:pksAt H a L=some l):pksAt H' a L=some l:=by
 unfold pksAt at h ⊢
 split at h
 · rename_i hf
   rw [if_pos hf]
   rw [Option.bind_eq_some_iff] at h ⊢
   obtain ⟨cs,h1,h2⟩:=h
   exact ⟨cs,hs.cells h1,h2⟩
 · cases h
theorem pksR_mono {H H':Heap} (hs:Sub H H') {v:Value} {l:List Pk} (h:pksR H v=some l):pksR H' v=some l:=by
 unfold pksR at h ⊢
 split at h
 · exact h
 · exact pksAt_mono hs h
 · cases h
theorem told_same {X : Heap} {N : Nat} {u v : Value} {P : List Pk} (hu : pksR X u = some P) (hv : pksR X v = some P) (hl : P.length ≤ 4096) (hm : PM N X) :
   ∃ x Y N',g80 [u] X N=some (x,Y,N') ∧ (∀ m,g79 [x,v] Y m=some (.bool true,Y,m)) ∧ Sub X Y:=by
 by_cases h0:P=[]
 · subst h0
   refine ⟨.slice none 0 0,X,N,by simp only [g80,hu,if_true],fun m=>if_pos ?_,Sub.refl _⟩
   unfold pksR at hv
   split at hv
   · exact .inl ⟨rfl,rfl⟩
   · rename_i a len c
     have hlen:=(pksAt_ok hv).2.2.1
     have:len=0:=hlen.symm
     subst this
     exact .inr (.inl ⟨rfl,a,c,rfl,hv⟩)
   · cases hv
 · have hn:P.length ≠ 0:=fun h=>h0 (List.length_eq_zero_iff.1 h)
   refine ⟨.slice (some ⟨N,0,some 0⟩) P.length 0,(N,.ext (pcs P) 100 3) :: X,N + 1,by simp only [g80,hu]; rw [if_neg h0,if_pos hl],fun m=>if_pos ?_,hm.sub⟩
   unfold pksR at hv
   split at hv
   · injection hv with hv; exact absurd hv.symm h0
   · rename_i a len c
     have hlen:=(pksAt_ok hv).2.2.1
     subst hlen
     have h1:=pks_view (t:=100) (G:=(N,.ext (pcs P) 100 3) :: X) (o:=N) (ps:=P) (fun _=>by rw [hget_cons,if_pos rfl]) (by omega)
     rw [outS_ne hn] at h1
     exact .inr (.inr ⟨P,_,_,a,c,rfl,rfl,h1,pksAt_mono hm.sub hv⟩)
   · cases hv
abbrev vs11:List Nat:=[2,3,4,7,8,9,10,11,12,13,14,15,16,17,18,19,20]
set_option maxRecDepth 20000 in
set_option maxHeartbeats 4000000 in
theorem w11z {T X : Heap} {n N : Nat} {p u s1 s2 l1 l2 : Value} {a b c : Int} {L : List (List Int)} {R : List Nat} {P : List Pk} (hS : Sub T X) (hm : PM N X) (hp : nestV X p = some L) (hu : nestV X u = some L) (h1 : reaV X s1 = some R) (h2 : reaV X s2 = some R) (hR : Gn.sameF R R = true) (k1 : pksR X l1 = some P) (k2 : pksR X l2 = some P) (hP : P.length ≤ 4096) :
   E Tryz.prog n none (cFrom (bodyOf Tryz.f11) 14) { fr:=[(8,p),(9,iv a),(10,s1),(11,iv b),(12,l1),(13,iv c),(15,iv a),(16,iv b),(17,iv c),(18,u),(19,s2),(20,l2)],sz:=145,H:=X,n:=N,marks:=[],vs:=vs11 } (pureK Tryz.prog Tryz.f11 T (.bool true)):=by
 have hr:=recT_ok (P:=Tryz.prog) (l:=[(32,g32),(78,Gn.g78F),(80,g80),(79,g79)]) (by simp only [List.forall_mem_cons]; exact ⟨ok32,Gn.ok78F,ok80,ok79,by simp⟩)
 obtain ⟨x,Y,N',h80,h79,hY⟩:=told_same k1 k2 hP hm
 have h32:∀ m,g32 [p,u] X m=some (.bool true,X,m):=fun m=>if_pos (by unfold alikeN; rw [hp,hu]; simp)
 have h78:∀ m,Gn.g78F [s1,s2] X m=some (.bool true,X,m):=fun m=>by
   simp only [Gn.g78F,flt_same,h1,h2,hR]
 refine E.seq (E.reg hr (by simp [h32,h78,h80,h79]; rfl) ?_)
 refine E.ret ?_
 exact pureK.ret rfl rfl (by simp) (hS.trans hY)
def ofV (rl:List Int):Int:=rl.getD 0 0
def Q75 (ts:List Trc) (l:List Int) (w st e:Int) (_:List Value) (H:Heap) (n:Nat) (v:Value) (H':Heap) (n':Nat):Prop:=∃ u,v = .tuple #[u,iv (panE2 (widF ts).1 e)] ∧ MadeV nestV H n H' n' u (panL2 ts l w st e)
def Q76 (ts:List Trc) (l rl:List Int) (st e:Int) (_:List Value) (H:Heap) (n:Nat) (v:Value) (H':Heap) (n':Nat):Prop:=∃ u,v = .tuple #[u,iv (rowE l rl (widF ts).1 e)] ∧ MadeV reaV H n H' n' u (stkR2 ts l rl st e)
def Q77 (l rl:List Int) (e d:Int) (_:List Value) (H:Heap) (n:Nat) (v:Value) (H':Heap) (n':Nat):Prop:=∃ u,v = .tuple #[u,iv (pckE l rl e)] ∧ MadeV pksR H n H' n' u (pckR l rl e d)
set_option maxRecDepth 20000 in
set_option maxHeartbeats 8000000 in
theorem w11y {T X : Heap} {n N : Nat} {p s1 l1 fv pv : Value} {s : ByteArray} {sl : Value} {ts : List Trc} {l rl : List Int} {w st e : Int} (hS : Sub T X) (hm : PM N X) (hnN : n + 2 ≤ N) (hb0 : hget X n = some (.cells [.string s, sl] 103)) (hb1 : hget X (n + 1) = some (.cells [fv, iv w, iv st, iv e] 26)) (hv : shtV X (.agg ⟨[.string s, sl]⟩) = some (s, ts)) (hl : intsW X fv = some l) (hrv : intV X pv = some rl) (hrl : rl.length ≤ 65)
   (hp:nestV X p=some (panL s ts l w st e)) (hs1:reaV X s1=some (stkR s ts l rl w st e)) (hl1:pksR X l1=some (pckL l rl w st e (ofV rl))) :
   E Tryz.prog n none (cFrom (bodyOf Tryz.f11) 7) { fr:=[(2,pv),(3,ptA n),(4,ptA (n + 1)),(7,iv (ofV rl)),(8,p),(9,iv (panE s ts l w st e)),(10,s1),(11,iv (stkE s ts l rl w st e)),(12,l1),(13,iv (pckF l rl w st e (ofV rl)))],sz:=145,H:=X,n:=N,marks:=[],vs:=vs11 } (pureK Tryz.prog Tryz.f11 T (.bool true)):=by
 have hr:=recT_ok (P:=Tryz.prog) (l:=[(62,g62),(22,g22),(27,g94),(37,g37),(75,gEx Tryz.prog 75 (Q75 ts l w st e)),(76,gEx Tryz.prog 76 (Q76 ts l rl st e)),(77,gEx Tryz.prog 77 (Q77 l rl e (ofV rl)))]) (by simp only [List.forall_mem_cons]; exact ⟨ok62,ok22,ok27g,ok37,gEx_ok,gEx_ok,gEx_ok,by simp⟩)
 have hr0:=recT_ok (P:=Tryz.prog) (l:=[]) (by simp)
 obtain ⟨d,hd⟩:∃ d,ofV rl=d:=⟨_,rfl⟩
 rw [hd] at hl1 hr ⊢
 obtain ⟨x1,hx1⟩:∃ x,panE s ts l w st e=x:=⟨_,rfl⟩
 obtain ⟨x2,hx2⟩:∃ x,stkE s ts l rl w st e=x:=⟨_,rfl⟩
 obtain ⟨x3,hx3⟩:∃ x,pckF l rl w st e d=x:=⟨_,rfl⟩
 rw [hx1,hx2,hx3]
 obtain ⟨e0,he0⟩:∃ x,shtE s ts=x:=⟨_,rfl⟩
 obtain ⟨s0,hs0⟩:∃ x,setE l w st e=x:=⟨_,rfl⟩
 obtain ⟨d0,hd0⟩:∃ x,withinV d 0 1000000000=x:=⟨_,rfl⟩
 obtain ⟨bad,hbad⟩:∃ x,firstV [e0,s0]=x:=⟨_,rfl⟩
 obtain ⟨t0,ht0⟩:∃ x,firstV [s0,d0]=x:=⟨_,rfl⟩
 have hX1:x1=if bad=0 then panE2 (widF ts).1 e else bad:=by
   rw [← hx1,← hbad,← he0,← hs0]
   unfold panE
   split
   · rename_i h
     have h1:shtE s ts=0:=first_zero h _ (by simp)
     unfold widE
     rw [if_pos h1]
     rfl
   · rfl
 have hX2:x2=if bad=0 then rowE l rl (widF ts).1 e else bad:=by
   rw [← hx2,← hbad,← he0,← hs0]
   unfold stkE
   split
   · rename_i h
     have h1:shtE s ts=0:=first_zero h _ (by simp)
     unfold widE
     rw [if_pos h1]
   · rfl
 have hX3:x3=if t0=0 then pckE l rl e else t0:=by rw [← hx3,← ht0,← hs0,← hd0]; rfl
 have hP1:panL s ts l w st e=if x1=0 then panR ts l w st e (timV (widE s ts) e).toNat else []:=by rw [← hx1]; rfl
 have hP2:stkR s ts l rl w st e=if x2=0 then stkL ts l rl st e (widN ts) else []:=by rw [← hx2]; rfl
 have hP3:pckL l rl w st e d=if x3=0 then pckA l rl e d rl.length else []:=by rw [← hx3]; rfl
 have hok:bad=0 → OkS ts ∧ SetOk l w st e ∧ widE s ts=(widF ts).1:=fun h=>by
   rw [h] at hbad
   have h1:=first_zero hbad e0 (by simp)
   have h2:=first_zero hbad s0 (by simp)
   refine ⟨shtE_ok (s:=s) (by rw [he0]; exact h1),set_ok (hs0.trans h2),?_⟩
   unfold widE
   rw [if_pos (he0.trans h1)]
 have hlI:=W_intV hl
 have hcs0:cellsA X n 0 2=some [.string s,sl]:=by rw [cellsA_eq,hb0]; rfl
 have hcs1:cellsA X (n + 1) 0 4=some [fv,iv w,iv st,iv e]:=by rw [cellsA_eq,hb1]; rfl
 have h62:∀ m,g62 [.agg ⟨[.string s,sl]⟩] (frzH X) m=some (iv e0,frzH X,m):=fun m=>by
   simp only [g62,shtV_frz,hv,he0]
 have h22:∀ {Y},Sub X Y → ∀ m,g22 [setA fv w st e] Y m=some (iv s0,Y,m):=fun h m=>by
   simp only [g22,intsW_mono h hl,Option.map_some,hs0]
 have h22X:=h22 (Sub.refl X)
 have h37:∀ Z m,g37 [iv d,iv 0,iv 1000000000] Z m=some (iv d0,Z,m):=fun Z m=>by rw [← hd0]; rfl
 have hI2:∀ (N:Nat) (Z:Heap) m (a b:Int),g94 [.slice (some ⟨N,0,none⟩) 2 2] ((N,.cells [iv a,iv b] 3) :: Z) m=some (iv (firstV [a,b]),(N,.cells [iv a,iv b] 3) :: Z,m):=fun N Z m a b=>by
   simp [g94,intsAt,intsOf]
 have hmn:=hm.nm
 have hmp:=hm.pl
 have hmt:=takeNew_frz hmn
 have hmn1:=(hm.wide (Nat.le_succ _)).nm
 have q0:n < N:=by omega
 have q1:n + 1 < N:=by omega
 refine E.seq (E.drawU mixed hr [3,4,5] [1,3,4,5] [0,1,3,4,5] (by kernel_rfl) (by simp [-cellA,-cellsA,-readA,cellsA_read,hmn,hmn1,hmp,hmt,q0,q1,hcs0,hcs1,h62,h22X,hI2,hbad]; rfl) ?_)
 obtain ⟨Y,hY⟩:∃ Z,(N,Blk.cells [iv e0,iv s0] 3) :: X=Z:=⟨_,rfl⟩
 have hpY:PM (N + 1) Y:=by rw [← hY]; exact hm.put rfl
 have hXY:Sub X Y:=by rw [← hY]; exact hm.sub
 rw [hY]
 refine E.lead { fr:=[(2,pv),(3,ptA n),(4,ptA (n + 1)),(7,iv d),(8,p),(9,iv x1),(10,s1),(11,iv x2),(12,l1),(13,iv x3),(14,iv bad)],sz:=145,H:=Y,n:=N + 1,marks:=[],vs:=vs11 } (.keep rfl rfl rfl (by simp) (Sub.refl _)) ?_
 have hl26:∀ {Y},Sub X Y → loadA Tryz.prog 26 Y (.pointer (some ⟨n + 1,0,none⟩))=some (setA fv w st e):=fun h=>by
   simp only [loadA,ag26,sz26,h.cells hcs1,Option.map_some]
 have hl26Y:=hl26 hXY
 have h22Y:=h22 hXY
 refine E.seq (E.reg hr (by simp [-loadA,hl26Y,h22Y,h37,hI2,ht0]; rfl) ?_)
 obtain ⟨Y2,hY2⟩:∃ Z,(N + 1,Blk.cells [iv s0,iv d0] 3) :: Y=Z:=⟨_,rfl⟩
 have hpY2:PM (N + 2) Y2:=by rw [← hY2]; exact hpY.put rfl
 have hXY2:Sub X Y2:=by rw [← hY2]; exact hXY.trans hpY.sub
 rw [hY2]
 refine E.seq (E.reg hr0 (by simp; rfl) ?_)
 refine E.seq (E.reg hr0 (by simp; rfl) ?_)
 refine E.seq (E.reg hr0 (by simp; rfl) ?_)
 refine E.cutG (α:=Heap × Nat × Value × Value) (fun x=>{ fr:=[(2,pv),(3,ptA n),(4,ptA (n + 1)),(7,iv d),(8,p),(9,iv x1),(10,s1),(11,iv x2),(12,l1),(13,iv x3),(15,iv x1),(16,iv x2),(17,iv t0),(18,x.2.2.1),(19,x.2.2.2),(20,.slice none 0 0)],sz:=145,H:=x.1,n:=x.2.1,marks:=[],vs:=vs11 }) (fun x=>PM x.2.1 x.1 ∧ Sub X x.1 ∧ nestV x.1 x.2.2.1=some (panL s ts l w st e) ∧ reaV x.1 x.2.2.2=some (stkR s ts l rl w st e) ∧ Gn.sameF (stkR s ts l rl w st e) (stkR s ts l rl w st e)=true) ?_ ?_
 · refine E.seq ?_
   refine E.reg hr0 (by simp; rfl) ?_
   by_cases hz:bad=0
   · obtain ⟨hS1,hS2,hS3⟩:=hok hz
     rw [if_pos hz] at hX1 hX2
     have hld:=load103 (hXY2 _ _ hb0)
     have hl26Z:=hl26 hXY2
     obtain ⟨v5,H5,n5,b1,u5,rfl,b2⟩:=gEx_at (Q:=Q75 ts l w st e) (by
       obtain ⟨u,H',n',h1,h2⟩:=w75 (H:=Y2) (n:=N + 2) (v:=.agg ⟨[.string s,sl]⟩) (shtV_mono hXY2 hv) (listV_mono decI_mono hXY2 hlI) hS1 hS2 hpY2.lt
       exact ⟨_,_,_,h1,u,rfl,h2⟩)
     obtain ⟨c4,c5,c6,c7⟩:=MadeV.alone hpY2 b2
     have hX5:=hXY2.trans c5
     rw [← hX1] at b1
     refine E.cond (t:=true) (by simp [hz]) (fun _=>?_) (fun h=>by cases h)
     refine E.seq (E.reg hr (by simp [-loadA,hld,hl26Z,b1]; rfl) ?_)
     have hld5:=load103 (hX5 _ _ hb0)
     have hl265:=hl26 hX5
     obtain ⟨v6,H6,n6,f1,u6,rfl,f2⟩:=gEx_at (Q:=Q76 ts l rl st e) (by
       obtain ⟨u,H',n',h1,h2⟩:=w76 (H:=H5) (n:=n5) (v:=.agg ⟨[.string s,sl]⟩) (shtV_mono hX5 hv) (listV_mono decI_mono hX5 hlI) (listV_mono decI_mono hX5 hrv) hS1 hS2 c4.lt
       exact ⟨_,_,_,h1,u,rfl,h2⟩)
     obtain ⟨d4,d5,d6,d7⟩:=MadeV.alone c4 f2
     rw [← hX2] at f1
     refine E.reg hr (by simp [-loadA,hld5,hl265,f1]; rfl) ?_
     have g1:panL2 ts l w st e=panL s ts l w st e:=by
       rw [hP1,hX1,hS3]; rfl
     have g2:stkR2 ts l rl st e=stkR s ts l rl w st e:=by
       rw [hP2,hX2]; rfl
     rw [g1] at c7
     rw [g2] at d7
     refine ⟨(H6,n6,u5,u6),⟨d4,hX5.trans d5,listV_mono (decL_mono decI_mono) d5 c7,d7,?_⟩,.keep rfl rfl rfl (by simp) (Sub.refl _)⟩
     rw [hP2]
     split
     · exact stk_same hS1 _ _ _ _ _
     · rfl
   · rw [if_neg hz] at hX1 hX2
     refine E.cond (t:=false) (by simp [hz]) (fun h=>by cases h) (fun _=>?_)
     refine E.skip ?_
     rw [if_neg (by rw [hX1]; exact hz)] at hP1
     rw [if_neg (by rw [hX2]; exact hz)] at hP2
     refine ⟨(Y2,N + 2,.slice none 0 0,.slice none 0 0),⟨hpY2,hXY2,by rw [hP1]; rfl,by rw [hP2]; rfl,by rw [hP2]; rfl⟩,.keep rfl rfl rfl (by simp [hX1,hX2]) (Sub.refl _)⟩
 rintro ⟨Y3,N3,u3,z3⟩ ⟨hp3,hXY3,k1,k2,k3⟩
 dsimp only at hp3 hXY3 k1 k2 k3 ⊢
 refine E.cutG (α:=Heap × Nat × Value) (fun x=>{ fr:=[(8,p),(9,iv x1),(10,s1),(11,iv x2),(12,l1),(13,iv x3),(15,iv x1),(16,iv x2),(17,iv x3),(18,u3),(19,z3),(20,x.2.2)],sz:=145,H:=x.1,n:=x.2.1,marks:=[],vs:=vs11 }) (fun x=>PM x.2.1 x.1 ∧ Sub Y3 x.1 ∧ pksR x.1 x.2.2=some (pckL l rl w st e d)) ?_ ?_
 · refine E.seq ?_
   refine E.reg hr0 (by simp; rfl) ?_
   by_cases hz:t0=0
   · rw [if_pos hz] at hX3
     rw [hz] at ht0
     have hS2:SetOk l w st e:=set_ok (hs0.trans (first_zero ht0 s0 (by simp)))
     have hl263:=hl26 hXY3
     obtain ⟨v5,H5,n5,b1,u5,rfl,b2⟩:=gEx_at (Q:=Q77 l rl e d) (by
       obtain ⟨u,H',n',h1,h2⟩:=w77 (H:=Y3) (n:=N3) (d:=d) (listV_mono decI_mono hXY3 hlI) (listV_mono decI_mono hXY3 hrv) hS2 hp3.lt
       exact ⟨_,_,_,h1,u,rfl,h2⟩)
     obtain ⟨c4,c5,c6,c7⟩:=MadeV.alone hp3 b2
     rw [← hX3] at b1
     refine E.cond (t:=true) (by simp [hz]) (fun _=>?_) (fun h=>by cases h)
     refine E.reg hr (by simp [-loadA,hl263,b1]; rfl) ?_
     have g1:pckR l rl e d=pckL l rl w st e d:=by rw [hP3,hX3]; rfl
     rw [g1] at c7
     exact ⟨(H5,n5,u5),⟨c4,c5,c7⟩,.keep rfl rfl rfl (by simp) (Sub.refl _)⟩
   · rw [if_neg hz] at hX3
     refine E.cond (t:=false) (by simp [hz]) (fun h=>by cases h) (fun _=>?_)
     refine E.skip ?_
     rw [if_neg (by rw [hX3]; exact hz)] at hP3
     exact ⟨(Y3,N3,.slice none 0 0),⟨hp3,Sub.refl _,by rw [hP3]; rfl⟩,.keep rfl rfl rfl (by simp [hX3]) (Sub.refl _)⟩
 rintro ⟨Y4,N4,u4⟩ ⟨hp4,hS34,m3⟩
 dsimp only at hp4 hS34 m3 ⊢
 have hXY4:=hXY3.trans hS34
 have hlen:(pckL l rl w st e d).length ≤ 4096:=by
   rw [hP3]
   split
   · rw [pckA_len]; omega
   · simp
 exact w11z (hS.trans hXY4) hp4 (listV_mono (decL_mono decI_mono) hXY4 hp) (listV_mono (decL_mono decI_mono) hS34 k1) (listV_mono decR_mono hXY4 hs1) (listV_mono decR_mono hS34 k2) k3 (pksR_mono hXY4 hl1) m3 hlen
def cpV (l:List Int) (n:Nat):Value:=if l=[] then .slice (some ⟨n,0,none⟩) 0 0 else .slice (some ⟨n,0,some 0⟩) l.length 0
def cpB (l:List Int):Blk:=if l=[] then .cells [] 3 else .ext (l.map iv) 3 1
theorem cp_plain (l:List Int):plainB2 (cpB l)=true:=by unfold cpB; split <;> rfl
theorem g21_at {H:Heap} {n:Nat} {fv:Value} {l:List Int} {w s e:Int} (h:intsW H fv=some l) (hl:l.length ≤ 4096):g21 [setA fv w s e] H n=some (setA (cpV l n) w s e,(n,cpB l) :: H,n + 1):=by
 simp only [g21,h]
 unfold cpV cpB
 split
 · rfl
 · rfl
theorem g34_at {H:Heap} {n:Nat} {fv:Value} {l:List Int} (h:intsW H fv=some l) (hl:l.length ≤ 4096):g34 [fv] H n=some (cpV l n,(n,cpB l) :: H,n + 1):=by
 simp only [g34,h]
 unfold cpV cpB
 split
 · rfl
 · rfl
theorem cp_int {H:Heap} {n:Nat} {l:List Int} (hl:l.length ≤ 4096):intsW ((n,cpB l) :: H) (cpV l n)=some l:=by
 unfold cpV cpB
 by_cases h:l=[]
 · subst h
   simp [intsW,intsAt,intsOf]
 · rw [if_neg h,if_neg h]
   unfold intsW intsAt
   dsimp only
   rw [if_pos (by simp [flat]; omega),cellsA_eq,hget_cons,if_pos rfl]
   simp only [Option.bind_some,cellsB]
   rw [if_pos (by simp),List.drop_zero,List.take_of_length_le (by simp),Option.bind_some,intsOf_iv]
def Q72 (s:ByteArray) (ts:List Trc) (l:List Int) (w st e:Int) (_:List Value) (H:Heap) (n:Nat) (v:Value) (H':Heap) (n':Nat):Prop:=∃ u,v = .tuple #[u,iv (panE s ts l w st e)] ∧ MadeV nestV H n H' n' u (panL s ts l w st e)
def Q73 (s:ByteArray) (ts:List Trc) (l rl:List Int) (w st e:Int) (_:List Value) (H:Heap) (n:Nat) (v:Value) (H':Heap) (n':Nat):Prop:=∃ u,v = .tuple #[u,iv (stkE s ts l rl w st e)] ∧ MadeV reaV H n H' n' u (stkR s ts l rl w st e)
def Q74 (l rl:List Int) (w st e d:Int) (_:List Value) (H:Heap) (n:Nat) (v:Value) (H':Heap) (n':Nat):Prop:=∃ u,v = .tuple #[u,iv (pckF l rl w st e d)] ∧ MadeV pksR H n H' n' u (pckL l rl w st e d)
theorem fanK_le {k:Nat} (h:fanK k=true):k ≤ 17:=by
 unfold fanK at h
 simp only [Bool.or_eq_true,decide_eq_true_eq] at h
 omega
theorem g16_at {H:Heap} {n:Nat} {fv:Value} {l:List Int} (h:intsW H fv=some l):g16 [fv] H n=some (.bool (fanK l.length),H,n):=by
 unfold intsW at h
 split at h
 · injection h with h; subst h; rfl
 · rename_i a len c
   obtain ⟨hf,hc,hlen,_⟩:=intsAt_ok h
   subst hlen
   have h0:cellsA H a.block a.off 0=some []:=by
     rw [cellsA_eq] at hc ⊢
     cases hb:hget H a.block with
     | none=>rw [hb] at hc; cases hc
     | some b=>
       rw [hb] at hc
       simp only [Option.bind_some] at hc ⊢
       cases b <;> simp only [cellsB] at hc ⊢
       all_goals first
         | (split at hc
            · rw [if_pos (by omega)]; simp
            · cases hc)
         | cases hc
   simp only [g16,hf,h0]
 · cases h
set_option maxHeartbeats 12800000 in
set_option maxRecDepth 100000 in
theorem w11a {H:Heap} {n:Nat} {s:ByteArray} {ts:List Trc} {sl fv pv:Value} {l rl:List Int} {w st e:Int} {Ls:List Nat} (h0:hget H 0=some (.inp 0 freeV)) (hR:dR H) (hv:shtV H (.agg ⟨[.string s,sl]⟩)=some (s,ts)) (hu:listV 10 decTL H sl=some Ls) (hss:s.size ≤ 60) (hLs:Ls.length ≤ 6 ∨ Ls.length=65) (hsh:Ls.all shortN=true) (hsm:∀ x ∈ ts,x.smp.length ≤ 1025) (hl:intsW H fv=some l) (hfan:fanK l.length=true) (hrv:intsW H pv=some rl) (hpl:rl.length ≤ 40 ∨ rl.length=65):AC Tryz.prog 11 [.agg ⟨[.string s,sl]⟩,setA fv w st e,pv] H n (.bool true) H n:=by
 refine AC.given fun hold hsc hgn=>AC.tidied (B:=[]) (by simp) ?_
 have h9:9 ≤ n:=gsz ▸ hgn
 have hlt:∀ k b,hget H k=some b → k < n:=fun k b h=>(hold k b h).1
 replace hv:=shtV_tidy (n:=n) hlt hv
 replace hu:=listV_tidy (n:=n) decTL_tidy hlt hu
 have tidyW:∀ {v:Value} {l:List Int},intsW H v=some l → intsW (tidy n H) v=some l:=fun {v l} hl=>by
   unfold intsW at hl ⊢
   split at hl
   · exact hl
   · unfold intsAt at hl ⊢
     split at hl
     · rename_i hf
       rw [if_pos hf]
       rw [Option.bind_eq_some_iff] at hl ⊢
       obtain ⟨cs,h1,h2⟩:=hl
       exact ⟨cs,cellsA_tidy hlt h1,h2⟩
     · cases hl
   · cases hl
 replace hl:=tidyW hl
 replace hrv:=tidyW hrv
 clear tidyW
 replace h0:hget (tidy n H) 0=some (.inp 0 freeV):=hget_tidy.2 ⟨h0,by omega,rfl⟩
 replace hR:hget (tidy n H) 1=some (.inp 0 rangesV):=hget_tidy.2 ⟨hR,by omega,rfl⟩
 replace hold:∀ k b,hget (tidy n H) k=some b → k < n ∧ scB (· < n) b:=fun k b h=>hold k b (hget_tidy.1 h).1
 clear hlt
 have hpm0:PM n (tidy n H):=PM.tidy
 obtain ⟨T,hT⟩:∃ T,tidy n H=T:=⟨_,rfl⟩
 rw [hT] at hv hu h0 hR hold hpm0 hl hrv ⊢
 obtain ⟨pa,pc,rfl,hrl31,_,hrrow⟩:=intV_form (W_intV hrv)
 have hl17:=fanK_le hfan
 have hr:=recT_ok (P:=Tryz.prog) (l:=[(15,g15),(57,gEx Tryz.prog 57 Q57),(16,g16),(59,gEx Tryz.prog 59 (Q59 s ts)),(21,g21),(34,g34),(72,gEx Tryz.prog 72 (Q72 s ts l w st e)),(73,gEx Tryz.prog 73 (Q73 s ts l rl w st e)),(74,gEx Tryz.prog 74 (Q74 l rl w st e (ofV rl)))]) (by simp only [List.forall_mem_cons]; exact ⟨ok15,gEx_ok,ok16,gEx_ok,ok21,ok34,gEx_ok,gEx_ok,gEx_ok,by simp⟩)
 have hr0:=recT_ok (P:=Tryz.prog) (l:=[]) (by simp)
 obtain ⟨u,e',ht⟩:=shtV_form hv
 obtain rfl:sl=u:=by
   injection e' with e; injection e with e; injection e with _ e; injection e
 clear e'
 obtain ⟨X,hX⟩:∃ X,(n + 1,Blk.cells [fv,iv w,iv st,iv e] 26) :: (n,Blk.cells [.string s,sl] 103) :: T=X:=⟨_,rfl⟩
 have hp1:PM (n + 1) ((n,Blk.cells [.string s,sl] 103) :: T):=hpm0.put rfl
 have hpX:PM (n + 2) X:=by rw [← hX]; exact hp1.put rfl
 have hTX:Sub T X:=by rw [← hX]; exact hpm0.sub.trans hp1.sub
 have hb0:hget X n=some (.cells [.string s,sl] 103):=by rw [← hX,hget_cons,if_neg (by omega),hget_cons,if_pos rfl]
 have hb1:hget X (n + 1)=some (.cells [fv,iv w,iv st,iv e] 26):=by rw [← hX,hget_cons,if_pos rfl]
 have hld:=load103 hb0
 have h15:∀ m,g15 [] X m=some (.bool true,X,m):=fun m=>if_pos ⟨rfl,hTX _ _ hR,hTX _ _ h0⟩
 have h57:∀ m,m=n + 1 + 1 → gEx Tryz.prog 57 Q57 [.agg ⟨[.string s,sl]⟩] X m=some (.bool true,X,m):=fun m hm=>by
   have:=w57 (H:=X) (n:=m) (s:=s) (listV_mono (dec:=decTL) (fun _ _ _ _ _ h=>h) hTX hu) hss hLs
   rw [hsh] at this
   obtain ⟨v,H',n',h1,rfl,rfl,rfl⟩:=gEx_at (Q:=Q57) ⟨_,_,_,this,rfl,rfl,rfl⟩
   exact h1
 replace h57:=h57 _ rfl
 have h16:∀ m,g16 [fv] X m=some (.bool true,X,m):=fun m=>by rw [g16_at (intsW_mono hTX hl),hfan]
 have c0:cellA X (n + 1) 0=some fv:=by rw [cellA_eq,hb1]; rfl
 have l24:loadA Tryz.prog 24 X (.pointer (some ⟨n + 1,0,none⟩))=some fv:=by simp [-cellA,c0]
 refine AC.pure Tryz.func11 rfl (by kernel_rfl) rfl vs11 rfl ?_
 refine E.seq (E.reg hr0 (by simp; rfl) ?_)
 rw [hX]
 refine E.seq (E.seq ?_)
 have hcl:(decide (40 < (rl.length:Int)) && !decide ((rl.length:Int)=65))=false:=by
   rw [Bool.and_eq_false_iff]
   rcases hpl with h | h
   · left; exact decide_eq_false (by omega)
   · right; rw [decide_eq_true (by omega)]; rfl
 by_cases h40:40 < (rl.length:Int)
 case' pos=>
   have h65:(rl.length:Int)=65:=by omega
   refine E.reg hr (by simp [-loadA,hld,h15,h57,h16,l24,h65]; rfl) ?_
 case' neg=>
   refine E.reg hr (by simp [-loadA,hld,h15,h57,h16,l24,h40]; rfl) ?_
 all_goals
   refine E.cond (t:=false) (by simp) (fun h=>by cases h) (fun _=>?_)
   refine E.skip ?_
   refine E.lead { fr:=[(2,.slice pa rl.length pc),(3,ptA n),(4,ptA (n + 1))],sz:=145,H:=X,n:=n + 2,marks:=[],vs:=vs11 } (.keep rfl rfl rfl (by simp) (Sub.refl _)) ?_
   clear h57 h15 h16 hcl
   have hsm2:∀ x ∈ ts,x.smp.length ≤ 1048576:=fun x hx=>by have:=hsm x hx; omega
   refine E.seq (E.reg hr0 (by simp; rfl) ?_)
   refine E.cutG (α:=Unit) (fun _=>{ fr:=[(2,.slice pa rl.length pc),(3,ptA n),(4,ptA (n + 1)),(7,iv (ofV rl))],sz:=145,H:=X,n:=n + 2,marks:=[],vs:=vs11 }) (fun _=>True) ?_ ?_
   · refine E.seq ?_
     refine E.reg hr0 (by simp; rfl) ?_
     by_cases hr0':0 < rl.length
     · obtain ⟨ra',rfl,hra1,hra2⟩:=hrrow 0 hr0'
       rw [Nat.add_zero] at hra2
       have hra3:=hTX.cell hra2
       have hov:ofV rl=rl[0]:=by unfold ofV; rw [List.getD_eq_getElem?_getD,List.getElem?_eq_getElem hr0']; rfl
       refine E.cond (t:=true) (by simp; omega) (fun _=>?_) (fun h=>by cases h)
       refine E.reg hr0 (by simp [-cellA,-flat,hr0',hra1,hra3]; rfl) ?_
       exact ⟨(),trivial,.keep rfl rfl rfl (by simp [hov]) (Sub.refl _)⟩
     · have hov:ofV rl=0:=by unfold ofV; rw [List.getD_eq_getElem?_getD,List.getElem?_eq_none (by omega)]; rfl
       refine E.cond (t:=false) (by simpa using hr0') (fun h=>by cases h) (fun _=>?_)
       refine E.skip ?_
       exact ⟨(),trivial,.keep rfl rfl rfl (by simp [hov]) (Sub.refl _)⟩
   rintro ⟨⟩ -
   have hcs0:cellsA X n 0 2=some [.string s,sl]:=by rw [cellsA_eq,hb0]; rfl
   have hcs1:cellsA X (n + 1) 0 4=some [fv,iv w,iv st,iv e]:=by rw [cellsA_eq,hb1]; rfl
   obtain ⟨u3,B3,n3,a1,a2,a3,a4,a5,a6,a7⟩:=call59 hold hv hTX hpX (by omega) hsm2
   have b1:=g21_at (n:=n3) (w:=w) (s:=st) (e:=e) (intsW_mono (hTX.trans a5) hl) (by omega)
   obtain ⟨Z1,hZ1⟩:∃ Z,(n3,cpB l) :: (B3 ++ X)=Z:=⟨_,rfl⟩
   have p1:PM (n3 + 1) Z1:=by rw [← hZ1]; exact a4.put (cp_plain l)
   have q1:Sub (B3 ++ X) Z1:=by rw [← hZ1]; exact a4.sub
   have i1:intsW Z1 (cpV l n3)=some l:=by rw [← hZ1]; exact cp_int (by omega)
   rw [hZ1] at b1
   obtain ⟨v5,H5,n5,d1,u5,rfl,d2⟩:=gEx_at (Q:=Q72 s ts l w st e) (by
     obtain ⟨u,H',n',h1,h2⟩:=w72 (H:=Z1) (n:=n3 + 1) (v:=u3) (w:=w) (st:=st) (e:=e) (q1 _ _ (a5 _ _ (hTX _ _ hR))) (shtV_mono q1 a7) i1 p1.lt (by omega)
     exact ⟨_,_,_,h1,u,rfl,h2⟩)
   obtain ⟨p2,q2,c6,c7⟩:=MadeV.alone p1 d2
   have hcs2:=a5.cells hcs1
   have hXn:=hpX.nm
   have hXp:=hpX.pl
   have p1n:=p1.nm
   have p2n:=p2.nm
   obtain ⟨e1,he1⟩:∃ x,panE s ts l w st e=x:=⟨_,rfl⟩
   rw [he1] at d1
   have m0:n < n + 2:=by omega
   have m1:n + 1 < n + 2:=by omega
   have m2:n3 ≤ n5:=by omega
   refine E.seq (E.drawU mixed hr [3,4] [1,3,4] [0,1,3,4] (by kernel_rfl) (by simp [-cellA,-cellsA,-readA,cellsA_read,hXn,hXp,hcs0,hcs2,a1,a2,a3,a6,b1,d1,p1n,p2n,c6,m0,m1]; rfl) ?_)
   have hX5:Sub X H5:=a5.trans (q1.trans q2)
   clear a1 a2 a3 a4 b1 d1 hXn hXp p1n p2n m0 m1 m2
   refine E.lead { fr:=[(2,.slice pa rl.length pc),(3,ptA n),(4,ptA (n + 1)),(7,iv (ofV rl)),(8,u5),(9,iv e1)],sz:=145,H:=H5,n:=n5,marks:=[],vs:=vs11 } (.keep rfl rfl rfl (by simp) (Sub.refl _)) ?_
   obtain ⟨u6,B6,n6,a1,a2,a3,a4,a5',a6',a7'⟩:=call59 hold hv (hTX.trans hX5) p2 (by omega) hsm2
   have hT6:=hTX.trans (hX5.trans a5')
   have b1:=g21_at (n:=n6) (w:=w) (s:=st) (e:=e) (intsW_mono hT6 hl) (by omega)
   obtain ⟨Z2,hZ2⟩:∃ Z,(n6,cpB l) :: (B6 ++ H5)=Z:=⟨_,rfl⟩
   have p3:PM (n6 + 1) Z2:=by rw [← hZ2]; exact a4.put (cp_plain l)
   have q3:Sub (B6 ++ H5) Z2:=by rw [← hZ2]; exact a4.sub
   have i2:intsW Z2 (cpV l n6)=some l:=by rw [← hZ2]; exact cp_int (by omega)
   rw [hZ2] at b1
   have b2:=g34_at (n:=n6 + 1) (intsW_mono (hT6.trans q3) hrv) (by omega)
   obtain ⟨Z3,hZ3⟩:∃ Z,(n6 + 1,cpB rl) :: Z2=Z:=⟨_,rfl⟩
   have p4:PM (n6 + 2) Z3:=by rw [← hZ3]; exact p3.put (cp_plain rl)
   have q4:Sub Z2 Z3:=by rw [← hZ3]; exact p3.sub
   have i3:intsW Z3 (cpV rl (n6 + 1))=some rl:=by rw [← hZ3]; exact cp_int (by omega)
   rw [hZ3] at b2
   obtain ⟨v7,H7,n7,d1,u7,rfl,d2⟩:=gEx_at (Q:=Q73 s ts l rl w st e) (by
     obtain ⟨u,H',n',h1,h2⟩:=w73 (H:=Z3) (n:=n6 + 2) (v:=u6) (w:=w) (st:=st) (e:=e) (q4 _ _ (q3 _ _ (hT6 _ _ hR))) (shtV_mono (q3.trans q4) a7') (intsW_mono q4 i2) (W_intV i3) p4.lt (by omega)
     exact ⟨_,_,_,h1,u,rfl,h2⟩)
   obtain ⟨p5,q5,c6',c8⟩:=MadeV.alone p4 d2
   have p2n:=p2.nm
   have p2p:=p2.pl
   have p3n:=p3.nm
   have p4n:=p4.nm
   have p5n:=p5.nm
   have hcs0':=hX5.cells hcs0
   have hcs1':=a5'.cells (hX5.cells hcs1)
   obtain ⟨e2,he2⟩:∃ x,stkE s ts l rl w st e=x:=⟨_,rfl⟩
   rw [he2] at d1
   have m0:n < n5:=by omega
   have m1:n + 1 < n5:=by omega
   have m2:n6 ≤ n7:=by omega
   refine E.seq (E.drawU mixed hr [3,5,6] [1,3,5,6] [0,1,3,5,6] (by kernel_rfl) (by simp [-cellA,-cellsA,-readA,cellsA_read,p2n,p2p,hcs0',hcs1',a1,a2,a3,a6',b1,b2,d1,p3n,p4n,p5n,c6',m0,m1]; rfl) ?_)
   have hX7:Sub X H7:=hX5.trans (a5'.trans (q3.trans (q4.trans q5)))
   have h57':Sub H5 H7:=a5'.trans (q3.trans (q4.trans q5))
   clear a1 a2 a3 a4 b1 b2 d1 p2n p2p p3n p4n p5n m0 m1 m2
   refine E.lead { fr:=[(2,.slice pa rl.length pc),(3,ptA n),(4,ptA (n + 1)),(7,iv (ofV rl)),(8,u5),(9,iv e1),(10,u7),(11,iv e2)],sz:=145,H:=H7,n:=n7,marks:=[],vs:=vs11 } (.keep rfl rfl rfl (by simp) (Sub.refl _)) ?_
   have b1:=g21_at (n:=n7) (w:=w) (s:=st) (e:=e) (intsW_mono (hTX.trans hX7) hl) (by omega)
   obtain ⟨Z4,hZ4⟩:∃ Z,(n7,cpB l) :: H7=Z:=⟨_,rfl⟩
   have p6:PM (n7 + 1) Z4:=by rw [← hZ4]; exact p5.put (cp_plain l)
   have q6:Sub H7 Z4:=by rw [← hZ4]; exact p5.sub
   have i4:intsW Z4 (cpV l n7)=some l:=by rw [← hZ4]; exact cp_int (by omega)
   rw [hZ4] at b1
   have b2:=g34_at (n:=n7 + 1) (intsW_mono (hTX.trans (hX7.trans q6)) hrv) (by omega)
   obtain ⟨Z5,hZ5⟩:∃ Z,(n7 + 1,cpB rl) :: Z4=Z:=⟨_,rfl⟩
   have p7:PM (n7 + 2) Z5:=by rw [← hZ5]; exact p6.put (cp_plain rl)
   have q7:Sub Z4 Z5:=by rw [← hZ5]; exact p6.sub
   have i5:intsW Z5 (cpV rl (n7 + 1))=some rl:=by rw [← hZ5]; exact cp_int (by omega)
   rw [hZ5] at b2
   obtain ⟨v9,H9,n9,d1,u9,rfl,d3⟩:=gEx_at (Q:=Q74 l rl w st e (ofV rl)) (by
     obtain ⟨u,H',n',h1,h2⟩:=w74 (H:=Z5) (n:=n7 + 2) (w:=w) (st:=st) (e:=e) (d:=ofV rl) (intsW_mono q7 i4) (W_intV i5) p7.lt
     exact ⟨_,_,_,h1,u,rfl,h2⟩)
   obtain ⟨p8,q8,c9,c10⟩:=MadeV.alone p7 d3
   have l26:loadA Tryz.prog 26 H7 (.pointer (some ⟨n + 1,0,none⟩))=some (setA fv w st e):=by
     simp only [loadA,ag26,sz26,hX7.cells hcs1,Option.map_some]
   obtain ⟨e3,he3⟩:∃ x,pckF l rl w st e (ofV rl)=x:=⟨_,rfl⟩
   rw [he3] at d1
   refine E.seq (E.reg hr (by simp [-loadA,l26,b1,b2,d1]; rfl) ?_)
   have h79:Sub H7 H9:=q6.trans (q7.trans q8)
   have hX9:=hX7.trans h79
   refine E.lead { fr:=[(2,.slice pa rl.length pc),(3,ptA n),(4,ptA (n + 1)),(7,iv (ofV rl)),(8,u5),(9,iv e1),(10,u7),(11,iv e2),(12,u9),(13,iv e3)],sz:=145,H:=H9,n:=n9,marks:=[],vs:=vs11 } (.keep rfl rfl rfl (by simp) (Sub.refl _)) ?_
   rw [← he1,← he2,← he3]
   exact w11y (hTX.trans hX9) p8 (by omega) (hX9 _ _ hb0) (hX9 _ _ hb1) (shtV_mono (hTX.trans hX9) hv) (intsW_mono (hTX.trans hX9) hl) (listV_mono decI_mono (hTX.trans hX9) (W_intV hrv)) (by omega) (listV_mono (decL_mono decI_mono) (h57'.trans h79) c7) (listV_mono decR_mono h79 c8) c10
end Go.Proofs.YtkongcnmkiihjaaGreatDoor
