/-
Contracts and plain reckonings behind the law VelocityAlike, part 6 of 8 (each under the conditions in its statement).
-/
import Derived.Lib.SplitLaws
import Derived.Lib.ItoaNum
import Derived.Test.YtkongcnmkiihjaaGreatDoorRd
import Derived.Test.YtkongcnmkiihjaaGreatDoorRe
import Derived.Test.YtkongcnmkiihjaaGreatDoorRa
namespace Go.Ab
open Go
structure PM (N:Nat) (X:Heap):Prop where
 nm:namesOk N X=true
 pl:plainH X=true
theorem frz_frz:∀ b:Blk,frz (frz b)=frz b
 | .cells _ _=>rfl
 | .ext _ _ _=>rfl
 | .inp _ _=>rfl
 | .row _ _=>rfl
 | .tab _=>rfl
 | .map _ _=>rfl
 | .iter _ _=>rfl
 | .miter _ _ _ _=>rfl
 | .defd=>rfl
 | .loop _ _ _ _ _ _ _ _ _=>rfl
theorem frzH_frzH:∀ H:Heap,frzH (frzH H)=frzH H
 | []=>rfl
 | (k,b) :: H=>by rw [frzH,frzH,frz_frz,frzH_frzH H]
theorem frzH_app:∀ A B:Heap,frzH (A ++ B)=frzH A ++ frzH B
 | [],_=>rfl
 | (k,b) :: A,B=>by rw [List.cons_append,frzH,frzH_app A B,frzH,List.cons_append]
theorem plain_of:∀ {H:Heap},plainH H=true → ∀ x ∈ H,plainB2 x.2=true
 | (k,b) :: H,h,x,hx=>by
   rw [plainH,Bool.and_eq_true] at h
   rcases List.mem_cons.1 hx with rfl | hx
   · exact h.1
   · exact plain_of h.2 x hx
theorem plain_hset {k:Nat} {b:Blk} (hb:plainB2 b=true):∀ {H:Heap},plainH H=true → plainH (hset H k b)=true
 | [],h=>h
 | (j,c) :: H,h=>by
   rw [plainH,Bool.and_eq_true] at h
   rw [hset]
   split
   · rw [plainH,hb,h.2]; rfl
   · rw [plainH,h.1,plain_hset hb h.2]; rfl
section
variable {N N':Nat} {X:Heap}
theorem PM.lt (h:PM N X):∀ k b,hget X k=some b → k < N:=fun k b hk=>namesOk_iff.1 h.nm (k,b) (hget_mem _ _ _ hk)
theorem PM.new (h:PM N X):∀ j,N ≤ j → hget X j=none:=fun j hj=>by
 cases hc:hget X j with
 | none=>rfl
 | some b=>have:=h.lt _ _ hc; omega
theorem PM.plain (h:PM N X):∀ k b,hget X k=some b → plainB2 b=true:=fun k b hk=>plain_of h.pl (k,b) (hget_mem _ _ _ hk)
theorem PM.tidy {H:Heap}:PM N (Ab.tidy N H):=⟨by simp,by simp⟩
theorem PM.put (h:PM N X) {b:Blk} (hb:plainB2 b=true):PM (N + 1) ((N,b) :: X):=⟨namesOk_put (Nat.lt_succ_self _) (namesOk_mono (Nat.le_succ _) _ h.nm),by rw [plainH,hb,h.pl]; rfl⟩
theorem PM.wide (h:PM N X) (hN:N ≤ N'):PM N' X:=⟨namesOk_mono hN _ h.nm,h.pl⟩
theorem PM.sub (h:PM N X) {b:Blk}:Sub X ((N,b) :: X):=Sub.cons (h.new _ (Nat.le_refl _)) (Sub.refl _)
theorem PM.app (h:PM N X) {B:Heap} (hB:∀ x ∈ B,N ≤ x.1 ∧ x.1 < N') (hp:plainH B=true) (hN:N ≤ N'):PM N' (B ++ X) ∧ Sub X (B ++ X) ∧ takeNew N (B ++ frzH X)=B ∧ namesOk N' B=true:=by
 refine ⟨⟨namesOk_iff.2 fun x hx=>?_,plainH_app hp h.pl⟩,fun k b hk=>?_,?_,namesOk_iff.2 fun x hx=>(hB x hx).2⟩
 · rcases List.mem_append.1 hx with hx | hx
   · exact (hB x hx).2
   · have:=namesOk_iff.1 h.nm x hx; omega
 · rw [hget_app]
   cases hc:hget B k with
   | none=>exact hk
   | some c=>
     have:=(hB _ (hget_mem _ _ _ hc)).1
     have:=h.lt _ _ hk
     dsimp only at *
     omega
 · rw [takeNew_app fun x hx=>(hB x hx).1,takeNew_frz h.nm,List.append_nil]
theorem PM.set (h:PM N X) {k:Nat} {b:Blk} (hb:plainB2 b=true):PM N (hset X k b):=⟨namesOk_hset h.nm,plain_hset hb h.pl⟩
theorem MadeS.late {H':Heap} {u:Value} {x:ByteArray × List Trc} (hm:PM N X) (h:MadeS (frzH X) N H' N' u x):∃ B,H'=B ++ frzH X ∧ takeNew N (B ++ frzH X)=B ∧ namesOk N' B=true ∧ PM N' (B ++ X) ∧ Sub X (B ++ X) ∧ N ≤ N' ∧ shtV (B ++ X) u=some x:=by
 obtain ⟨B,rfl,hB,hp⟩:=h.app
 obtain ⟨h1,h2,h3,h4⟩:=hm.app hB hp h.le
 refine ⟨B,rfl,h3,h4,h1,h2,h.le,?_⟩
 have:=h.view
 rw [← shtV_frz,frzH_app,frzH_frzH,← frzH_app,shtV_frz] at this
 exact this
theorem MadeS.alone {H':Heap} {u:Value} {x:ByteArray × List Trc} (hm:PM N X) (h:MadeS X N H' N' u x):PM N' H' ∧ Sub X H' ∧ N ≤ N' ∧ shtV H' u=some x:=by
 obtain ⟨B,rfl,hB,hp⟩:=h.app
 obtain ⟨h1,h2,_,_⟩:=hm.app hB hp h.le
 exact ⟨h1,h2,h.le,h.view⟩
end
end Go.Ab
namespace Go.Proofs.YtkongcnmkiihjaaGreatDoor
open Go Go.Ab Go.Proofs
theorem flat_n {b o:Nat}:flat ⟨b,o,none⟩=true:=rfl
section
variable {n:Nat} {H:Heap}
theorem tidy_lt:∀ k b,hget (tidy n H) k=some b → k < n:=fun _ _ h=>(hget_tidy.1 h).2.1
end
def Q59 (s:ByteArray) (ts:List Trc) (_:List Value) (H:Heap) (n:Nat) (u:Value) (H':Heap) (n':Nat):Prop:=MadeS H n H' n' u (s,ts)
theorem scL_mem' {p:Nat → Prop}:∀ {vs:List Value} {i:Nat} {v:Value},scL p vs → vs[i]? = some v → sc p v
 | [],_,_,_,h=>by simp at h
 | v :: vs,0,w,hs,h=>by simp at h; subst h; exact hs.1
 | v :: vs,i + 1,w,hs,h=>scL_mem' hs.2 (by simpa using h)
theorem sc_cell {p:Nat → Prop} {H:Heap} {k o:Nat} {q:Value} {b:Blk} (hb:hget H k=some b) (hs:scB p b) (h:cellA H k o=some q):sc p q:=by
 rw [cellA_eq,hb] at h
 cases b with
 | cells cs t=>exact scL_mem' hs h
 | ext cs t sz=>exact scL_mem' hs h
 | row cs sz=>exact scL_mem' hs h
 | inp o' cs=>
   simp only [Option.bind_some,cellB] at h
   split at h
   · exact scL_mem' hs h
   · cases h
 | _=>cases h
end Go.Proofs.YtkongcnmkiihjaaGreatDoor
namespace Go.Ab
open Go Ieee
theorem smp_sampB {n:Int} (hn:n.natAbs < 2 ^ 24):FloatKind.f32.format.div (FloatKind.f32.nearest n) 1098907648=some (sampB n) ∧ smp (sampB n) n:=by
 obtain ⟨r,h1,h2⟩:=smp_told hn
 have h3:sampB n=r:=by
   unfold sampB sampQ
   rw [show FloatKind.f32.format=single from rfl,h1]
   rfl
 rw [h3]
 exact ⟨h1,h2⟩
end Go.Ab
namespace Go.Proofs.YtkongcnmkiihjaaGreatDoor
open Go Go.Ab Go.Proofs
theorem sameF_of:∀ {l k:List Nat},l.length=k.length → (∀ (i a b:Nat),l[i]? = some a → k[i]? = some b → Gn.eqF a b=true) → Gn.sameF l k=true
 | [],[],_,_=>rfl
 | a :: l,b :: k,h,hx=>by
   show (Gn.eqF a b && Gn.sameF l k)=true
   rw [hx 0 a b rfl rfl,sameF_of (by simpa using h) fun i x y h1 h2=>hx (i + 1) x y (by simpa using h1) (by simpa using h2)]
   rfl
 | [],_ :: _,h,_=>by simp at h
 | _ :: _,[],h,_=>by simp at h
theorem eqF_smp {a b:Nat} {n:Int} (ha:smp a n) (hb:smp b n):Gn.eqF a b=true:=by
 have:=smp_ord ha hb
 unfold Gn.eqF
 rw [show FloatKind.f32.format.order a b=Ieee.single.order a b from rfl,this,show compare n n = .eq from by simp]
 rfl
theorem smp_six {b:Nat} (h:good32 b=true):smp b (six32 b):=by
 refine ⟨?_,(good_six h).1⟩
 unfold good32 at h
 simp only [Bool.and_eq_true,decide_eq_true_eq] at h
 exact h.1.1
def timV (W e:Int):Int:=(W + e - 1) / e
theorem timV_b {W e:Int} (hW:0 ≤ W ∧ W ≤ 1024) (he:1 ≤ e ∧ e ≤ 1024):0 ≤ timV W e ∧ timV W e ≤ 1024:=by
 unfold timV
 refine ⟨Int.ediv_nonneg (by omega) (by omega),?_⟩
 by_cases h:W=0
 · subst h
   rw [Int.ediv_eq_zero_of_lt (by omega) (by omega)]; omega
 · have:(W + e - 1) / e ≤ W:=by
     refine Int.le_of_lt_add_one (Int.ediv_lt_of_lt_mul (by omega) ?_)
     have:W * e ≥ W:=by
       have:=Int.mul_le_mul_of_nonneg_left he.1 hW.1
       omega
     rw [Int.add_mul]
     omega
   omega
set_option maxRecDepth 50000 in
theorem w143 {H:Heap} {n:Nat} {s:ByteArray} {u:Value} {W e:Int} (hW:0 ≤ W ∧ W ≤ 1024) (he:1 ≤ e ∧ e ≤ 1024):AC Tryz.prog 143 [.agg ⟨[.string s,u,iv W]⟩,iv e] H n (iv (timV W e)) H n:=by
 refine AC.given fun hold hsc hgn=>AC.tidied (B:=[]) (by simp) ?_
 have hr:=recT_ok (P:=Tryz.prog) (l:=[]) (by simp)
 have h1:IntKind.i64.wrap (W + e)=W + e:=W_in (by omega) (by omega)
 have h2:IntKind.i64.wrap (W + e - 1)=W + e - 1:=W_in (by omega) (by omega)
 have hq:(W + e - 1).tdiv e=timV W e:=Int.tdiv_eq_ediv_of_nonneg (by omega)
 have hb:=timV_b hW he
 have h3:IntKind.i64.wrap (timV W e)=timV W e:=W_in (by omega) (by omega)
 have he0:e ≠ 0:=by omega
 refine AC.pure Tryz.func143 rfl (by kernel_rfl) rfl [1,2] rfl ?_
 refine E.seq (E.reg hr (by simp; rfl) ?_)
 refine E.seq (E.reg hr (by simp [h1,h2,bin_quo he0,hq,h3]; rfl) ?_)
 refine E.ret ?_
 exact pureK.ret rfl rfl rfl (Sub.cons (by simp) (Sub.refl _))
def g143 (args:List Value) (H:Heap) (n:Nat):R:=match args with
 | [.agg ⟨[.string _,_,.int .i64 W]⟩,.int .i64 e]=>if (0 ≤ W ∧ W ≤ 1024) ∧ 1 ≤ e ∧ e ≤ 1024 then some (iv (timV W e),H,n) else none
 | _=>none
theorem ok143:EntOk Tryz.prog (143,g143):=by
 intro args H n v H' n' h
 simp only [g143] at h
 split at h
 · split at h
   · rename_i hW
     injection h with h; injection h with e1 e2; injection e2 with e2 e3; subst e1 e2 e3
     exact w143 hW.1 hW.2
   · cases h
 · cases h
def flrV (x c:Int):Int:=(2 * x + c) / (2 * c)
theorem flr_t {n d:Int} (hd:1 ≤ d):n / d=if n < 0 ∧ n.tdiv d * d ≠ n then n.tdiv d - 1 else n.tdiv d:=by
 have h2:=Int.mul_ediv_add_emod n d
 have h4:=Int.emod_lt_of_pos n (show 0 < d by omega)
 rw [Int.tdiv_eq_ediv]
 by_cases h:0 ≤ n ∨ d ∣ n
 · rw [if_pos h,Int.add_zero,if_neg]
   rintro ⟨h5,h6⟩
   rcases h with h | h
   · omega
   · exact h6 (Int.ediv_mul_cancel h)
 · rw [if_neg h,Int.sign_eq_one_of_pos (by omega),if_pos]
   · omega
   · refine ⟨by omega,fun h5=>?_⟩
     rw [Int.add_mul,Int.one_mul,Int.mul_comm] at h5
     omega
theorem flr_b {x c:Int} (hc:1 ≤ c) {M:Int} (hM:0 ≤ M) (hx:-M ≤ x ∧ x ≤ M):-M - 1 ≤ flrV x c ∧ flrV x c ≤ M + 1:=by
 unfold flrV
 have h2c:0 < 2 * c:=by omega
 have hMc:M * c ≥ M:=by
   have:=Int.mul_le_mul_of_nonneg_left hc hM
   omega
 constructor
 · refine (Int.le_ediv_iff_mul_le h2c).2 ?_
   have:(-M - 1) * (2 * c) = -(2 * (M * c)) - 2 * c:=by
     rw [Int.sub_mul,Int.neg_mul,Int.one_mul,Int.mul_left_comm]
   omega
 · have:(2 * x + c) / (2 * c) < M + 1 + 1:=by
     refine Int.ediv_lt_of_lt_mul h2c ?_
     have:(M + 1 + 1) * (2 * c)=2 * (M * c) + 2 * c + 2 * c:=by
       rw [Int.add_mul,Int.add_mul,Int.one_mul,Int.mul_left_comm]
     omega
   omega
theorem w147 {x c:Int} (hx:-1099511627776 ≤ x ∧ x ≤ 1099511627776) (hc:1 ≤ c ∧ c ≤ 1048576):AC Tryz.prog 147 [iv x,iv c] [] 9 (iv (flrV x c)) [] 9:=by
 have hr:=recT_ok (P:=Tryz.prog) (l:=[]) (by simp)
 have h1:IntKind.i64.wrap (2 * x)=2 * x:=W_in (by omega) (by omega)
 have h2:IntKind.i64.wrap (2 * x + c)=2 * x + c:=W_in (by omega) (by omega)
 have h3:IntKind.i64.wrap (2 * c)=2 * c:=W_in (by omega) (by omega)
 have hc0:2 * c ≠ 0:=by omega
 have hf:=flr_t (n:=2 * x + c) (d:=2 * c) (by omega)
 have hq2:((2 * x + c).tdiv (2 * c)).natAbs ≤ (2 * x + c).natAbs:=by
   rw [Int.natAbs_tdiv]; exact Nat.div_le_self _ _
 have hqm:=Int.natAbs_mul ((2 * x + c).tdiv (2 * c)) (2 * c)
 have hqm2:((2 * x + c).tdiv (2 * c)).natAbs * (2 * c).natAbs ≤ (2 * x + c).natAbs:=by
   rw [Int.natAbs_tdiv]; exact Nat.div_mul_le_self _ _
 obtain ⟨q,hq⟩:∃ q,(2 * x + c).tdiv (2 * c)=q:=⟨_,rfl⟩
 rw [hq] at hf hq2 hqm hqm2
 obtain ⟨m,hm⟩:∃ m,2 * x + c=m:=⟨_,rfl⟩
 have hfl:flrV x c=m / (2 * c):=by rw [← hm]; rfl
 rw [hfl]
 rw [hm] at h2 hq hf hq2 hqm2
 have h4:IntKind.i64.wrap q=q:=W_in (by omega) (by omega)
 have h5:IntKind.i64.wrap (q * 2)=q * 2:=W_in (by omega) (by omega)
 have hqc:q * 2 * c=q * (2 * c):=by rw [Int.mul_assoc]
 have h6:IntKind.i64.wrap (q * 2 * c)=q * (2 * c):=by rw [hqc]; exact W_in (by omega) (by omega)
 have h7:IntKind.i64.wrap (q - 1)=q - 1:=W_in (by omega) (by omega)
 refine AC.pure Tryz.func147 rfl (by kernel_rfl) rfl [1,5,6] rfl ?_
 refine E.seq (E.reg hr (by simp; rfl) ?_)
 refine E.seq (E.reg hr (by simp [h1,hm,h2]; rfl) ?_)
 refine E.seq (E.reg hr (by simp [h3,bin_quo hc0,hq,h4]; rfl) ?_)
 refine E.seq (E.seq ?_)
 by_cases hn:m < 0
 · by_cases he:q * (2 * c)=m
   · rw [if_neg fun h=>h.2 he] at hf
     refine E.reg hr (by simp [hn,h5,h6,he]; rfl) ?_
     refine E.cond (t:=false) (by simp) (fun h=>by cases h) (fun _=>?_)
     refine E.skip (E.seq (E.reg hr (by simp; rfl) ?_))
     refine E.ret ?_
     exact pureK.ret rfl rfl (by simp [hf]) (sub_refl _)
   · rw [if_pos ⟨hn,he⟩] at hf
     refine E.reg hr (by simp [hn,h5,h6,he]; rfl) ?_
     refine E.cond (t:=true) (by simp) (fun _=>?_) (fun h=>by cases h)
     refine E.reg hr (by simp [h7]; rfl) ?_
     refine E.seq (E.reg hr (by simp; rfl) ?_)
     refine E.ret ?_
     exact pureK.ret rfl rfl (by simp [hf]) (sub_refl _)
 · rw [if_neg fun h=>hn h.1] at hf
   refine E.reg hr (by simp [hn]; rfl) ?_
   refine E.cond (t:=false) (by simp) (fun h=>by cases h) (fun _=>?_)
   refine E.skip (E.seq (E.reg hr (by simp; rfl) ?_))
   refine E.ret ?_
   exact pureK.ret rfl rfl (by simp [hf]) (sub_refl _)
def flrB (x c:Int):Prop:=(-1099511627776 ≤ x ∧ x ≤ 1099511627776) ∧ 1 ≤ c ∧ c ≤ 1048576
instance (x c:Int):Decidable (flrB x c):=by unfold flrB; infer_instance
def g147 (args:List Value) (H:Heap) (n:Nat):R:=match args with
 | [.int .i64 x,.int .i64 c]=>if flrB x c then some (iv (flrV x c),H,n) else none
 | _=>none
theorem ok147:EntOk Tryz.prog (147,g147):=by
 intro args H n v H' n' h
 simp only [g147] at h
 split at h
 · split at h
   · rename_i hc
     injection h with h; injection h with e1 e2; injection e2 with e2 e3; subst e1 e2 e3
     exact AC.liftP rfl (Part.plain (by simp) [] (by simp [Seen]) gsz ⟨_,_,w147 hc.1 hc.2⟩)
   · cases h
 · cases h
def badR (k:Nat) (x:Int):Bool:=decide (x < 0) || decide ((k:Int) ≤ x)
theorem w175 {H:Heap} {n m k c:Nat} {oa:Option Addr} {x:Int} (hb:cellA H m 0=some (.slice oa k c)):AC Tryz.prog 175 [iv x,ptA m] H n (.bool (badR k x)) H n:=by
 have hr:=recT_ok (P:=Tryz.prog) (l:=[]) (by simp)
 have hld:loadA Tryz.prog 24 H (.pointer (some ⟨m,0,none⟩))=some (.slice oa k c):=by simp [-cellA,hb]
 refine AC.pure Tryz.func175 rfl (by kernel_rfl) rfl [] rfl ?_
 refine E.seq (E.reg hr (by simp; rfl) ?_)
 refine E.seq ?_
 by_cases h0:x < 0
 case' pos=>
   refine E.reg hr (by simp [-loadA,h0]; rfl) ?_
 case' neg=>
   refine E.reg hr (by simp [-loadA,h0,hld]; rfl) ?_
 all_goals
   refine E.ret ?_
   exact pureK.ret rfl rfl (by simp [badR,h0]) (Sub.refl _)
def g175 (args:List Value) (H:Heap) (n:Nat):R:=match args with
 | [.int .i64 x,.pointer (some ⟨m,0,none⟩)]=>match cellA H m 0 with
   | some (.slice _ k _)=>some (.bool (badR k x),H,n)
   | _=>none
 | _=>none
theorem ok175:EntOk Tryz.prog (175,g175):=by
 intro args H n v H' n' h
 simp only [g175] at h
 split at h
 · split at h
   · rename_i hb
     injection h with h; injection h with e1 e2; injection e2 with e2 e3; subst e1 e2 e3
     exact w175 hb
   · cases h
 · cases h
def idxB (k:Nat) (l:List Int):Int:=match l.findIdx? (badR k) with
 | some i=>i
 | none=>-1
theorem idxB_any (k:Nat) (l:List Int):decide (0 ≤ idxB k l)=l.any (badR k):=by
 unfold idxB
 cases h:l.findIdx? (badR k) with
 | none=>
   rw [List.findIdx?_eq_none_iff] at h
   have:l.any (badR k)=false:=by rw [List.any_eq_false]; intro x hx; rw [h x hx]; decide
   rw [this]; rfl
 | some i=>
   have h2:l.any (badR k)=true:=by
     rw [List.findIdx?_eq_some_iff_getElem] at h
     obtain ⟨hi,h1,_⟩:=h
     exact List.any_eq_true.2 ⟨l[i],List.getElem_mem hi,h1⟩
   rw [h2]
   show decide ((0:Int) ≤ (i:Int))=true
   exact decide_eq_true (by omega)
set_option maxRecDepth 50000 in
theorem w164 {H:Heap} {n m k c:Nat} {oa:Option Addr} {v:Value} {l:List Int} (hV:intV H v=some l) (hb:cellA H m 0=some (.slice oa k c)):AC Tryz.prog 164 [v,.func (.func 175) #[] #[ptA m]] H n (iv (idxB k l)) H n:=by
 have hr:=recT_ok (P:=Tryz.prog) (l:=[(175,g175)]) (by simp only [List.forall_mem_cons]; exact ⟨ok175,by simp⟩)
 obtain ⟨ob,d,rfl,hlt,_,hrow⟩:=intV_form hV
 refine AC.pure Tryz.func164 rfl (by kernel_rfl) rfl [0,1,7,8] rfl ?_
 refine E.seq (E.reg hr (by simp; rfl) ?_)
 refine E.seq (E.seq (E.reg hr (by simp; rfl) ?_))
 refine E.block (E.loop ?_)
 refine EL.ind (fun i:Nat=>{ fr:=[(0,.slice ob l.length d),(1,.func (.func 175) #[] #[ptA m]),(7,iv l.length),(8,iv i)],sz:=19,H:=H,n:=n,marks:=[],vs:=[0,1,7,8] }) (fun i=>l.length - i) (fun i=>i ≤ l.length ∧ ∀ j (h:j < l.length),j < i → badR k l[j]=false) 0 (.keep rfl rfl rfl (by simp) (Sub.refl _)) ⟨Nat.zero_le _,by omega⟩ (fun _=>rfl) ?_
 rintro i ⟨hi,hg⟩
 have hw:IntKind.i64.wrap ((i:Int) + 1)=(i:Int) + 1:=W_in (by omega) (by omega)
 refine E.seq (E.reg hr (by simp; rfl) ?_)
 refine E.seq ?_
 by_cases hil:i < l.length
 · obtain ⟨a,rfl,hf,hc⟩:=hrow i hil
   have hg175:∀ q,g175 [iv l[i],ptA m] H q=some (.bool (badR k l[i]),H,q):=fun q=>by
     simp only [g175,hb]
   refine E.cond (t:=true) (by simp [hil]) (fun _=>?_) (fun h=>by cases h)
   refine E.skip (E.seq ?_)
   refine E.block (E.seq (E.reg hr (by simp; rfl) ?_))
   refine E.seq (E.reg hr (by simp [-cellA,-flat,run_vcall_tmp,vcallF,target,hil,hf,hc,hg175]; rfl) ?_)
   cases hz:badR k l[i] with
   | false=>
     refine E.cond (t:=false) (by simp) (fun h=>by cases h) (fun _=>?_)
     refine E.skip (E.reg hr (by simp [hw]; rfl) ?_)
     exact ⟨i + 1,.keep rfl rfl rfl (by simp) (Sub.refl _),⟨hil,fun j hj hlt=>by
       rcases Nat.lt_or_ge j i with h | h
       · exact hg j hj h
       · have:j=i:=by omega
         subst this; exact hz⟩,by dsimp only; omega⟩
   | true=>
     refine E.cond (t:=true) (by simp) (fun _=>?_) (fun h=>by cases h)
     refine E.seq (E.reg hr (by simp; rfl) ?_)
     refine E.ret ?_
     have:l.findIdx? (badR k)=some i:=by
       rw [List.findIdx?_eq_some_iff_getElem]
       exact ⟨hil,hz,fun j hj=>by simpa using hg j (by omega) hj⟩
     exact pureK.ret rfl rfl (by simp [idxB,this]) (Sub.refl _)
 · refine E.cond (t:=false) (by simp [hil]) (fun h=>by cases h) (fun _=>?_)
   refine E.exit ?_
   refine E.seq (E.reg hr (by simp; rfl) ?_)
   refine E.ret ?_
   have:l.findIdx? (badR k)=none:=by
     rw [List.findIdx?_eq_none_iff]
     intro x hx
     obtain ⟨j,hj,rfl⟩:=List.getElem_of_mem hx
     exact hg j hj (by omega)
   exact pureK.ret rfl rfl (by simp [idxB,this]) (Sub.refl _)
def g164 (args:List Value) (H:Heap) (n:Nat):R:=match args with
 | [v,.func (.func 175) ⟨[]⟩ ⟨[.pointer (some ⟨m,0,none⟩)]⟩]=>match intV H v,cellA H m 0 with
   | some l,some (.slice _ k _)=>some (iv (idxB k l),H,n)
   | _,_=>none
 | _=>none
theorem ok164:EntOk Tryz.prog (164,g164):=by
 intro args H n v H' n' h
 simp only [g164] at h
 split at h
 · split at h
   · rename_i h1 h2
     injection h with h; injection h with e1 e2; injection e2 with e2 e3; subst e1 e2 e3
     exact w164 h1 h2
   · cases h
 · cases h
theorem w107 {H:Heap} {n m k c:Nat} {oa:Option Addr} {v:Value} {l:List Int} (hV:intV H v=some l) (hb:cellA H m 0=some (.slice oa k c)):AC Tryz.prog 107 [v,.func (.func 175) #[] #[ptA m]] H n (.bool (l.any (badR k))) H n:=by
 have hr:=recT_ok (P:=Tryz.prog) (l:=[(164,g164)]) (by simp only [List.forall_mem_cons]; exact ⟨ok164,by simp⟩)
 have hg:∀ q,g164 [v,.func (.func 175) #[] #[ptA m]] H q=some (iv (idxB k l),H,q):=fun q=>by
   simp only [g164,hV,hb]
 refine AC.pure Tryz.func107 rfl (by kernel_rfl) rfl [] rfl ?_
 refine E.seq (E.reg hr (by simp; rfl) ?_)
 refine E.seq (E.reg hr (by simp [hg]; rfl) ?_)
 refine E.ret ?_
 exact pureK.ret rfl rfl (by simp [idxB_any]) (Sub.refl _)
def g107 (args:List Value) (H:Heap) (n:Nat):R:=match args with
 | [v,.func (.func 175) ⟨[]⟩ ⟨[.pointer (some ⟨m,0,none⟩)]⟩]=>match intV H v,cellA H m 0 with
   | some l,some (.slice _ k _)=>some (.bool (l.any (badR k)),H,n)
   | _,_=>none
 | _=>none
theorem ok107:EntOk Tryz.prog (107,g107):=by
 intro args H n v H' n' h
 simp only [g107] at h
 split at h
 · split at h
   · rename_i h1 h2
     injection h with h; injection h with e1 e2; injection e2 with e2 e3; subst e1 e2 e3
     exact w107 h1 h2
   · cases h
 · cases h
theorem w146 {H:Heap} {n k c:Nat} {oa:Option Addr} {v:Value} {l:List Int} {a b e:Int} (hV:intV H v=some l):AC Tryz.prog 146 [setA (.slice oa k c) a b e,v] H n (iv (whenV (l.any (badR k)) 10)) H n:=by
 refine AC.given fun hold hsc hgn=>AC.tidied (B:=[]) (by simp) ?_
 replace hV:=Ab.int_tidy hold hV
 have hr:=recT_ok (P:=Tryz.prog) (l:=[(107,g107),(96,g96)]) (by simp only [List.forall_mem_cons]; exact ⟨ok107,ok96,by simp⟩)
 obtain ⟨X,hX⟩:∃ X,(n,Blk.cells [.slice oa k c,iv a,iv b,iv e] 34) :: tidy n H=X:=⟨_,rfl⟩
 have hS:Sub (tidy n H) X:=by rw [← hX]; exact Sub.cons (by simp) (Sub.refl _)
 have hb:cellA X n 0=some (.slice oa k c):=by rw [cellA_eq,← hX,hget_cons,if_pos rfl]; rfl
 have hV2:intV X v=some l:=listV_mono decI_mono hS hV
 have hg:∀ q,g107 [v,.func (.func 175) #[] #[ptA n]] X q=some (.bool (l.any (badR k)),X,q):=fun q=>by
   simp only [g107,hV2,hb]
 refine AC.pure Tryz.func146 rfl (by kernel_rfl) rfl [1,2] rfl ?_
 refine E.seq (E.reg hr (by simp; rfl) ?_)
 rw [hX]
 refine E.seq (E.reg hr (by simp [opMakefunc,hg,g96]; rfl) ?_)
 refine E.ret ?_
 exact pureK.ret rfl rfl (by simp) hS
def g146 (args:List Value) (H:Heap) (n:Nat):R:=match args with
 | [.agg ⟨[.slice _ k _,.int .i64 _,.int .i64 _,.int .i64 _]⟩,v]=>match intV H v with
   | some l=>some (iv (whenV (l.any (badR k)) 10),H,n)
   | none=>none
 | _=>none
theorem ok146:EntOk Tryz.prog (146,g146):=by
 intro args H n v H' n' h
 simp only [g146] at h
 split at h
 · split at h
   · rename_i h1
     injection h with h; injection h with e1 e2; injection e2 with e2 e3; subst e1 e2 e3
     exact w146 h1
   · cases h
 · cases h
theorem w20n (w s e:Int):AC Tryz.prog 20 [setA (.slice none 0 0) w s e] [] 9 (iv 12) [] 9:=by
 have hr:=recT_ok (P:=Tryz.prog) (l:=[(96,g96),(90,g90)]) (by simp [ok96,ok90])
 refine AC.pure Tryz.func20 rfl (by kernel_rfl) rfl [1,4,24,25,26] rfl ?_
 refine E.seq (E.reg hr (by simp; rfl) ?_)
 refine E.seq (E.seq ?_)
 refine E.drawC mixed hr [9,10,11] [4,9,10,11] [1,4,9,10,11] (by kernel_rfl) (by simp [g96,g90,intsAt,intsOf,whenV,firstV]; rfl) ?_
 refine E.seq (E.reg hr (by simp; rfl) ?_)
 refine E.cond (by rfl) (fun h=>?_) (fun h=>?_)
 · refine E.seq ?_
   refine E.reg hr (by simp; rfl) ?_
   refine E.ret ?_
   exact pureK.ret rfl rfl (by simp) (by repeat first | exact sub_refl _ | refine sub_cons rfl ?_)
 · simp at h
theorem w20i (l:List Int) (k:Nat) (hk:l.length=k) (o c:Nat) (w s e:Int) (hl:k < 2 ^ 31):AC Tryz.prog 20 [setA (.slice (some ⟨9,o,none⟩) k c) w s e] [(9,.inp o (l.map iv))] 10 (iv (setE l w s e)) [(9,.inp o (l.map iv))] 10:=by
 have hr:=recT_ok (P:=Tryz.prog) (l:=[(96,g96),(90,g90),(92,g92),(91,g91),(97,g97),(98,g98)]) (by simp [ok96,ok90,ok92,ok91,ok97,ok98])
 refine AC.pure Tryz.func20 rfl (by kernel_rfl) rfl [1,4,24,25,26] rfl ?_
 refine E.seq (E.reg hr (by simp; rfl) ?_)
 refine E.seq (E.seq ?_)
 have hE:=headE_int k
 refine E.drawC mixed hr [9,10,11] [4,9,10,11] [1,4,9,10,11] (by kernel_rfl) (by simp [g96,g90,intsAt,intsOf,hE]; rfl) ?_
 refine E.seq (E.reg hr (by simp; rfl) ?_)
 refine E.cond (by rfl) (fun h=>?_) (fun h=>?_)
 · simp at h
   refine E.seq (E.reg hr (by simp; rfl) ?_)
   refine E.ret ?_
   exact pureK.ret rfl rfl (by simp [setE,hk,h]) (by repeat first | exact sub_refl _ | refine sub_cons rfl ?_)
 · simp at h
   have h0:=h
   refine E.skip (E.seq (E.reg hr (by simp; rfl) ?_))
   refine E.seq (E.seq (E.reg hr (by simp; rfl) ?_))
   refine E.block (E.loop ?_)
   refine EL.ind (fun a:Nat × Int=>{ fr:=[(1,.pointer (some ⟨10,0,none⟩)),(4,iv a.2),(24,.slice (some ⟨9,o,none⟩) k c),(25,iv k),(26,iv a.1)],sz:=54,H:=[(10,.cells [.slice (some ⟨9,o,none⟩) k c,iv w,iv s,iv e] 34),(9,.inp o (l.map iv))],n:=11,marks:=[],vs:=[1,4,24,25,26] }) (fun a=>k - a.1) (fun a=>a.1 ≤ k ∧ fanE a.2 (l.drop a.1)=fanE 0 l) (0,0) (Leads.ren [10] rfl rfl rfl ⟨rfl,rfl⟩ (by simp) (by simp)) ⟨Nat.zero_le _,rfl⟩ (fun _=>rfl) ?_
   rintro ⟨i,last⟩ ⟨hi,hg⟩
   dsimp only at hi hg
   have hw:IntKind.i64.wrap ((i:Int) + 1)=(i:Int) + 1:=W_in (by omega) (by omega)
   refine E.seq (E.reg hr (by simp; rfl) ?_)
   refine E.seq ?_
   refine E.cond (by rfl) (fun h=>?_) (fun h=>?_)
   · simp at h
     have hil:i < l.length:=by omega
     rw [List.drop_eq_getElem_cons hil,fanE] at hg
     refine E.skip (E.seq ?_)
     refine E.block (E.seq (E.reg hr (by simp [h,hil]; rfl) ?_))
     refine E.seq (E.seq ?_)
     have hS:firstV [velV l[i],whenV (decide (l[i] ≤ last)) 11]=stepE last l[i]:=rfl
     refine E.reg hr (by simp [g92,g96,g90,intsAt,intsOf,hS]; rfl) ?_
     refine E.seq (E.reg hr (by simp; rfl) ?_)
     refine E.cond (by rfl) (fun h1=>?_) (fun h1=>?_)
     · simp at h1
       refine E.seq (E.reg hr (by simp; rfl) ?_)
       refine E.ret ?_
       rw [if_neg h1] at hg
       exact pureK.ret rfl rfl (by simp [setE,hk,h0,← hg,h1]) (by repeat first | exact sub_refl _ | refine sub_cons rfl ?_)
     · simp at h1
       refine E.skip (E.reg hr (by simp; rfl) ?_)
       refine E.reg hr (by simp [hw]; rfl) ?_
       rw [if_pos h1] at hg
       exact ⟨(i + 1,l[i]),Leads.ren [10] rfl rfl rfl ⟨rfl,rfl⟩ (by simp) (by simp),⟨h,hg⟩,by dsimp only; omega⟩
   · simp at h
     refine E.exit ?_
     refine E.seq ?_
     have hT:firstV [withinV w 0 16,withinV s 0 1024,withinV e 1 1024]=tailE w s e:=rfl
     refine E.drawC mixed hr [8,9,10] [2,5,8,9,10] [1,2,5,8,9,10] (by kernel_rfl) (by simp [g97,g98,g91,g90,intsAt,intsOf,hT]; rfl) ?_
     refine E.ret ?_
     rw [List.drop_eq_nil_of_le (by omega),fanE] at hg
     exact pureK.ret rfl rfl (by simp [setE,hk,h0,← hg]) (by repeat first | exact sub_refl _ | refine sub_cons rfl ?_)
def g20v (args:List Value) (H:Heap) (n:Nat):R:=match args with
 | [.agg ⟨[t,.int .i64 w,.int .i64 s,.int .i64 e]⟩]=>(intsW H t).map fun l=>(iv (setE l w s e),H,n)
 | _=>none
theorem ok20v:EntOk Tryz.prog (20,g20v):=by
 intro args H n v H' n' h
 simp only [g20v] at h
 split at h
 · rw [Option.map_eq_some_iff] at h
   obtain ⟨l,h1,h⟩:=h
   injection h with e1 e2; injection e2 with e2 e3; subst e1 e2 e3
   unfold intsW at h1
   split at h1
   · injection h1 with h1; subst h1
     exact AC.liftP rfl (Part.plain (by simp) [] (by simp [Seen]) gsz ⟨_,_,w20n _ _ _⟩)
   · obtain ⟨hf,hc,hlen,hlt⟩:=intsAt_ok h1
     exact AC.liftP rfl (Part.one (fun x=>[setA x _ _ _]) set_den set_sc hf hc (afL_iv l) [] (by simp [Seen]) gsz fun c=>⟨_,_,w20i l _ hlen _ c _ _ _ (hlen ▸ hlt)⟩)
   · cases h1
 · cases h
theorem W_intV {H:Heap} {v:Value} {l:List Int} (h:intsW H v=some l):intV H v=some l:=by
 unfold intsW at h
 split at h
 · injection h with h; subst h; rfl
 · obtain ⟨hf,hc,hlen,hlt⟩:=intsAt_ok h
   subst hlen
   refine listV_flat (c:=fun z=>[iv z]) (sz:=1) (fun _=>rfl) (fun _=>rfl) hf ?_ (by omega)
   rw [Nat.mul_one,hc,List.map_eq_flatMap]
 · cases h
theorem intsW_mono {H H':Heap} (hs:Sub H H') {v:Value} {l:List Int} (h:intsW H v=some l):intsW H' v=some l:=by
 unfold intsW at h ⊢
 split at h
 · exact h
 · unfold intsAt at h ⊢
   split at h
   · rename_i hf
     rw [if_pos hf]
     rw [Option.bind_eq_some_iff] at h ⊢
     obtain ⟨cs,h1,h2⟩:=h
     exact ⟨cs,hs.cells h1,h2⟩
   · cases h
 · cases h
structure SetOk (l:List Int) (w s e:Int):Prop where
 len:1 ≤ l.length ∧ l.length ≤ 16
 vel:∀ v ∈ l,1 ≤ v ∧ v ≤ 1000000000
 win:0 ≤ w ∧ w ≤ 16
 str:0 ≤ s ∧ s ≤ 1024
 evr:1 ≤ e ∧ e ≤ 1024
theorem when_zero {b:Bool} {e:Int} (he:e ≠ 0) (h:whenV b e=0):b=false:=by
 cases b with
 | false=>rfl
 | true=>exact absurd h he
theorem fan_vel:∀ (l:List Int) (a:Int),fanE a l=0 → ∀ v ∈ l,1 ≤ v ∧ v ≤ 1000000000
 | [],_,_,v,hv=>by cases hv
 | x :: l,a,h,v,hv=>by
   rw [fanE] at h
   split at h
   · rename_i h0
     rcases List.mem_cons.1 hv with rfl | hv
     · exact within_zero (first_zero h0 (velV v) (by simp))
     · exact fan_vel l x h v hv
   · rename_i h0
     exact absurd h h0
theorem set_ok {l:List Int} {w s e:Int} (h:setE l w s e=0):SetOk l w s e:=by
 unfold setE at h
 split at h
 · rename_i h1
   split at h
   · rename_i h2
     have h3:=fun x hx=>first_zero h x hx
     have k1:=when_zero (by decide) (first_zero h1 _ (by simp:whenV (decide (l.length=0)) 12 ∈ _))
     have k2:=when_zero (by decide) (first_zero h1 _ (by simp:whenV (decide (16 < l.length)) 5 ∈ _))
     simp only [decide_eq_false_iff_not] at k1 k2
     exact ⟨⟨by omega,by omega⟩,fan_vel l 0 h2,within_zero (h3 _ (by simp)),within_zero (h3 _ (by simp)),within_zero (h3 _ (by simp))⟩
   · rename_i h2
     exact absurd h h2
 · rename_i h1
   exact absurd h h1
def semP (ts:List Trc) (t w win st:Int):Int × Int:=if semD ts t w win st=0 then (0,1) else ((semU ts t w win st).tdiv (gcdI (semU ts t w win st) (semD ts t w win st)),(semD ts t w win st).tdiv (gcdI (semU ts t w win st) (semD ts t w win st)))
theorem semV_P (ts:List Trc) (t w win st:Int):semV ts t w win st = .agg ⟨[iv (semP ts t w win st).1,iv (semP ts t w win st).2]⟩:=by
 unfold semV semP
 split <;> rfl
theorem semP_b {ts:List Trc} (hok:OkS ts) {t w win st:Int} (hnr:0 ≤ win ∧ win ≤ 16) (ht:0 ≤ t ∧ t ≤ (widF ts).1 - 1):(0 ≤ (semP ts t w win st).1 ∧ (semP ts t w win st).1 ≤ 36283883716608) ∧ 1 ≤ (semP ts t w win st).2 ∧ (semP ts t w win st).2 ≤ 36283883716608:=by
 have hndb:=fun x=>nd_bound hok x w st
 have hC:semC ts t win ≤ 33:=by
   have hw:=hok.w0
   unfold semC semA
   omega
 have hU:=accN_bound (fun x=>(hndb x).1) (semC ts t win) (a:=semA t win)
 have hD:=accN_bound (fun x=>(hndb x).2) (semC ts t win) (a:=semA t win)
 have e1:semU ts t w win st=accN (fun x=>nuT ts x w st) (semA t win) (semC ts t win):=rfl
 have e2:semD ts t w win st=accN (fun x=>deT ts x w st) (semA t win) (semC ts t win):=rfl
 rw [← e1] at hU
 rw [← e2] at hD
 have hM:(1099511627776:Int) * (semC ts t win:Nat) ≤ 1099511627776 * 33:=by omega
 unfold semP
 obtain ⟨U,hUe⟩:∃ U,semU ts t w win st=U:=⟨_,rfl⟩
 obtain ⟨D,hDe⟩:∃ D,semD ts t w win st=D:=⟨_,rfl⟩
 rw [hUe] at hU ⊢
 rw [hDe] at hD ⊢
 by_cases hz:D=0
 · rw [if_pos hz]
   exact ⟨⟨Int.le_refl _,by decide⟩,Int.le_refl _,by decide⟩
 · rw [if_neg hz]
   have hg:=gcd_pos (a:=U) (b:=D) (by omega)
   dsimp only
   rw [Int.tdiv_eq_ediv_of_nonneg (by omega),Int.tdiv_eq_ediv_of_nonneg (by omega)]
   have hle:gcdI U D ≤ D:=by
     have:(Nat.gcd U.natAbs D.natAbs:Nat) ≤ D.natAbs:=Nat.gcd_le_right _ (by omega)
     unfold gcdI
     omega
   refine ⟨⟨Int.ediv_nonneg (by omega) (by omega),?_⟩,?_,?_⟩
   · exact Int.le_trans (Int.ediv_le_self _ hU.1) (by omega)
   · exact (Int.le_ediv_iff_mul_le (by omega)).2 (by omega)
   · exact Int.le_trans (Int.ediv_le_self _ hD.1) (by omega)
theorem store_fresh {H:Heap} {k:Nat} {t:TypeId} {zs cs:List Value} (hl:cs.length=zs.length):storeA ((k,.cells zs t) :: H) k 0 cs=some ((k,.cells cs t) :: H):=by
 rw [store_all (t:=t) (zs:=zs) (by rw [hget_cons,if_pos rfl]) hl]
 simp
end Go.Proofs.YtkongcnmkiihjaaGreatDoor
namespace Go.Ab
open Go
structure MadeV {α:Type} (V:Heap → Value → Option α) (H:Heap) (n:Nat) (H':Heap) (n':Nat) (u:Value) (x:α):Prop where
 app:∃ B,H'=B ++ H ∧ (∀ b ∈ B,n ≤ b.1 ∧ b.1 < n') ∧ plainH B=true
 le:n ≤ n'
 view:V H' u=some x
def MadeK {α:Type} (V:Heap → Value → Option α) (T:Heap) (n:Nat) (vf:Value → Value) (x:α) (v:Value) (Z:Heap) (N:Nat):Prop:=
 ∃ u,v=vf u ∧ Sub T Z ∧ namesOk N Z=true ∧ n ≤ N ∧ (af u=true → ∀ G,V G u=some x) ∧ ∀ G,Sub T G → (∀ k b,n ≤ k → plainB2 b=true → hget Z k=some b → hget G k=some b) → V G u=some x
theorem made_any {α : Type} {V : Heap → Value → Option α} {P : Program} {f : FuncId} {fn : Func} {c : Code} {args : List Value} {H : Heap} {n : Nat} {vf : Value → Value} {x : α} (hf : P.funcs[f]? = some fn) (hb : fn.body = some c) (he : enterable P f = true) (hlen : Nat.ble args.length fn.ntmps = true) (vs : List Nat) (hlt : ∀ k b, hget H k = some b → k < n) (hvf : ∀ u, af (vf u) = af u)
   (h:E P n none c { fr:=argsFr args 0,sz:=fn.ntmps,H:=tidy n H,n,marks:=[],vs } (Ab.outM P fn (MadeK V (tidy n H) n vf x))):∃ u H' n',AC P f args H n (vf u) H' n' ∧ MadeV V H n H' n' u x:=by
 obtain ⟨v,H1,n1,Z,hAC,⟨u,rfl,hs,hnm,hN,ha,hG⟩,h1,h2⟩:=AC.outM hf hb he hlen vs h
 have hTlt:∀ k b,hget (tidy n H) k=some b → k < n:=fun k b hk=>tidy_lt _ _ hk
 by_cases h0:af u=true
 · have h3:AC P f args (tidy n H) n (vf u) (tidy n H) n:=hAC.tidy (by rw [hvf]; exact h0) fun k b hk=>h2 k b hTlt hk (hs k b hk)
   exact ⟨u,H,n,AC.tidied (B:=[]) (by simp) h3,⟨[],rfl,by simp,rfl⟩,Nat.le_refl _,ha h0 H⟩
 · obtain rfl:=h1 (by rw [hvf]; simpa using h0)
   have h3:=AC.canon hlt hAC hs
   refine ⟨u,_,_,h3,⟨news n H1,rfl,fun b hb=>?_,plainH_mem fun x hx=>(news_mem hx).2.1⟩,hN,hG _ (fun k b hk=>?_) fun k b hk hp hg=>?_⟩
   · obtain ⟨g1,_,g3⟩:=news_mem hb
     exact ⟨g1,namesOk_iff.1 hnm _ (hget_mem _ _ _ g3)⟩
   · rw [hget_app]
     cases hc:hget (news n H1) k with
     | none=>exact (hget_tidy.1 hk).1
     | some c=>
       have:=(news_mem (hget_mem _ _ _ hc)).1
       have:=(hget_tidy.1 hk).2.1
       dsimp only at *
       omega
   · rw [hget_app,news_get hg hk hp]
section
variable {α:Type} {V:Heap → Value → Option α} {N N':Nat} {X H':Heap} {u:Value} {x:α}
theorem MadeV.alone (hm:PM N X) (h:MadeV V X N H' N' u x):PM N' H' ∧ Sub X H' ∧ N ≤ N' ∧ V H' u=some x:=by
 obtain ⟨B,rfl,hB,hp⟩:=h.app
 obtain ⟨h1,h2,_,_⟩:=hm.app hB hp h.le
 exact ⟨h1,h2,h.le,h.view⟩
end
end Go.Ab
namespace Go.Proofs.YtkongcnmkiihjaaGreatDoor
open Go Go.Ab Go.Proofs
theorem timV_lt {W e:Int} (he:1 ≤ e) (k:Nat):(k:Int) * e < W ↔ (k:Int) < timV W e:=by
 unfold timV
 rw [Int.lt_iff_add_one_le,Int.lt_iff_add_one_le,Int.le_ediv_iff_mul_le (by omega),Int.add_mul,Int.one_mul]
 omega
noncomputable def asg73:Code:=match rfOf (bodyOf' Tryz.f73) with
 | some x=>x.1
 | none=>.skip
noncomputable def bdy73:Code:=match rfOf (bodyOf' Tryz.f73) with
 | some x=>x.2
 | none=>.skip
abbrev vs73:List Nat:=[2,4,8,9,10,11,12,13,14,15,17,48,49]
abbrev fr73 (n N:Nat) (rv':Value) (o k W:Nat):Fr:=[(67,fn169 (N + 2)),(2,rv'),(4,ptA (n + 1)),(8,ptA (n + 2)),(12,outS o k),(13,iv k),(14,ptA N),(15,ptA (N + 1)),(48,iv W),(49,iv k)]
noncomputable abbrev lb73 (fr:Fr) (N:Nat) (ls:LoopState) (pe:Option Code):Blk:=.loop ls pe fr 85 vs73 #[68,69] asg73 bdy73 (N + 6)
noncomputable abbrev fs73 (fr:Fr) (N:Nat) (ls:LoopState) (pe:Option Code) (m s:Int):List (Nat × Blk):=[(N + 6,.defd),(N + 7,lb73 fr N ls pe),(N,.cells [iv m] 3),(N + 1,.cells [iv s] 3)]
set_option maxHeartbeats 1600000 in
set_option maxRecDepth 100000 in
theorem yield73 {B : Heap} {fr : Fr} {N0 N : Nat} {m s x i : Int} {cs : List Value} {Hx : Heap} (hfr : lk fr 14 = some (ptA N0) ∧ lk fr 15 = some (ptA (N0 + 1))) (hI : Kp B (N0 + 8) (fs73 fr N0 .ready none m s) Hx N) (hm : IntKind.i64.wrap (m + 1) = m + 1) (hs : IntKind.i64.wrap (s + x) = s + x) :
   ∃ r b H' N',RecOk Tryz.prog r 0 ∧ yieldF r (N0 + 7) [iv i,iv x] ((N,.cells cs 159) :: Hx) (N + 1)=some (.bool b,H',N') ∧ (b=true ∧ Kp B (N0 + 8) (fs73 fr N0 .ready none (m + 1) (s + x)) H' N'):=by
 have hr0:=recT_ok (P:=Tryz.prog) (l:=[]) (by simp)
 have hS1:=hI.skip (.cells cs 159)
 obtain ⟨f1,f2⟩:=hfr
 refine (yieldF_ex (K:=fun b H' N'=>b=true ∧ Kp B (N0 + 8) (fs73 fr N0 .ready none (m + 1) (s + x)) H' N') (hS1.at' 1 _ rfl) rfl (fun c h=>by cases h) (fun c h=>by cases h) ?_)
 refine E.lead { fr:=[(69,iv x),(14,ptA N0),(15,ptA (N0 + 1))],sz:=85,H:=(N,.cells cs 159) :: Hx,n:=N + 1,marks:=[],vs:=vs73 } (.keep rfl rfl rfl (by simp [f1,f2]) (Sub.refl _)) ?_
 refine E.reg hr0 (by simp; rfl) ?_
 refine ⟨rfl,hS1.at' 1 _ rfl,?_⟩
 have hY:=hS1.put 1 rfl (lb73 fr N0 .busy none)
 obtain ⟨Y,hYe⟩:∃ Y,hset ((N,Blk.cells cs 159) :: Hx) (N0 + 7) (lb73 fr N0 .busy none)=Y:=⟨_,rfl⟩
 rw [hYe] at hY ⊢
 have c1:cellA Y N0 0=some (iv m):=hY.cell 2 rfl 0
 have s1:=hY.store 2 (v:=iv (m + 1)) rfl
 have hY2:=hY.put 2 rfl (.cells [iv (m + 1)] 3)
 obtain ⟨Y2,hY2e⟩:∃ Y2,hset Y N0 (.cells [iv (m + 1)] 3)=Y2:=⟨_,rfl⟩
 rw [hY2e] at hY2 s1
 have c2:cellA Y2 (N0 + 1) 0=some (iv s):=hY2.cell 3 rfl 0
 have s2:=hY2.store 3 (v:=iv (s + x)) rfl
 have hY3:=hY2.put 3 rfl (.cells [iv (s + x)] 3)
 refine E.block (E.seq (E.reg hr0 (by simp [-cellA,-storeA,c1,hm,s1]; rfl) ?_))
 refine E.reg hr0 (by simp [-cellA,-storeA,c2,hs,s2]; rfl) ?_
 exact ⟨hY3.at' 1 _ rfl,.inl ⟨rfl,rfl,hY3.put 1 rfl (lb73 fr N0 .ready none)⟩⟩
def velA (l rl:List Int) (e:Int) (t:Nat):Int:=l.getD (rl.getD ((t:Int) / e).toNat 0).toNat 0
def stkB (ts:List Trc) (l rl:List Int) (st e:Int) (t:Nat):Nat:=sampB (flrV (sumI (smpN ts t (velA l rl e t)) (livA ts t (velA l rl e t) st)) (max 1 ((livA ts t (velA l rl e t) st).length:Nat)))
def stkL (ts:List Trc) (l rl:List Int) (st e:Int) (k:Nat):List Nat:=(List.range k).map (stkB ts l rl st e)
theorem stkL_succ {ts:List Trc} {l rl:List Int} {st e:Int} {k:Nat}:stkL ts l rl st e (k + 1)=stkL ts l rl st e k ++ [stkB ts l rl st e k]:=by
 unfold stkL
 rw [List.range_succ,List.map_append]
 rfl
theorem stkL_len {ts:List Trc} {l rl:List Int} {st e:Int} {k:Nat}:(stkL ts l rl st e k).length=k:=by
 unfold stkL; simp
def rowE (l rl:List Int) (W e:Int):Int:=firstV [whenV (decide ((rl.length:Int) ≠ timV W e)) 2,whenV (rl.any (badR l.length)) 10]
def stkE (s:ByteArray) (ts:List Trc) (l rl:List Int) (w st e:Int):Int:=if firstV [shtE s ts,setE l w st e]=0 then rowE l rl (widE s ts) e else firstV [shtE s ts,setE l w st e]
def stkR (s:ByteArray) (ts:List Trc) (l rl:List Int) (w st e:Int):List Nat:=if stkE s ts l rl w st e=0 then stkL ts l rl st e (widN ts) else []
theorem velA_at {l rl : List Int} {W e : Int} {t : Nat} (_hW : 0 ≤ W ∧ W ≤ 1024) (he : 1 ≤ e ∧ e ≤ 1024) (hrl : (rl.length : Int) = timV W e) (hb : rl.any (badR l.length) = false) (ht : (t : Int) < W) :
   ∃ (h1:((t:Int) / e).toNat < rl.length) (h2:(rl[((t:Int) / e).toNat]).toNat < l.length),0 ≤ rl[((t:Int) / e).toNat] ∧ velA l rl e t=l[(rl[((t:Int) / e).toNat]).toNat]:=by
 have h0:0 ≤ (t:Int) / e:=Int.ediv_nonneg (by omega) (by omega)
 have h1:((t:Int) / e).toNat < rl.length:=by
   have h2:(t:Int) / e * e ≤ t:=Int.ediv_mul_le _ (by omega)
   have h3:=(timV_lt (W:=W) (e:=e) he.1 ((t:Int) / e).toNat).1 (by rw [Int.toNat_of_nonneg h0]; omega)
   omega
 have h4:badR l.length rl[((t:Int) / e).toNat]=false:=by
   rw [List.any_eq_false] at hb
   simpa using hb _ (List.getElem_mem h1)
 unfold badR at h4
 simp only [Bool.or_eq_false_iff,decide_eq_false_iff_not] at h4
 have h5:(rl[((t:Int) / e).toNat]).toNat < l.length:=by omega
 refine ⟨h1,h5,by omega,?_⟩
 unfold velA
 rw [List.getD_eq_getElem?_getD,List.getD_eq_getElem?_getD,List.getElem?_eq_getElem h1,Option.getD_some,List.getElem?_eq_getElem h5,Option.getD_some]
theorem velA_ix {l rl : List Int} {W e : Int} {t : Nat} (hW : 0 ≤ W ∧ W ≤ 1024) (he : 1 ≤ e ∧ e ≤ 1024) (hrl : (rl.length : Int) = timV W e) (hb : rl.any (badR l.length) = false) (ht : (t : Int) < W) :
   ∃ (qi ri:Nat) (hq:qi < rl.length) (hr:ri < l.length),(t:Int) / e=qi ∧ rl[qi]=(ri:Int) ∧ l[ri]=velA l rl e t:=by
 obtain ⟨h1,h2,h3,h4⟩:=velA_at hW he hrl hb ht
 have h0:0 ≤ (t:Int) / e:=Int.ediv_nonneg (by omega) (by omega)
 exact ⟨_,_,h1,h2,by omega,by omega,h4.symm⟩
theorem inf145':Tryz.prog.info? 145=some Tryz.t145:=by kernel_rfl
theorem sz145i:Tryz.t145.size=1:=by kernel_rfl
theorem by145:Tryz.t145.bytes ≤ 128:=by decide +kernel
theorem zo145:zeroOk Tryz.t145=true:=by kernel_rfl
theorem rea_view {G:Heap} {o:Nat} {bs:List Nat} (h:bs ≠ [] → hget G o=some (.ext (bs.map rv) 145 1)) (hl:bs.length < 2147483648):reaV G (outS o bs.length)=some bs:=by
 by_cases h0:bs=[]
 · subst h0; rfl
 · rw [outS_ne fun e=>h0 (List.length_eq_zero_iff.1 e)]
   refine listV_mk (cs:=bs.map rv) rfl ?_ (by simp) hl rv_dec
   rw [cellsA_eq,h h0]
   simp only [Option.bind_some,cellsB]
   rw [if_pos (by simp),List.drop_zero,List.take_of_length_le (by simp)]
set_option maxHeartbeats 12800000 in
set_option maxRecDepth 100000 in
theorem w73 {H:Heap} {n:Nat} {v fv rv':Value} {s:ByteArray} {ts:List Trc} {l rl:List Int} {w st e:Int} (hR:dR H) (hv:shtV H v=some (s,ts)) (hl:intsW H fv=some l) (hrv:intV H rv'=some rl) (hlt:∀ k b,hget H k=some b → k < n) (h9:9 ≤ n):∃ u H' n',AC Tryz.prog 73 [v,setA fv w st e,rv'] H n (.tuple #[u,iv (stkE s ts l rl w st e)]) H' n' ∧ MadeV reaV H n H' n' u (stkR s ts l rl w st e):=by
 replace hv:=shtV_tidy (n:=n) hlt hv
 have hR':hget (tidy n H) 1=some (.inp 0 rangesV):=hget_tidy.2 ⟨hR,by omega,rfl⟩
 replace hR:dR (tidy n H):=hR'
 obtain ⟨u,rfl,ht⟩:=shtV_form hv
 obtain ⟨oa,c,rfl,hlt31,_,_⟩:=trcV_form ht
 replace hl:intsW (tidy n H) fv=some l:=by
   unfold intsW at hl ⊢
   split at hl
   · exact hl
   · unfold intsAt at hl ⊢
     split at hl
     · rename_i hf
       rw [if_pos hf]
       rw [Option.bind_eq_some_iff] at hl ⊢
       obtain ⟨cs,h1,h2⟩:=hl
       exact ⟨cs,cellsA_tidy hlt h1,h2⟩
     · cases hl
   · cases hl
 replace hrv:intV (tidy n H) rv'=some rl:=listV_tidy decI_tidy hlt hrv
 have hpm0:PM n (tidy n H):=PM.tidy
 refine made_any (V:=reaV) (vf:=fun u=>.tuple #[u,iv (stkE s ts l rl w st e)]) Tryz.func73 rfl (by kernel_rfl) rfl vs73 hlt (fun u=>by cases u <;> simp [af,afL]) ?_
 obtain ⟨T0,hT0⟩:∃ T,tidy n H=T:=⟨_,rfl⟩
 rw [hT0] at hv hR hR' ht hl hrv hpm0 ⊢
 have hlI:=W_intV hl
 obtain ⟨fa,fc,rfl,hl31,_,hfrow⟩:=intV_form hlI
 obtain ⟨ra,rc,rfl,hrl31,_,hrrow⟩:=intV_form hrv
 have hr:=recT_ok (P:=Tryz.prog) (l:=[(131,g131),(20,g20v),(90,g90),(143,g143),(96,g96),(146,g146)]) (by simp only [List.forall_mem_cons]; exact ⟨ok131,ok20v,ok90,ok143,ok96,ok146,by simp⟩)
 have hr0:=recT_ok (P:=Tryz.prog) (l:=[]) (by simp)
 obtain ⟨X,hX⟩:∃ X,(n + 1,Blk.cells [.slice fa l.length fc,iv w,iv st,iv e] 34) :: (n,Blk.cells [.string s,.slice oa ts.length c] 110) :: T0=X:=⟨_,rfl⟩
 have hp1:PM (n + 1) ((n,Blk.cells [.string s,.slice oa ts.length c] 110) :: T0):=hpm0.put rfl
 have hpX:PM (n + 2) X:=by rw [← hX]; exact hp1.put rfl
 have hTX:Sub T0 X:=by rw [← hX]; exact hpm0.sub.trans hp1.sub
 have hb0:hget X n=some (.cells [.string s,.slice oa ts.length c] 110):=by rw [← hX,hget_cons,if_neg (by omega),hget_cons,if_pos rfl]
 have hb1:hget X (n + 1)=some (.cells [.slice fa l.length fc,iv w,iv st,iv e] 34):=by rw [← hX,hget_cons,if_pos rfl]
 have hld:=load110 hb0
 obtain ⟨WI,hWI⟩:∃ W,widE s ts=W:=⟨_,rfl⟩
 obtain ⟨e0,he0⟩:∃ e,shtE s ts=e:=⟨_,rfl⟩
 obtain ⟨e1,he1⟩:∃ x,setE l w st e=x:=⟨_,rfl⟩
 have h131:∀ m,g131 [.agg ⟨[.string s,.slice oa ts.length c]⟩] X m=some (.tuple #[.agg ⟨[.string s,.slice oa ts.length c,iv WI]⟩,iv e0],X,m):=fun m=>by
   have h1:=shtV_mono hTX hv
   have h2:dR X:=hTX _ _ hR
   simp only [g131,h1,h2,and_self,if_true,hWI,he0]
 have hPE:stkE s ts l rl w st e=if firstV [e0,e1]=0 then rowE l rl WI e else firstV [e0,e1]:=by rw [← he0,← he1,← hWI]; rfl
 obtain ⟨PE,hPEe⟩:∃ x,stkE s ts l rl w st e=x:=⟨_,rfl⟩
 have hPL:stkR s ts l rl w st e=if PE=0 then stkL ts l rl st e (widN ts) else []:=by rw [← hPEe]; rfl
 obtain ⟨PL,hPLe⟩:∃ x,stkR s ts l rl w st e=x:=⟨_,rfl⟩
 rw [hPEe] at hPE
 rw [hPLe] at hPL
 rw [hPEe,hPLe]
 refine E.seq (E.reg hr0 (by simp; rfl) ?_)
 rw [hX]
 refine E.seq ?_
 have hst1:storeA ((n + 2,.cells [.string ⟨#[]⟩,.slice none 0 0,iv 0] 196) :: X) (n + 2) 0 [.string s,.slice oa ts.length c,iv WI]=some ((n + 2,.cells [.string s,.slice oa ts.length c,iv WI] 196) :: X):=store_fresh rfl
 refine E.reg hr (by simp [-loadA,-storeA,hld,h131,hst1]; rfl) ?_
 obtain ⟨Y,hY⟩:∃ Y,(n + 2,Blk.cells [.string s,.slice oa ts.length c,iv WI] 196) :: X=Y:=⟨_,rfl⟩
 have hpY:PM (n + 3) Y:=by rw [← hY]; exact hpX.put rfl
 have hXY:Sub X Y:=by rw [← hY]; exact hpX.sub
 have hb2:hget Y (n + 2)=some (.cells [.string s,.slice oa ts.length c,iv WI] 196):=by rw [← hY,hget_cons,if_pos rfl]
 rw [hY]
 have hb1y:=hXY _ _ hb1
 have hc34:cellsA Y (n + 1) 0 4=some [.slice fa l.length fc,iv w,iv st,iv e]:=by rw [cellsA_eq,hb1y]; rfl
 have hl34:loadA Tryz.prog 34 Y (.pointer (some ⟨n + 1,0,none⟩))=some (setA (.slice fa l.length fc) w st e):=by
   simp only [loadA,ag34,sz34,hc34,Option.map_some]
 have h20:∀ m,g20v [setA (.slice fa l.length fc) w st e] Y m=some (iv e1,Y,m):=fun m=>by
   have:=intsW_mono (hTX.trans hXY) hl
   simp only [g20v,this,Option.map_some,he1]
 have hI2:∀ (N:Nat) (Z:Heap) m (a b:Int),g90 [.slice (some ⟨N,0,none⟩) 2 2] ((N,.cells [iv a,iv b] 29) :: Z) m=some (iv (firstV [a,b]),(N,.cells [iv a,iv b] 29) :: Z,m):=fun N Z m a b=>by
   simp [g90,intsAt,intsOf]
 refine E.seq (E.seq (E.reg hr (by simp [-loadA,hl34,h20,hI2]; rfl) ?_))
 obtain ⟨Y1,hY1⟩:∃ Z,(n + 3,Blk.cells [iv e0,iv e1] 29) :: Y=Z:=⟨_,rfl⟩
 have hpY1:PM (n + 4) Y1:=by rw [← hY1]; exact hpY.put rfl
 have hYY1:Sub Y Y1:=by rw [← hY1]; exact hpY.sub
 obtain ⟨e8,he8⟩:∃ x,firstV [e0,e1]=x:=⟨_,rfl⟩
 rw [he8] at hPE
 rw [hY1,he8]
 refine E.lead { fr:=[(2,.slice ra rl.length rc),(4,ptA (n + 1)),(8,ptA (n + 2)),(10,iv e8)],sz:=85,H:=Y1,n:=n + 4,marks:=[],vs:=vs73 } (.keep rfl rfl rfl (by simp) (Sub.refl _)) ?_
 refine E.seq (E.reg hr0 (by simp; rfl) ?_)
 by_cases hz:e8=0
 rotate_left
 · rw [if_neg hz] at hPE
   rw [if_neg (by rw [hPE]; exact hz)] at hPL
   refine E.cond (t:=true) (by simp [hz]) (fun _=>?_) (fun h=>by cases h)
   refine E.seq (E.reg hr0 (by simp; rfl) ?_)
   refine E.ret ?_
   rw [hPE,hPL]
   exact outM.ret Y1 rfl (vs:=[.slice none 0 0,iv e8]) (by simp [resultsA,resultA,Tryz.results73]) ⟨.slice none 0 0,rfl,hTX.trans (hXY.trans hYY1),hpY1.nm,by dsimp only; omega,fun _ G=>rfl,fun G _ _=>rfl⟩
 rw [if_pos hz] at hPE
 have h01:e0=0 ∧ e1=0:=by
   rw [hz] at he8
   exact ⟨first_zero he8 e0 (by simp),first_zero he8 e1 (by simp)⟩
 have hok:OkS ts:=shtE_ok (s:=s) (by rw [he0]; exact h01.1)
 have hso:SetOk l w st e:=set_ok (he1.trans h01.2)
 have hWw:WI=(widF ts).1:=by rw [← hWI]; unfold widE; rw [he0,if_pos h01.1]
 have hw0:=hok.w0
 obtain ⟨W,hWN⟩:∃ W,widN ts=W:=⟨_,rfl⟩
 have hWW:WI=(W:Int):=by rw [hWw,← hWN]; unfold widN; omega
 subst hWW
 have hW1024:W ≤ 1024:=by omega
 obtain ⟨Tn,hTn⟩:∃ T:Nat,timV W e=T:=⟨(timV W e).toNat,by have:=timV_b (W:=W) (e:=e) ⟨by omega,by omega⟩ hso.evr; omega⟩
 have hb2':=hYY1 _ _ hb2
 have hY1p:=hpY1.nm
 have hY1pl:=hpY1.pl
 have hY1t:=takeNew_frz hY1p
 have hY1n1:=(hpY1.wide (Nat.le_succ _)).nm
 have cg:cellsA Y1 (n + 2) 0 3=some [.string s,.slice oa ts.length c,iv W]:=by rw [cellsA_eq,hb2']; rfl
 have cs34:cellsA Y1 (n + 1) 0 4=some [.slice fa l.length fc,iv w,iv st,iv e]:=hYY1.cells hc34
 have c13:cellA Y1 (n + 1) 3=some (iv e):=by have:=(cellsA_at cs34).2 3 (by decide); rwa [Nat.zero_add] at this
 have h143:∀ Z m,g143 [.agg ⟨[.string s,.slice oa ts.length c,iv W]⟩,iv e] Z m=some (iv Tn,Z,m):=fun Z m=>by
   simp only [g143]
   rw [if_pos ⟨⟨by omega,by omega⟩,hso.evr⟩,hTn]
 have h96:∀ (b:Bool) (x:Int) Z m,g96 [.bool b,iv x] Z m=some (iv (whenV b x),Z,m):=fun _ _ _ _=>rfl
 have h146:∀ m,g146 [setA (.slice fa l.length fc) w st e,.slice ra rl.length rc] Y1 m=some (iv (whenV (rl.any (badR l.length)) 10),Y1,m):=fun m=>by
   have:intV Y1 (.slice ra rl.length rc)=some rl:=listV_mono decI_mono (hTX.trans (hXY.trans hYY1)) hrv
   simp only [g146,this]
 have hPE2:PE=firstV [whenV (!decide (rl.length=Tn)) 2,whenV (rl.any (badR l.length)) 10]:=by
   rw [hPE]
   unfold rowE
   rw [hTn,show decide ((rl.length:Int) ≠ (Tn:Int)) = !decide (rl.length=Tn) by rw [← decide_not,decide_eq_decide]; omega]
 obtain ⟨q1,hq1⟩:∃ b,decide (rl.length=Tn)=b:=⟨_,rfl⟩
 obtain ⟨q2,hq2⟩:∃ b,rl.any (badR l.length)=b:=⟨_,rfl⟩
 rw [hq1,hq2] at hPE2
 have hq1':decide ((rl.length:Int)=(Tn:Int))=q1:=by rw [← hq1,decide_eq_decide]; omega
 rw [hq2] at h146
 have hI3:∀ (N:Nat) (Z:Heap) m,g90 [.slice (some ⟨N,0,none⟩) 2 2] ((N,.cells [iv (whenV (!q1) 2),iv (whenV q2 10)] 29) :: Z) m=some (iv PE,(N,.cells [iv (whenV (!q1) 2),iv (whenV q2 10)] 29) :: Z,m):=fun N Z m=>by
   rw [hI2,← hPE2]
 refine E.cond (t:=false) (by simp [hz]) (fun h=>by cases h) (fun _=>?_)
 refine E.skip (E.seq ?_)
 refine E.seq ?_
 have m1:n + 2 < n + 4:=by omega
 have m2:n + 1 < n + 4:=by omega
 refine E.drawU mixed hr [10,11,12] [5,7,10,11,12] [2,4,5,7,10,11,12] (by kernel_rfl) (by simp [-decide_eq_true_eq,-cellA,-cellsA,-readA,cellA_read,cellsA_read,hY1p,hY1n1,hY1pl,hY1t,cg,cs34,c13,hq1',h143,h96,h146,hI3]; rfl) ?_
 obtain ⟨Y2,hY2⟩:∃ Z,(n + 4,Blk.cells [iv (whenV (!q1) 2),iv (whenV q2 10)] 29) :: Y1=Z:=⟨_,rfl⟩
 have hpY2:PM (n + 5) Y2:=by rw [← hY2]; exact hpY1.put rfl
 have hY12:Sub Y1 Y2:=by rw [← hY2]; exact hpY1.sub
 have hT2:Sub T0 Y2:=hTX.trans (hXY.trans (hYY1.trans hY12))
 rw [hY2]
 refine E.lead { fr:=[(2,.slice ra rl.length rc),(4,ptA (n + 1)),(8,ptA (n + 2)),(11,iv PE)],sz:=85,H:=Y2,n:=n + 5,marks:=[],vs:=vs73 } (.keep rfl rfl rfl (by simp) (Sub.refl _)) ?_
 refine E.seq (E.reg hr0 (by simp; rfl) ?_)
 by_cases hz2:PE=0
 rotate_left
 · rw [if_neg hz2] at hPL
   refine E.cond (t:=true) (by simp [hz2]) (fun _=>?_) (fun h=>by cases h)
   refine E.seq (E.reg hr0 (by simp; rfl) ?_)
   refine E.ret ?_
   rw [hPL]
   exact outM.ret Y2 rfl (vs:=[.slice none 0 0,iv PE]) (by simp [resultsA,resultA,Tryz.results73]) ⟨.slice none 0 0,rfl,hT2,hpY2.nm,by dsimp only; omega,fun _ G=>rfl,fun G _ _=>rfl⟩
 rw [if_pos hz2,hWN] at hPL
 rw [hz2] at hPE2
 have hrl:(rl.length:Int)=timV W e:=by
   have:=when_zero (by decide) (first_zero hPE2.symm (whenV (!q1) 2) (by simp))
   rw [← hq1] at this
   simp at this
   rw [hTn,this]
 have hbad:rl.any (badR l.length)=false:=by
   rw [hq2]
   exact when_zero (by decide) (first_zero hPE2.symm (whenV q2 10) (by simp))
 have hfb2:=hY12 _ _ hb2'
 have hfb1:=hY12 _ _ (hYY1 _ _ hb1y)
 have g1:cellA Y2 (n + 2) 2=some (iv W):=by rw [cellA_eq,hfb2]; rfl
 refine E.cond (t:=false) (by simp [hz2]) (fun h=>by cases h) (fun _=>?_)
 refine E.skip (E.seq (E.reg hr0 (by simp; rfl) ?_))
 refine E.seq (E.seq (E.reg hr0 (by simp [-cellA,g1]; rfl) ?_))
 refine E.block (E.loop ?_)
 have hY2n:=hpY2.nm
 refine EL.ind (fun x:Nat × Heap × Nat × Nat × List Nat=>{ fr:=[(2,.slice ra rl.length rc),(4,ptA (n + 1)),(8,ptA (n + 2)),(12,outS x.2.2.2.1 x.1),(48,iv W),(49,iv x.1)],sz:=85,H:=x.2.1,n:=x.2.2.1,marks:=x.2.2.2.2,vs:=vs73 }) (fun x=>W - x.1) (fun x=>x.1 ≤ W ∧ Sub Y2 x.2.1 ∧ namesOk x.2.2.1 x.2.1=true ∧ n + 5 ≤ x.2.2.1 ∧ n + 5 ≤ x.2.2.2.1 ∧ (x.1 ≠ 0 → hget x.2.1 x.2.2.2.1=some (.ext ((stkL ts l rl st e x.1).map rv) 145 1)) ∧ x.2.2.2.2.Nodup ∧ ∀ m ∈ x.2.2.2.2,n + 5 ≤ m ∧ hget x.2.1 m=some .defd) (0,Y2,n + 5,n + 5,[]) (.keep rfl rfl rfl (by simp) (Sub.refl _)) ⟨Nat.zero_le _,Sub.refl _,hY2n,Nat.le_refl _,Nat.le_refl _,fun h=>absurd rfl h,List.nodup_nil,fun m hm=>by cases hm⟩ (fun _=>rfl) ?_
 rintro ⟨k,Hx,N,o,ms⟩ ⟨hk,hSx,hnx,hNn,hon,ho,hnd,hms⟩
 dsimp only at hk hSx hnx hNn hon ho hnd hms ⊢
 have hw:IntKind.i64.wrap ((k:Int) + 1)=(k:Int) + 1:=W_in (by omega) (by omega)
 have hHlt:∀ k b,hget Hx k=some b → k < N:=fun k b hk=>namesOk_iff.1 hnx (k,b) (hget_mem _ _ _ hk)
 have hHn:∀ j,N ≤ j → hget Hx j=none:=fun j hj=>by
   cases hc:hget Hx j with
   | none=>rfl
   | some b=>have:=hHlt _ _ hc; omega
 refine E.seq (E.reg hr0 (by simp; rfl) ?_)
 refine E.seq ?_
 by_cases hkW:k < W
 · refine E.cond (t:=true) (by simp [hkW]) (fun _=>?_) (fun h=>by cases h)
   refine E.skip (E.seq ?_)
   refine E.block (E.seq (E.reg hr0 (by simp; rfl) ?_))
   refine E.seq (E.reg hr0 (by simp; rfl) ?_)
   obtain ⟨Z1,hZ1⟩:∃ Z,(N + 1,Blk.cells [iv 0] 3) :: (N,.cells [iv 0] 3) :: Hx=Z:=⟨_,rfl⟩
   have hZ1n:namesOk (N + 2) Z1=true:=by rw [← hZ1]; exact namesOk_put (by omega) (namesOk_put (by omega) (namesOk_mono (by omega) _ hnx))
   have hxZ1:Sub Hx Z1:=fun j b hj=>by
     have:=hHlt _ _ hj
     rw [← hZ1,hget_cons,if_neg (by omega),hget_cons,if_neg (by omega)]
     exact hj
   refine E.lead { fr:=[(2,.slice ra rl.length rc),(4,ptA (n + 1)),(8,ptA (n + 2)),(12,outS o k),(13,iv k),(14,ptA N),(15,ptA (N + 1)),(48,iv W),(49,iv k)],sz:=85,H:=Z1,n:=N + 2,marks:=ms,vs:=vs73 } (.keep rfl rfl rfl (by simp) (by rw [← hZ1]; exact Sub.refl _)) ?_
   obtain ⟨qi,ri,hq,hri,hqI,hrI,hvl⟩:=velA_ix (l:=l) (t:=k) ⟨by omega,by omega⟩ hso.evr hrl hbad (by omega)
   have hvr:=hso.vel _ (List.getElem_mem hri)
   have hTZ:Sub T0 Z1:=hT2.trans (hSx.trans hxZ1)
   obtain ⟨ra',rfl,hra1,hra2⟩:=hrrow qi hq
   obtain ⟨fa',rfl,hfa1,hfa2⟩:=hfrow ri hri
   obtain ⟨vl,hvle⟩:∃ x,velA l rl e k=x:=⟨_,rfl⟩
   rw [hvl,hvle] at hvr hfa2
   rw [hrI] at hra2
   have hra3:=hTZ.cell hra2
   have hfa3:=hTZ.cell hfa2
   have hwq:IntKind.i64.wrap (qi:Int)=(qi:Int):=W_in (by omega) (by omega)
   have hdq:(k:Int).tdiv e=(qi:Int):=by rw [Int.tdiv_eq_ediv_of_nonneg (by omega),hqI]
   have he0':e ≠ 0:=by have:=hso.evr; omega
   have z196:cellsA Z1 (n + 2) 0 3=some [.string s,.slice oa ts.length c,iv W]:=by rw [cellsA_eq,hxZ1 _ _ (hSx _ _ hfb2)]; rfl
   have z34:cellsA Z1 (n + 1) 0 4=some [.slice (some fa') l.length fc,iv w,iv st,iv e]:=by rw [cellsA_eq,hxZ1 _ _ (hSx _ _ hfb1)]; rfl
   have z0:cellA Z1 (n + 1) 0=some (.slice (some fa') l.length fc):=by have:=(cellsA_at z34).2 0 (by decide); rwa [Nat.zero_add] at this
   have z2:cellA Z1 (n + 1) 2=some (iv st):=by have:=(cellsA_at z34).2 2 (by decide); rwa [Nat.zero_add] at this
   have z3:cellA Z1 (n + 1) 3=some (iv e):=by have:=(cellsA_at z34).2 3 (by decide); rwa [Nat.zero_add] at this
   have hr3:=recT_ok (P:=Tryz.prog) (l:=[(133,g133)]) (by simp only [List.forall_mem_cons]; exact ⟨ok133,by simp⟩)
   obtain ⟨M6,hM6⟩:∃ Z,(N + 5,Blk.cells [iv st] 3) :: (N + 4,.cells [iv vl] 3) :: (N + 3,.cells [iv k] 3) :: (N + 2,.cells [.string s,.slice oa ts.length c,iv W] 196) :: Z1=Z:=⟨_,rfl⟩
   have hM6n:namesOk (N + 6) M6=true:=by rw [← hM6]; exact namesOk_put (by omega) (namesOk_put (by omega) (namesOk_put (by omega) (namesOk_put (by omega) (namesOk_mono (by omega) _ hZ1n))))
   have h133:g133 [.agg ⟨[.string s,.slice oa ts.length c,iv W]⟩,iv k,iv vl,iv st] Z1 (N + 2)=some (fn169 (N + 2),M6,N + 6):=by rw [← hM6]; rfl
   have b1:=lt_cell hZ1n hra3
   have b2:=lt_cell hZ1n hfa3
   have b3:n + 2 < N + 2:=by omega
   have b4:n + 1 < N + 2:=by omega
   refine E.seq (E.seq ?_)
   refine E.drawU mixed hr3 [15] [15] [0,3,7,10,12,14,15] (by kernel_rfl) (by simp [-cellA,-cellsA,-readA,-flat,cellA_read,cellsA_read,hZ1n,hM6n,z196,z0,z2,z3,bin_quo he0',hdq,hwq,hra1,hra3,hfa1,hfa3,hq,hri,h133,b1,b2,b3,b4]; rfl) ?_
   refine E.block ?_
   refine E.lead { fr:=fr73 n N (.slice (some ra') rl.length rc) o k W,sz:=85,H:=M6,n:=N + 6,marks:=ms,vs:=vs73 } (.keep rfl rfl rfl (by simp) (Sub.refl _)) ?_
   refine E.rangeX (x:=asg73) (y:=bdy73) rfl ent169 ?_
   obtain ⟨fr,hfr⟩:∃ fr,fr73 n N (.slice (some ra') rl.length rc) o k W=fr:=⟨_,rfl⟩
   have hfl:lk fr 14=some (ptA N) ∧ lk fr 15=some (ptA (N + 1)):=by rw [← hfr]; exact ⟨rfl,rfl⟩
   obtain ⟨B,hB⟩:∃ B,(N + 5,Blk.cells [iv st] 3) :: (N + 4,.cells [iv vl] 3) :: (N + 3,.cells [iv k] 3) :: (N + 2,.cells [.string s,.slice oa ts.length c,iv W] 196) :: Hx=B:=⟨_,rfl⟩
   have hHB:Sub Hx B:=by
     intro j b hj
     have:=hHlt _ _ hj
     rw [← hB,hget_cons,if_neg (by omega),hget_cons,if_neg (by omega),hget_cons,if_neg (by omega),hget_cons,if_neg (by omega)]
     exact hj
   have hTB:Sub T0 B:=hT2.trans (hSx.trans hHB)
   have htB:trcV B (.slice oa ts.length c)=some ts:=listV_mono decT_mono hTB ht
   have hBlt:∀ j b,hget B j=some b → j < N + 8:=fun j b hj=>by
     rw [← hB,hget_cons,hget_cons,hget_cons,hget_cons] at hj
     split at hj
     · omega
     split at hj
     · omega
     split at hj
     · omega
     split at hj
     · omega
     · have:=hHlt _ _ hj; omega
   have hBn:∀ j,N ≤ j → (j < N + 2 ∨ N + 5 < j) → hget B j=none:=fun j h1 h2=>by
     rw [← hB,hget_cons,if_neg (by omega),hget_cons,if_neg (by omega),hget_cons,if_neg (by omega),hget_cons,if_neg (by omega)]
     exact hHn j h1
   have hM0:hget M6 N=some (.cells [iv 0] 3):=by rw [← hM6,← hZ1]; simp
   have hM1:hget M6 (N + 1)=some (.cells [iv 0] 3):=by rw [← hM6,← hZ1]; simp
   have hBM:Sub B M6:=by
     intro j b hj
     rw [← hB,hget_cons,hget_cons,hget_cons,hget_cons] at hj
     rw [← hM6,hget_cons,hget_cons,hget_cons,hget_cons]
     split
     · rename_i e'; rw [if_pos e'] at hj; exact hj
     rename_i e1'; rw [if_neg e1'] at hj
     split
     · rename_i e'; rw [if_pos e'] at hj; exact hj
     rename_i e2'; rw [if_neg e2'] at hj
     split
     · rename_i e'; rw [if_pos e'] at hj; exact hj
     rename_i e3'; rw [if_neg e3'] at hj
     split
     · rename_i e'; rw [if_pos e'] at hj; exact hj
     rename_i e4'; rw [if_neg e4'] at hj
     exact hxZ1 _ _ hj
   have hMlt:∀ j b,hget M6 j=some b → j < N + 6:=fun j b hj=>namesOk_iff.1 hM6n (j,b) (hget_mem _ _ _ hj)
   let I:Nat → Heap → Nat → Prop:=fun i H N'=>Kp B (N + 8) (fs73 fr N .ready none (livL ts k vl st i).length (sumI (smpN ts k vl) (livL ts k vl st i))) H N'
   have hstart:I 0 ((N + 7,lb73 fr N .ready none) :: (N + 6,.defd) :: M6) (N + 8):=by
     have hs0:Sub B ((N + 7,lb73 fr N .ready none) :: (N + 6,.defd) :: M6):=fun j b hj=>by
       have:=hMlt _ _ (hBM _ _ hj)
       rw [hget_cons,if_neg (by omega),hget_cons,if_neg (by omega)]
       exact hBM _ _ hj
     refine ((((Kp.start hBlt hs0 (namesOk_put (by omega) (namesOk_put (by omega) (namesOk_mono (by omega) _ hM6n))) (Nat.le_refl _)).more (l:=N + 1) (c:=.cells [iv 0] 3) ?_ (by omega) (hBn _ (by omega) (by omega)) (by simp)).more (l:=N) (c:=.cells [iv 0] 3) ?_ (by omega) (hBn _ (by omega) (by omega)) (by simp)).more (l:=N + 7) (c:=lb73 fr N .ready none) (by simp) (by omega) (hBn _ (by omega) (by omega)) (by simp)).more (l:=N + 6) (c:=.defd) (by simp) (by omega) (hBn _ (by omega) (by omega)) (by simp)
     · rw [hget_cons,if_neg (by omega),hget_cons,if_neg (by omega)]; exact hM1
     · rw [hget_cons,if_neg (by omega),hget_cons,if_neg (by omega)]; exact hM0
   obtain ⟨v',H',n',hAC,hend⟩:=it169 (B:=B) (l:=N + 7) (kb:=N + 2) (k1:=N + 3) (k2:=N + 4) (k3:=N + 5) (s:=s) (t:=k) (w:=vl) (st:=st) (by rw [← hB,← hWw]; simp) (by rw [← hB]; simp) (by rw [← hB]; simp) (by rw [← hB]; simp) (hTB _ _ hR) htB hok (by omega) hvr hso.str I (fun _ _=>False) (fun i H N h=>h.sub) (fun i H N h=>h.nm)
     (fun i H N cs hi h hd=>by
       show Kp B _ (fs73 fr _ .ready none (livL ts k vl st (i + 1)).length _) _ _
       rw [livL_dead hd]; exact h.skip _)
     (fun i Hy N' cs b hi hI hlv hh hb=>by
       have hlen:=livL_len ts k vl st i
       have h64:=hok.len.2
       have hsa:=sumI_abs (f:=smpN ts k vl) (M:=16384) (livL ts k vl st i) fun x _=>smpN_abs hok k vl x
       have hx:six32 b=smpN ts k vl (i:Int):=by
         unfold smpN
         rw [Int.toNat_natCast,List.getElem?_eq_getElem hi]
         dsimp only
         rw [List.getD_eq_getElem?_getD,hb]
         rfl
       have hxa:=smpN_abs hok k vl (i:Int)
       rw [hx]
       have e1:16384 * (livL ts k vl st i).length ≤ 16384 * 64:=Nat.mul_le_mul_left _ (by omega)
       obtain ⟨r,bb,H2,N2,h1,h2,h3,h4⟩:=yield73 (cs:=cs) (i:=(i:Int)) (x:=smpN ts k vl (i:Int)) hfl hI (W_in (by omega) (by omega)) (W_in (by omega) (by omega))
       subst h3
       refine ⟨r,true,H2,N2,h1,h2,?_⟩
       rw [if_pos rfl]
       show Kp B _ (fs73 fr _ .ready none (livL ts k vl st (i + 1)).length _) _ _
       rw [livL_live hlv,sumI_snoc,List.length_append]
       exact h4)
     (H:=(N + 7,lb73 fr N .ready none) :: (N + 6,.defd) :: M6) (n:=N + 8) hstart
   rw [hfr]
   refine ⟨v',H',n',hAC,?_⟩
   rcases hend with hI | hI
   rotate_left
   · exact hI.elim
   refine .inl ⟨hI.at' 1 _ rfl,?_⟩
   have hK:=hI.put 1 rfl (lb73 fr N .exhausted none)
   have hKb:=hI.big
   show E Tryz.prog n none _ { fr:=fr,sz:=85,H:=hset H' (N + 7) (lb73 fr N .exhausted none),n:=n',marks:=(N + 6) :: ms,vs:=vs73 } _
   obtain ⟨Q,hQe⟩:∃ Y,hset H' (N + 7) (lb73 fr N .exhausted none)=Y:=⟨_,rfl⟩
   rw [hQe] at hK ⊢
   rw [← hfr]
   have c0:cellA Q N 0=_:=hK.cell 2 rfl 0
   have c1:cellA Q (N + 1) 0=_:=hK.cell 3 rfl 0
   simp only [List.getElem?_cons_zero] at c0 c1
   have hxQ:Sub Hx Q:=hHB.trans hK.sub
   obtain ⟨S1,hS1⟩:∃ x,sumI (smpN ts k vl) (livL ts k vl st ts.length)=x:=⟨_,rfl⟩
   have hLen:=livL_len ts k vl st ts.length
   have h64:=hok.len.2
   have hsa:=sumI_abs (f:=smpN ts k vl) (M:=16384) (livL ts k vl st ts.length) fun x _=>smpN_abs hok k vl x
   have hstk:stkB ts l rl st e k=sampB (flrV (sumI (smpN ts k vl) (livL ts k vl st ts.length)) (max 1 ((livL ts k vl st ts.length).length:Nat))):=by unfold stkB; rw [hvle]
   obtain ⟨c9,hc9⟩:∃ x,(livL ts k vl st ts.length).length=x:=⟨_,rfl⟩
   rw [hS1] at hsa hstk c1
   rw [hc9] at hsa hstk c0 hLen
   have e1':16384 * c9 ≤ 16384 * 64:=Nat.mul_le_mul_left _ (by omega)
   obtain ⟨mx,hmx⟩:∃ x,max (1:Int) (c9:Int)=x:=⟨_,rfl⟩
   rw [hmx] at hstk
   have hfb:=flr_b (x:=S1) (c:=mx) (by omega) (M:=1048576) (by decide) ⟨by omega,by omega⟩
   obtain ⟨y,hy⟩:∃ y,flrV S1 mx=y:=⟨_,rfl⟩
   rw [hy] at hfb hstk
   obtain ⟨b,hb⟩:∃ b,stkB ts l rl st e k=b:=⟨_,rfl⟩
   rw [hb] at hstk
   have h147:∀ Z m,g147 [iv S1,iv mx] Z m=some (iv y,Z,m):=fun Z m=>by
     simp only [g147]
     rw [if_pos ⟨⟨by omega,by omega⟩,by omega,by omega⟩,hy]
   have h134:∀ Z m,g134 [iv y] Z m=some (rv b,Z,m):=fun Z m=>by
     simp only [g134]
     rw [if_pos (by omega),hstk]
   have hr4:=recT_ok (P:=Tryz.prog) (l:=[(147,g147),(134,g134)]) (by simp only [List.forall_mem_cons]; exact ⟨ok147,ok134,by simp⟩)
   have hsn:(stkL ts l rl st e k).map rv ++ [rv b]=(stkL ts l rl st e (k + 1)).map rv:=by rw [stkL_succ,List.map_append,hb]; rfl
   obtain ⟨X2,hX2⟩:∃ Z,(n',Blk.cells [rv b] 145) :: Q=Z:=⟨_,rfl⟩
   have hX2n:namesOk (n' + 1) X2=true:=by rw [← hX2]; exact namesOk_put (by omega) (namesOk_mono (by omega) _ hK.nm)
   have hQX2:Sub Q X2:=by rw [← hX2]; exact Sub.cons hK.new (Sub.refl _)
   have hap:=app_at (P:=Tryz.prog) (st:=126) (t:=145) (i:=Tryz.t145) (X:=X2) (N:=n') (o:=o) (k:=k) (sz:=1) (cs:=(stkL ts l rl st e k).map rv) (new:=[rv b]) Tryz.underlying126 inf145' sz145i zo145 by145 (by omega) (by rw [← hX2,hget_cons,if_pos rfl]) (by rw [List.length_map,stkL_len]; omega) rfl (by decide) rfl (fun h0=>hQX2 _ _ (hxQ _ _ (ho h0)))
   rw [hsn] at hap
   obtain ⟨X3,hX3⟩:∃ Z,(if k=0 then X2 else hdel X2 o)=Z:=⟨_,rfl⟩
   have hX3n:namesOk (n' + 1) X3=true:=by
     rw [← hX3]
     split
     · exact hX2n
     · exact namesOk_hdel hX2n
   have hx3:∀ m,(k ≠ 0 → m ≠ o) → hget X3 m=hget X2 m:=fun m hm=>by
     rw [← hX3]
     split
     · rfl
     · rename_i h0
       rw [hget_hdel,if_neg (hm h0)]
   have hYX3:Sub Y2 X3:=fun j b hj=>by
     have hjn:=namesOk_iff.1 hY2n (j,b) (hget_mem _ _ _ hj)
     dsimp only at hjn
     rw [hx3 j fun _=>by omega]
     exact hQX2 _ _ (hxQ _ _ (hSx _ _ hj))
   rw [hX3] at hap
   obtain ⟨Z,hZ⟩:∃ Z,(n' + 1,Blk.ext ((stkL ts l rl st e (k + 1)).map rv) 145 1) :: X3=Z:=⟨_,rfl⟩
   have hZn:namesOk (n' + 1 + 1) Z=true:=by rw [← hZ]; exact namesOk_put (by omega) (namesOk_mono (by omega) _ hX3n)
   have hX3Z:Sub X3 Z:=by
     rw [← hZ]
     refine Sub.cons ?_ (Sub.refl _)
     cases hc:hget X3 (n' + 1) with
     | none=>rfl
     | some b=>have:=namesOk_iff.1 hX3n (_,b) (hget_mem _ _ _ hc); dsimp only at this; omega
   rw [hZ,← hX2,outS_ne (Nat.succ_ne_zero _)] at hap
   have hbm:builtinA Tryz.prog .max #[3,3] Q n' [.int .i64 1,iv c9]=none:=rfl
   refine E.reg hr4 (by simp [-cellA,-builtinA,hbm,c0,c1,max33,hmx,h147,h134,hap]; rfl) ?_
   refine E.reg hr0 (by simp [hw]; rfl) ?_
   refine ⟨(k + 1,Z,n' + 1 + 1,n' + 1,(N + 6) :: ms),.keep rfl rfl rfl (by simp [outS_ne (Nat.succ_ne_zero k)]) (Sub.refl _),⟨by omega,hYX3.trans hX3Z,hZn,by dsimp only; omega,by dsimp only; omega,fun _=>by rw [← hZ,hget_cons,if_pos rfl],List.nodup_cons.2 ⟨fun h=>?_,hnd⟩,fun m hm=>?_⟩,by dsimp only; omega⟩
   · have:=hHlt _ _ (hms _ h).2
     omega
   · have hoN:k ≠ 0 → o < N:=fun h0=>hHlt _ _ (ho h0)
     rcases List.mem_cons.1 hm with rfl | hm
     · refine ⟨by omega,hX3Z _ _ ?_⟩
       rw [hx3 _ fun h0=>by have:=hoN h0; omega]
       exact hQX2 _ _ (hK.at' 0 _ rfl)
     · obtain ⟨h1,h2⟩:=hms m hm
       refine ⟨h1,hX3Z _ _ ?_⟩
       rw [hx3 _ fun h0 e'=>by rw [e',ho h0] at h2; cases h2]
       exact hQX2 _ _ (hxQ _ _ h2)
 · have hkW':k=W:=by omega
   subst hkW'
   refine E.cond (t:=false) (by simp) (fun h=>by cases h) (fun _=>?_)
   refine E.exit ?_
   obtain ⟨H2,e1,e2⟩:=shut_all ms (H:=Hx) hnd fun m hm=>(hms m hm).2
   have hH2n:=shut_nm ms e1 hnx
   have hkeep:∀ j b,plainB2 b=true → hget Hx j=some b → hget H2 j=some b:=fun j b hp hj=>by
     rw [e2 _ fun h=>by have:=(hms _ h).2; rw [hj] at this; injection this with this; subst this; cases hp]
     exact hj
   refine E.seq (E.reg hr0 (by simp; rfl) ?_)
   refine E.ret ?_
   rw [hz2,hPL]
   refine outM.ret H2 e1 (vs:=[outS o k,iv 0]) (by simp [resultsA,resultA,Tryz.results73]) ⟨outS o k,rfl,fun j b hj=>hkeep j b (hpm0.plain _ _ hj) (hSx _ _ (hT2 _ _ hj)),hH2n,by dsimp only; omega,fun h G=>?_,fun G _ hG=>?_⟩
   · by_cases hk0:k=0
     · subst hk0; rfl
     · rw [outS_ne hk0] at h; cases h
   · have:=rea_view (G:=G) (o:=o) (bs:=stkL ts l rl st e k) (fun h0=>hG _ _ (by omega) rfl (hkeep _ _ rfl (ho fun e=>h0 (by subst e; rfl)))) (by rw [stkL_len]; omega)
     rw [stkL_len] at this
     exact this
@[simp] theorem run_next {P:Program} {r:Rec} {st:St} {dst ty ps af g} {it:Operand}:runOp P r ⟨dst,.next it true,ty,ps,af,g⟩ st=opNext P it st.fr st.H st.n:=rfl
section
variable {P:Program} {t:TypeId} {x y:Operand} {H:Heap} {n:Nat} {a b:List UInt8}
variable {i j:Int}
@[simp] theorem bin_lss32:binV P .lss t x y (.int .i32 i) (.int .i32 j) H n=some (.bool (decide (i < j)),H,n):=rfl
@[simp] theorem bin_gtr32:binV P .gtr t x y (.int .i32 i) (.int .i32 j) H n=some (.bool (decide (j < i)),H,n):=rfl
@[simp] theorem bin_sub32:binV P .sub t x y (.int .i32 i) (.int .i32 j) H n=some (.int .i32 (IntKind.i32.wrap (i - j)),H,n):=rfl
end
theorem cv5_3 (a:Int):runP Tryz.prog (convert 5 3 (.int .u8 a))=some (.int .i64 (IntKind.i64.wrap a)):=by kernel_rfl
attribute [simp] Tryz.t9
@[simp] theorem wrap0:IntKind.i64.wrap 0=0:=W_in (by omega) (by omega)
attribute [simp] Tryz.t100
attribute [simp] run_vcall_tmp vcallF target
def shortN (L:Nat):Bool:=decide (L ≤ 32) || decide (L=1025)
theorem w167 {H:Heap} {n:Nat} {oa:Option Addr} {L c:Nat} (hL:L < 9223372036854775808):AC Tryz.prog 167 [.slice oa L c] H n (.bool (shortN L)) H n:=by
 refine AC.given fun hold hsc hgn=>AC.tidied (B:=[]) (by simp) ?_
 have hr:=recT_ok (P:=Tryz.prog) (l:=[]) (by simp)
 refine AC.pure Tryz.func167 rfl (by kernel_rfl) rfl [0,2] rfl ?_
 refine E.seq (E.reg hr (by simp; rfl) ?_)
 refine E.seq ?_
 by_cases h:L ≤ 32
 case' pos=>
   have h1:(L:Int) ≤ 32:=by omega
   refine E.reg hr (by simp [h1]; rfl) ?_
 case' neg=>
   have h1:¬ (L:Int) ≤ 32:=by omega
   have h2:((L:Int)=1025)=(L=1025):=by rw [eq_iff_iff]; omega
   refine E.reg hr (by simp [h1,h2]; rfl) ?_
 all_goals
   refine E.ret ?_
   exact pureK.ret rfl rfl (by simp [shortN,h]) (Sub.refl _)
def g167 (args:List Value) (H:Heap) (n:Nat):R:=match args with
 | [.slice _ L _]=>if L < 9223372036854775808 then some (.bool (shortN L),H,n) else none
 | _=>none
theorem ok167:EntOk Tryz.prog (167,g167):=by
 intro args H n v H' n' h
 simp only [g167] at h
 split at h
 · split at h
   · rename_i hL
     injection h with h; injection h with e1 e2; injection e2 with e2 e3; subst e1 e2 e3
     exact w167 hL
   · cases h
 · cases h
set_option maxRecDepth 20000 in
theorem w130 {H:Heap} {n:Nat} {cs:List Value} {oa:Option Addr} {L c:Nat} (h9:cs[9]? = some (.slice oa L c)) (hL:L < 9223372036854775808):AC Tryz.prog 130 [.agg ⟨cs⟩] H n (.bool (shortN L)) H n:=by
 refine AC.given fun hold hsc hgn=>AC.tidied (B:=[]) (by simp) ?_
 have hr:=recT_ok (P:=Tryz.prog) (l:=[(167,g167)]) (by simp [ok167])
 obtain ⟨X,hX⟩:∃ X,(n,Blk.cells cs 144) :: tidy n H=X:=⟨_,rfl⟩
 have hS:Sub (tidy n H) X:=by rw [← hX]; exact Sub.cons (by simp) (Sub.refl _)
 have hb:hget X n=some (.cells cs 144):=by rw [← hX,hget_cons,if_pos rfl]
 have hc9:cellA X n 9=some (.slice oa L c):=by rw [cellA_eq,hb]; exact h9
 refine AC.pure Tryz.func130 rfl (by kernel_rfl) rfl [1,2] rfl ?_
 refine E.seq (E.reg hr (by simp; rfl) ?_)
 rw [hX]
 refine E.seq (E.reg hr (by simp [-cellA,hc9,g167,hL]; rfl) ?_)
 refine E.ret ?_
 exact pureK.ret rfl rfl (by simp) hS
def g130 (args:List Value) (H:Heap) (n:Nat):R:=match args with
 | [.agg a]=>match a.toList[9]? with
   | some (Value.slice _ L _)=>if L < 9223372036854775808 then some (.bool (shortN L),H,n) else none
   | _=>none
 | _=>none
theorem ok130:EntOk Tryz.prog (130,g130):=by
 intro args H n v H' n' h
 simp only [g130] at h
 split at h
 · split at h
   · rename_i h9
     split at h
     · rename_i hL
       injection h with h; injection h with e1 e2; injection e2 with e2 e3; subst e1 e2 e3
       exact w130 h9 hL
     · cases h
   · cases h
 · cases h
theorem sq_bind {α β:Type} {P:Program} (a:Sem α) (g:α → Sem β):runP P (Sem.bind a g)=(runP P a).bind fun x=>runP P (g x):=by
 induction a with
 | program k ih=>exact ih P
 | mark m k ih=>exact ih
 | _=>rfl
theorem sq_und {α:Type} {P:Program} {t:TypeId} {d:TypeDesc} {f:TypeDesc → Sem α} (h:P.underlying t=some d):runP P (Sem.bind (underlying t) f)=runP P (f d):=by
 show runP P (Sem.bind (match P.underlying t with | some d=>_ | none=>_) f)=_
 rw [h]
 rfl
theorem len_nm {s:ByteArray} {o:Bool}:runP Tryz.prog (Go.builtin .len #[9] 3 #[o] #[.string s])=some (.value (iv s.size)):=by
 show runP Tryz.prog (Sem.bind (Sem.bind (underlying 9) _) _)=_
 rw [sq_bind,sq_und Tryz.underlying9]
 rfl
set_option maxHeartbeats 600000 in
set_option maxRecDepth 50000 in
theorem w57big {H:Heap} {n:Nat} {s:ByteArray} {oa:Option Addr} {L c:Nat} (h:60 < s.size ∨ 6 < L ∧ L ≠ 65):AC Tryz.prog 57 [.agg ⟨[.string s,.slice oa L c]⟩] H n (.bool false) H n:=by
 refine AC.given fun hold hsc hgn=>AC.tidied (B:=[]) (by simp) ?_
 have hr:=recT_ok (P:=Tryz.prog) (l:=[]) (by simp)
 obtain ⟨X,hX⟩:∃ X,(n,Blk.cells [.string s,.slice oa L c] 103) :: tidy n H=X:=⟨_,rfl⟩
 have hS:Sub (tidy n H) X:=by rw [← hX]; exact Sub.cons (by simp) (Sub.refl _)
 have hb:hget X n=some (.cells [.string s,.slice oa L c] 103):=by rw [← hX,hget_cons,if_pos rfl]
 have hc0:cellA X n 0=some (.string s):=by rw [cellA_eq,hb]; rfl
 have hc1:cellA X n 1=some (.slice oa L c):=by rw [cellA_eq,hb]; rfl
 refine AC.pure Tryz.func57 rfl (by kernel_rfl) rfl [1,2,3,19,33] rfl ?_
 refine E.seq (E.reg hr (by simp; rfl) ?_)
 rw [hX]
 refine E.seq (E.seq ?_)
 by_cases h1:60 < s.size
 case' pos=>
   have e1:(60:Int) < s.size:=by omega
   refine E.reg hr (by simp [-cellA,hc0,isConstO,e1]; rfl) ?_
 case' neg=>
   have e1:¬ (60:Int) < s.size:=by omega
   have e2:(6:Int) < L:=by omega
   have e3:¬ (L:Int)=65:=by omega
   refine E.reg hr (by simp [-cellA,hc0,isConstO,hc1,e1,e2,e3]; rfl) ?_
 all_goals
   refine E.cond (t:=true) (by simp) (fun _=>?_) (fun h=>by cases h)
   refine E.seq (E.reg hr (by simp; rfl) ?_)
   refine E.ret ?_
   exact pureK.ret rfl rfl (by simp) hS
def decTL:Dec Nat:=fun _ cs=>match cs[9]? with
 | some (Value.slice _ L _)=>if L < 9223372036854775808 then some L else none
 | _=>none
theorem decTL_tidy:DecTidy decTL:=fun _ _ _ _ _ h=>h
set_option maxHeartbeats 600000 in
set_option maxRecDepth 50000 in
theorem w57 {H:Heap} {n:Nat} {s:ByteArray} {u:Value} {Ls:List Nat} (hu:listV 10 decTL H u=some Ls) (hs:s.size ≤ 60) (hl:Ls.length ≤ 6 ∨ Ls.length=65):AC Tryz.prog 57 [.agg ⟨[.string s,u]⟩] H n (.bool (Ls.all shortN)) H n:=by
 refine AC.given fun hold hsc hgn=>AC.tidied (B:=[]) (by simp) ?_
 replace hu:=listV_tidy decTL_tidy (fun k b h=>(hold k b h).1) hu
 have hr:=recT_ok (P:=Tryz.prog) (l:=[(130,g130)]) (by simp [ok130])
 obtain ⟨oa,c,rfl,hlt,_,hrow⟩:=listV_form hu
 obtain ⟨X,hX⟩:∃ X,(n,Blk.cells [.string s,.slice oa Ls.length c] 103) :: tidy n H=X:=⟨_,rfl⟩
 have hS:Sub (tidy n H) X:=by rw [← hX]; exact Sub.cons (by simp) (Sub.refl _)
 have hb:hget X n=some (.cells [.string s,.slice oa Ls.length c] 103):=by rw [← hX,hget_cons,if_pos rfl]
 have hc0:cellA X n 0=some (.string s):=by rw [cellA_eq,hb]; rfl
 have hc1:cellA X n 1=some (.slice oa Ls.length c):=by rw [cellA_eq,hb]; rfl
 refine AC.pure Tryz.func57 rfl (by kernel_rfl) rfl [1,2,3,19,33] rfl ?_
 refine E.seq (E.reg hr (by simp; rfl) ?_)
 rw [hX]
 refine E.seq (E.seq ?_)
 have e1:¬ (60:Int) < s.size:=by omega
 by_cases h6:Ls.length ≤ 6
 case' pos=>
   have e2:¬ (6:Int) < Ls.length:=by omega
   refine E.reg hr (by simp [-cellA,hc0,isConstO,hc1,e1,e2]; rfl) ?_
 case' neg=>
   have e2:(6:Int) < Ls.length:=by omega
   have e3:(Ls.length:Int)=65:=by omega
   refine E.reg hr (by simp [-cellA,hc0,isConstO,hc1,e1,e3]; rfl) ?_
 all_goals
   refine E.cond (t:=false) (by simp) (fun h=>by cases h) (fun _=>?_)
   refine E.skip (E.seq ?_)
   refine E.seq (E.reg hr (by simp; rfl) ?_)
   refine E.block (E.loop ?_)
   refine EL.ind (fun i:Nat=>{ fr:=[(1,.pointer (some ⟨n,0,none⟩)),(3,iv i)],sz:=34,H:=X,n:=n + 1,marks:=[],vs:=[1,2,3,19,33] }) (fun i=>Ls.length - i) (fun i=>i ≤ Ls.length ∧ Ls.all shortN=(Ls.drop i).all shortN) 0 (.keep rfl rfl rfl (by simp) (Sub.refl _)) ⟨Nat.zero_le _,by rw [List.drop_zero]⟩ (fun _=>rfl) ?_
   rintro i ⟨hi,hg⟩
   have hw:IntKind.i64.wrap ((i:Int) + 1)=(i:Int) + 1:=W_in (by omega) (by omega)
   refine E.seq (E.seq (E.reg hr (by simp [-cellA,hc1]; rfl) ?_))
   by_cases hil:i < Ls.length
   · refine E.cond (t:=true) (by simp [hil]) (fun _=>?_) (fun h=>by cases h)
     obtain ⟨a,r,rfl,hf,hcs,hd⟩:=hrow i hil
     have hld:=load144 (hS.cells hcs)
     have hl1:loadA Tryz.prog 101 X (.pointer (some ⟨n,1,none⟩))=some (.slice (some a) Ls.length c):=by simp [-cellA,hc1]
     have hgt:∀ m,g130 [.agg ⟨r⟩] X m=some (.bool (shortN Ls[i]),X,m):=fun m=>by
       unfold decTL at hd
       split at hd
       · rename_i h9
         split at hd
         · rename_i hL
           injection hd with hd
           rw [← hd]
           unfold g130
           simp only [h9]
           rw [if_pos hL]
         · cases hd
       · cases hd
     rw [List.drop_eq_getElem_cons hil,List.all_cons] at hg
     refine E.skip (E.seq ?_)
     refine E.block (E.seq (E.reg hr (by simp [-cellA,-flat,-loadA,hl1,hil,hf,hld,hgt]; rfl) ?_))
     cases hb2:shortN Ls[i] with
     | false=>
       refine E.cond (t:=true) (by simp) (fun _=>?_) (fun h=>by cases h)
       refine E.seq (E.reg hr (by simp; rfl) ?_)
       refine E.ret ?_
       exact pureK.ret rfl rfl (by rw [hg,hb2]; simp) hS
     | true=>
       refine E.cond (t:=false) (by simp) (fun h=>by cases h) (fun _=>?_)
       refine E.skip (E.reg hr (by simp [hw]; rfl) ?_)
       rw [hb2,Bool.true_and] at hg
       exact ⟨i + 1,.keep rfl rfl rfl (by simp) (Sub.refl _),⟨by omega,hg⟩,by dsimp only; omega⟩
   · refine E.cond (t:=false) (by simp [hil]) (fun h=>by cases h) (fun _=>?_)
     refine E.exit ?_
     refine E.seq (E.reg hr (by simp; rfl) ?_)
     refine E.ret ?_
     rw [List.drop_of_length_le (by omega),List.all_nil] at hg
     exact pureK.ret rfl rfl (by rw [hg]; simp) hS
def Q57 (_:List Value) (H:Heap) (n:Nat) (v:Value) (H':Heap) (n':Nat):Prop:=v = .bool true ∧ H'=H ∧ n'=n
def Q60 (s:ByteArray) (ts:List Trc) (w st:Int) (_:List Value) (H:Heap) (n:Nat) (v:Value) (H':Heap) (n':Nat):Prop:=∃ u,v = .tuple #[u,iv (corE s ts w st)] ∧ MadeS H n H' n' u (corR s ts w st)
def Q71 (s:ByteArray) (ts:List Trc) (_:List Value) (H:Heap) (n:Nat) (u:Value) (H':Heap) (n':Nat):Prop:=MadeS H n H' n' u (s,ts)
theorem store_new {H:Heap} {k:Nat} {t:TypeId} {zs cs:List Value} (hl:cs.length=zs.length):storeA ((k,.cells zs t) :: H) k 0 cs=some ((k,.cells cs t) :: H):=by
 rw [store_all (t:=t) (zs:=zs) (by rw [hget_cons,if_pos rfl]) hl]
 simp
def Q73 (s:ByteArray) (ts:List Trc) (l rl:List Int) (w st e:Int) (_:List Value) (H:Heap) (n:Nat) (v:Value) (H':Heap) (n':Nat):Prop:=∃ u,v = .tuple #[u,iv (stkE s ts l rl w st e)] ∧ MadeV reaV H n H' n' u (stkR s ts l rl w st e)
end Go.Proofs.YtkongcnmkiihjaaGreatDoor
namespace Go.Ab
open Go Ieee
theorem neg_bits (b:Nat):(b ^^^ 2 ^ 31) % 2 ^ 31=b % 2 ^ 31 ∧ ((b ^^^ 2 ^ 31) / 2 ^ 31 % 2 == 1) = !(b / 2 ^ 31 % 2 == 1):=by
 constructor
 · rw [Nat.xor_mod_two_pow,Nat.mod_self,Nat.xor_zero]
 · rw [Nat.xor_div_two_pow,Nat.div_self (by decide)]
   have h:(b / 2 ^ 31 ^^^ 1) % 2=(b / 2 ^ 31 % 2) ^^^ 1:=by
     have:=Nat.xor_mod_two_pow (a:=b / 2 ^ 31) (b:=1) (n:=1)
     simpa using this
   rw [h]
   rcases Nat.mod_two_eq_zero_or_one (b / 2 ^ 31) with e | e <;> rw [e] <;> rfl
def negB (b:Nat):Nat:=Go.Op.negFloat .f32 b
theorem read_neg (b:Nat):single.read (negB b)=(single.read b).opposite:=by
 have e:negB b=b ^^^ 2 ^ 31:=rfl
 obtain ⟨h1,h2⟩:=neg_bits b
 rw [e,read32,read32,h1,h2]
 split
 · rfl
 split
 · rfl
 split
 · rfl
 · rfl
theorem sv2_neg (s:Bool) (m:Nat) (e:Int):sv2 (!s) m e = - sv2 s m e:=by
 unfold sv2
 cases s
 · rfl
 · show (mv2 m e:Int) = - -(mv2 m e:Int)
   omega
theorem val_neg (b:Nat):val32 (negB b) = - val32 b ∧ fin32 (negB b)=fin32 b:=by
 unfold val32 fin32
 rw [read_neg]
 cases single.read b with
 | number s m e=>exact ⟨sv2_neg s m e,rfl⟩
 | infinity s=>exact ⟨rfl,rfl⟩
 | nan s f=>exact ⟨rfl,rfl⟩
theorem smp_neg {b:Nat} {n:Int} (h:smp b n):smp (negB b) (-n):=by
 obtain ⟨h1,h2⟩:=val_neg b
 refine ⟨h2.trans h.1,?_⟩
 rw [h1,Int.neg_mul,← h.2,Int.mul_neg]
theorem good_neg {b:Nat} (h:good32 b=true):good32 (negB b)=true ∧ six32 (negB b) = - six32 b:=by
 have h6:=good_six h
 have hs:smp b (six32 b):=by
   refine ⟨?_,h6.1⟩
   unfold good32 at h
   simp only [Bool.and_eq_true,decide_eq_true_eq] at h
   exact h.1.1
 exact smp_good (smp_neg hs) (by omega)
end Go.Ab
namespace Go.Proofs.YtkongcnmkiihjaaGreatDoor
open Go Go.Ab Go.Proofs
theorem sq_gap {α:Type} {f:α → Int} (x:Int):∀ l:List α,0 ≤ sumI (fun i=>f i * f i) l - 2 * (x * sumI f l) + l.length * (x * x)
 | []=>by simp [sumI]
 | y :: l=>by
   have ih:=sq_gap (f:=f) x l
   have h:=(sq_abs (x:=f y - x) (Nat.le_refl _)).1
   have e1:(f y - x) * (f y - x)=f y * f y - 2 * (x * f y) + x * x:=by
     rw [Int.sub_mul,Int.mul_sub,Int.mul_sub,Int.mul_comm (f y) x]; omega
   have e2:x * (f y + sumI f l)=x * f y + x * sumI f l:=Int.mul_add _ _ _
   have e3:(((y :: l).length:Nat):Int) * (x * x)=l.length * (x * x) + x * x:=by
     rw [List.length_cons,Int.natCast_succ,Int.add_mul,Int.one_mul]
   rw [sumI,sumI,e2,e3]
   rw [e1] at h
   omega
theorem sq_sum {α:Type} {f:α → Int}:∀ l:List α,sumI f l * sumI f l ≤ l.length * sumI (fun i=>f i * f i) l
 | []=>by simp [sumI]
 | y :: l=>by
   have ih:=sq_sum (f:=f) l
   have h:=sq_gap (f:=f) (f y) l
   have e2:(f y + sumI f l) * (f y + sumI f l)=f y * f y + 2 * (f y * sumI f l) + sumI f l * sumI f l:=by
     rw [Int.add_mul,Int.mul_add,Int.mul_add,Int.mul_comm (sumI f l) (f y)]; omega
   have e3:(((y :: l).length:Nat):Int) * (f y * f y + sumI (fun i=>f i * f i) l)=l.length * (f y * f y) + l.length * sumI (fun i=>f i * f i) l + (f y * f y + sumI (fun i=>f i * f i) l):=by
     rw [List.length_cons,Int.natCast_succ,Int.add_mul,Int.one_mul,Int.mul_add]
   rw [sumI,sumI,e2,e3]
   omega
theorem nu_le_de (ts:List Trc) (t w st:Int):nuT ts t w st ≤ deT ts t w st:=sq_sum _
theorem accN_le {f g:Int → Int} {a:Int} (h:∀ x,f x ≤ g x):∀ k:Nat,accN f a k ≤ accN g a k
 | 0=>Int.le_refl _
 | k + 1=>by
   have:=accN_le (a:=a) h k
   have:=h (a + k)
   unfold accN
   omega
theorem semP_le {ts:List Trc} (hok:OkS ts) {t w win st:Int}:(semP ts t w win st).1 ≤ (semP ts t w win st).2:=by
 have hndb:=fun x=>nd_bound hok x w st
 have hU:=accN_bound (fun x=>(hndb x).1) (semC ts t win) (a:=semA t win)
 have hD:=accN_bound (fun x=>(hndb x).2) (semC ts t win) (a:=semA t win)
 have hle:=accN_le (a:=semA t win) (fun x=>nu_le_de ts x w st) (semC ts t win)
 have e1:semU ts t w win st=accN (fun x=>nuT ts x w st) (semA t win) (semC ts t win):=rfl
 have e2:semD ts t w win st=accN (fun x=>deT ts x w st) (semA t win) (semC ts t win):=rfl
 rw [← e1] at hU hle
 rw [← e2] at hD hle
 unfold semP
 split
 · exact Int.le_of_lt (by decide)
 · rename_i h0
   have hg:=gcd_pos (a:=semU ts t w win st) (b:=semD ts t w win st) (by omega)
   show (semU ts t w win st).tdiv _ ≤ (semD ts t w win st).tdiv _
   rw [Int.tdiv_eq_ediv_of_nonneg (by omega),Int.tdiv_eq_ediv_of_nonneg (by omega)]
   exact Int.ediv_le_ediv (by omega) hle
def liX (W t w st:Int) (x:Trc):Bool:=!x.hole && (decide (movV t (offV x.hd) w < W) && decide (movV t (offV x.hd) w ≤ t + st))
def smX (t w:Int) (x:Trc):Int:=six32 (x.smp.getD (movV t (offV x.hd) w).toNat 0)
theorem smp_at {ts:List Trc} {t w:Int} {i:Nat} (h:i < ts.length):smpN ts t w (i:Int)=smX t w ts[i]:=by
 unfold smpN
 rw [Int.toNat_natCast,List.getElem?_eq_getElem h]
 rfl
theorem liv_sum {ts:List Trc} {t w st:Int} {g:Int → Int} {h:Trc → Int} (hg:∀ i (hi:i < ts.length),g (i:Int)=h ts[i]):∀ k,k ≤ ts.length → sumI g (livL ts t w st k)=sumI (fun x=>if liX (widF ts).1 t w st x then h x else 0) (ts.take k)
 | 0,_=>rfl
 | k + 1,hk=>by
   have ih:=liv_sum (t:=t) (w:=w) (st:=st) hg k (by omega)
   have hkl:k < ts.length:=by omega
   rw [List.take_succ_eq_append_getElem hkl,sumI_snoc]
   have hb:livB ts t w st k=liX (widF ts).1 t w st ts[k]:=livB_at hkl
   cases hl:livB ts t w st k with
   | true=>
     rw [livL_live hl,sumI_snoc,ih,hg k hkl,← hb,hl,if_pos rfl]
   | false=>
     rw [livL_dead hl,ih,← hb,hl,if_neg (by decide),Int.add_zero]
theorem sumI_one {α:Type}:∀ l:List α,sumI (fun _=>(1:Int)) l=l.length
 | []=>rfl
 | x :: l=>by rw [sumI,sumI_one l,List.length_cons]; omega
def suX (W t w st:Int) (g:Trc → Int) (ts:List Trc):Int:=sumI (fun x=>if liX W t w st x then g x else 0) ts
theorem nuT_X (ts:List Trc) (t w st:Int):nuT ts t w st=suX (widF ts).1 t w st (smX t w) ts * suX (widF ts).1 t w st (smX t w) ts:=by
 unfold nuT livA suX
 rw [liv_sum (h:=smX t w) (fun i hi=>smp_at hi) ts.length (Nat.le_refl _),List.take_length]
theorem deT_X (ts:List Trc) (t w st:Int):deT ts t w st=suX (widF ts).1 t w st (fun _=>1) ts * suX (widF ts).1 t w st (fun x=>smX t w x * smX t w x) ts:=by
 unfold deT livA suX
 rw [← sumI_one (livL ts t w st ts.length),liv_sum (g:=fun _=>1) (h:=fun _=>1) (fun i hi=>rfl) ts.length (Nat.le_refl _),liv_sum (g:=fun i=>smpN ts t w i * smpN ts t w i) (h:=fun x=>smX t w x * smX t w x) (fun i hi=>by rw [smp_at hi]) ts.length (Nat.le_refl _),List.take_length]
theorem sumI_rev {α:Type} {f:α → Int}:∀ l:List α,sumI f l.reverse=sumI f l
 | []=>rfl
 | x :: l=>by
   rw [List.reverse_cons,sumI_snoc,sumI_rev l,sumI]
   omega
theorem wid_all {ts:List Trc} {W:Int} (h:∀ x ∈ ts,x.hole=false → (x.smp.length:Int)=W) (he:∃ x ∈ ts,x.hole=false):(widF ts).1=W:=by
 unfold widF
 cases hf:ts.find? fun t=>!t.hole with
 | none=>
   obtain ⟨x,hx,h0⟩:=he
   have:=List.find?_eq_none.1 hf x hx
   rw [h0] at this
   exact absurd rfl this
 | some y=>
   have h1:=List.find?_some hf
   exact h y (List.mem_of_find?_eq_some hf) (by simpa using h1)
theorem wid_some {ts:List Trc} (h:(widF ts).1 ≠ 0):∃ x ∈ ts,x.hole=false:=by
 rcases widF_of ts with h0 | ⟨x,hx,h1,_⟩
 · exact absurd h0 h
 · exact ⟨x,hx,h1⟩
theorem shtE_name {s:ByteArray} {ts:List Trc} (h:shtE s ts=0):Gn.nameB s=true:=by
 unfold shtE at h
 dsimp only at h
 split at h
 · rename_i h1
   have:=when_zero (by decide) (first_zero h1 (whenV (!Gn.nameB s) 8) (by simp))
   simpa using this
 · rename_i h1
   exact absurd h h1
theorem first_all:∀ {l:List Int},(∀ x ∈ l,x=0) → firstV l=0
 | [],_=>rfl
 | e :: l,h=>by
   rw [firstV,if_pos (h e (List.mem_cons_self ..))]
   exact first_all fun x hx=>h x (List.mem_cons_of_mem _ hx)
theorem shtE_mk {s:ByteArray} {ts:List Trc} (hn:Gn.nameB s=true) (hl:1 ≤ ts.length ∧ ts.length ≤ 64) (he:∀ x ∈ ts,trcE x=0) (hw:∀ x ∈ ts,x.hole=false → (x.smp.length:Int)=(widF ts).1):shtE s ts=0:=by
 unfold shtE
 dsimp only
 have h1:firstV [whenV (!Gn.nameB s) 8,whenV (decide (ts.length=0)) 12,whenV (decide (64 < ts.length)) 5]=0:=first_all fun x hx=>by
   rcases List.mem_cons.1 hx with rfl | hx
   · rw [hn]; rfl
   rcases List.mem_cons.1 hx with rfl | hx
   · rw [decide_eq_false (by omega)]; rfl
   · rw [List.mem_singleton] at hx
     subst hx
     rw [decide_eq_false (by omega)]; rfl
 have h2:firstV (ts.map trcE)=0:=first_all fun x hx=>by
   obtain ⟨y,hy,rfl⟩:=List.mem_map.1 hx
   exact he y hy
 have h3:ts.all (widB (widF ts).1)=true:=List.all_eq_true.2 fun x hx=>by
   unfold widB
   cases hh:x.hole with
   | true=>rfl
   | false=>simpa using hw x hx hh
 rw [if_pos h1,if_pos h2,if_pos h3]
def z8:List Int:=[0,0,0,0,0,0,0,0]
theorem hd_z8:hdE z8=0:=by decide
theorem off_z8:offV z8=0:=by decide
def zT (x:Trc):Trc:=⟨z8,x.hole,x.smp⟩
def holT:Trc:=⟨z8,true,[]⟩
theorem trcE_hd {x y:Trc} (h:trcE x=0) (h1:y.hole=x.hole) (h2:y.smp=x.smp) (h3:hdE y.hd=0):trcE y=0:=by
 have h0:=(trcE_ok h).1
 unfold trcE at h ⊢
 rw [if_pos h0] at h
 rw [if_pos h3,h1,h2]
 exact h
theorem trcE_hol:trcE holT=0:=by
 unfold trcE
 rw [show hdE holT.hd=0 from hd_z8,if_pos rfl,if_neg (by rintro ⟨_,h⟩; exact absurd h (by decide))]
 rfl
theorem chk_good {bs:List Nat} (hl:bs.length ≤ 1024) (h:∀ b ∈ bs,good32 b=true):Gn.chkV 1024 bs=0:=by
 have h2:Gn.chkV 1024 bs=if (1024:Int) < bs.length then 5 else firstV (bs.map err32):=by rw [← first_same]; rfl
 rw [h2,if_neg (by omega)]
 refine first_all fun x hx=>?_
 obtain ⟨b,hb,rfl⟩:=List.mem_map.1 hx
 have hg:=h b hb
 unfold err32
 have hf:fin32 b=true:=by
   have hg2:=hg
   unfold good32 at hg2
   simp only [Bool.and_eq_true,decide_eq_true_eq] at hg2
   exact hg2.1.1
 rw [if_pos hf,if_pos hg]
theorem trcE_live {bs:List Nat} (hl:bs.length ≤ 1024) (h:∀ b ∈ bs,good32 b=true):trcE ⟨z8,false,bs⟩=0:=by
 unfold trcE
 rw [show hdE (Trc.mk z8 false bs).hd=0 from hd_z8,if_pos rfl,if_neg (by rintro ⟨h,_⟩; cases h)]
 exact chk_good hl h
theorem mov_z8 {t w:Int} (ht:0 ≤ t ∧ t ≤ 1024):movV t (offV z8) w=t:=by
 unfold movV
 rw [off_z8,Int.zero_ediv,Int.add_zero]
 obtain ⟨n,rfl⟩:∃ n:Nat,t=n:=⟨t.toNat,by omega⟩
 have h1:((n:Int) * n).toNat=n * n:=by
   rw [← Int.natCast_mul,Int.toNat_natCast]
 rw [h1,isq_sq]
 have:n * n ≤ 1024 * 1024:=Nat.mul_le_mul (by omega) (by omega)
 omega
theorem widF_map (ts:List Trc):widF (ts.map zT)=widF ts:=by
 unfold widF
 rw [List.find?_map]
 show (match (ts.find? fun t=>!t.hole).map zT with | some t=>((t.smp.length:Int),true) | none=>(0,false))=_
 cases ts.find? fun t=>!t.hole <;> rfl
theorem zL_shtE {s:ByteArray} {ts:List Trc} (h:shtE s ts=0):shtE s (ts.map zT)=0:=by
 have hok:=shtE_ok h
 refine shtE_mk (shtE_name h) (by rw [List.length_map]; exact hok.len) (fun x hx=>?_) fun x hx hh=>?_
 · obtain ⟨y,hy,rfl⟩:=List.mem_map.1 hx
   exact trcE_hd (hok.err y hy) rfl rfl hd_z8
 · obtain ⟨y,hy,rfl⟩:=List.mem_map.1 hx
   rw [widF_map]
   exact hok.wid y hy hh
theorem zL_same {ts:List Trc} (hok:OkS (ts.map zT)) {w:Int}:sameG (corG (ts.map zT) w 0 (widN (ts.map zT)) (dn (widN (ts.map zT)) 0)) (ts.map zT):=by
 obtain ⟨us,hus⟩:∃ us,ts.map zT=us:=⟨_,rfl⟩
 have hz:∀ x ∈ us,x.hd=z8:=fun x hx=>by
   rw [← hus] at hx
   obtain ⟨y,_,rfl⟩:=List.mem_map.1 hx
   rfl
 rw [hus] at hok ⊢
 refine ⟨by rw [corG_len],fun i x y hx hy=>?_⟩
 have hi:i < us.length:=(List.getElem?_eq_some_iff.1 hy).1
 rw [corG_at (List.getElem?_eq_getElem hi)] at hx
 rw [List.getElem?_eq_getElem hi] at hy
 injection hx with hx
 injection hy with hy
 subst hx hy
 refine ⟨rfl,rfl,?_⟩
 dsimp only
 cases hh:us[i].hole with
 | true=>
   rw [if_pos rfl,hok.hol _ (List.getElem_mem hi) hh]
   rfl
 | false=>
   have hw0:=hok.w0
   have hlen:(us[i].smp.length:Int)=(widF us).1:=hok.wid _ (List.getElem_mem hi) hh
   have hW:us[i].smp.length=widN us:=by unfold widN; omega
   rw [if_neg (by simp)]
   refine sameF_of (by simp [hW]) fun t a b ha hb=>?_
   rw [List.getElem?_map] at ha
   have ht:t < us[i].smp.length:=(List.getElem?_eq_some_iff.1 hb).1
   rw [List.getElem?_range (by omega)] at ha
   rw [List.getElem?_eq_getElem ht] at hb
   have hd:dn (widN us) 0 i t=true:=by unfold dn; simp; omega
   simp only [Option.map_some,hd,if_true,Option.some.injEq] at ha hb
   subst ha hb
   have hm:movV t (offV us[i].hd) w=t:=by
     rw [hz _ (List.getElem_mem hi)]
     exact mov_z8 ⟨by omega,by omega⟩
   have hl:livB us t w 0 i=true:=by
     rw [livB_at hi,hm,hh,decide_eq_true (by omega:(t:Int) < (widF us).1),decide_eq_true (by omega:(t:Int) ≤ t + 0)]
     rfl
   unfold corB
   rw [if_pos hl]
   have hs:smpN us t w (i:Int)=six32 (us[i].smp[t]):=by
     rw [smp_at hi]
     unfold smX
     rw [hm,Int.toNat_natCast,List.getD_eq_getElem?_getD,List.getElem?_eq_getElem ht]
     rfl
   rw [hs]
   have hg:=hok.good _ (List.getElem_mem hi) _ (List.getElem_mem ht)
   have h6:=(good_six hg).2
   exact eqF_smp (smp_sampB (by omega)).2 (smp_six hg)
def trn (ts:List Trc):List Trc:=holT :: ts.reverse
theorem trn_mem {ts:List Trc} {x:Trc} (h:x ∈ trn ts):x=holT ∨ x ∈ ts:=by
 rcases List.mem_cons.1 h with h | h
 · exact .inl h
 · exact .inr (List.mem_reverse.1 h)
theorem trn_wid {ts:List Trc} (hok:OkS ts) (hW:(widF ts).1 ≠ 0):(widF (trn ts)).1=(widF ts).1:=by
 obtain ⟨x,hx,hh⟩:=wid_some hW
 refine wid_all (fun y hy h0=>?_) ⟨x,List.mem_cons_of_mem _ (List.mem_reverse.2 hx),hh⟩
 rcases trn_mem hy with rfl | hy
 · cases h0
 · exact hok.wid y hy h0
theorem trn_shtE {s:ByteArray} {ts:List Trc} (h:shtE s ts=0) (hW:(widF ts).1 ≠ 0) (hl:ts.length ≤ 63):shtE s (trn ts)=0:=by
 have hok:=shtE_ok h
 refine shtE_mk (shtE_name h) ?_ (fun x hx=>?_) fun x hx hh=>?_
 · unfold trn
   rw [List.length_cons,List.length_reverse]
   omega
 · rcases trn_mem hx with rfl | hx
   · exact trcE_hol
   · exact hok.err x hx
 · rw [trn_wid hok hW]
   rcases trn_mem hx with rfl | hx
   · cases hh
   · exact hok.wid x hx hh
theorem suX_trn (W t w st:Int) (g:Trc → Int) (ts:List Trc):suX W t w st g (trn ts)=suX W t w st g ts:=by
 unfold suX trn
 rw [sumI,sumI_rev]
 show (if liX W t w st holT=true then g holT else 0) + _=_
 rw [if_neg (show ¬ liX W t w st holT=true from fun h=>by cases h),Int.zero_add]
theorem trn_semV {ts:List Trc} (hok:OkS ts) (hW:(widF ts).1 ≠ 0) (t w win st:Int):semV (trn ts) t w win st=semV ts t w win st:=by
 have hw:=trn_wid hok hW
 have h1:(fun x=>nuT (trn ts) x w st)=fun x=>nuT ts x w st:=funext fun x=>by rw [nuT_X,nuT_X,hw,suX_trn]
 have h2:(fun x=>deT (trn ts) x w st)=fun x=>deT ts x w st:=funext fun x=>by rw [deT_X,deT_X,hw,suX_trn,suX_trn]
 unfold semV semU semD semC
 rw [hw,h1,h2]
def yT (bs:List Nat):Trc:=⟨z8,false,bs⟩
def alk (bs:List Nat):List Trc:=[yT bs,yT bs,yT bs,yT bs]
def agn (bs:List Nat):List Trc:=[yT bs,yT (bs.map negB),yT bs,yT (bs.map negB)]
def sxB (bs:List Nat) (t:Int):Int:=six32 (bs.getD t.toNat 0)
theorem liX_y {bs:List Nat} {W t w:Int} (ht:0 ≤ t ∧ t < W) (hW:W ≤ 1024):liX W t w 0 (yT bs)=true:=by
 unfold liX
 rw [show (yT bs).hd=z8 from rfl,mov_z8 ⟨by omega,by omega⟩,decide_eq_true ht.2,decide_eq_true (by omega:t ≤ t + 0)]
 rfl
theorem smX_y {bs:List Nat} {t w:Int} (ht:0 ≤ t ∧ t ≤ 1024):smX t w (yT bs)=sxB bs t:=by
 unfold smX
 rw [show (yT bs).hd=z8 from rfl,mov_z8 ht]
 rfl
theorem sx_neg {bs:List Nat} (hg:∀ b ∈ bs,good32 b=true) {t:Int} (ht:0 ≤ t ∧ t < bs.length):sxB (bs.map negB) t = - sxB bs t:=by
 unfold sxB
 have h:t.toNat < bs.length:=by omega
 rw [List.getD_eq_getElem?_getD,List.getD_eq_getElem?_getD,List.getElem?_map,List.getElem?_eq_getElem h]
 exact (good_neg (hg _ (List.getElem_mem h))).2
theorem wid_alk (bs:List Nat):(widF (alk bs)).1=bs.length:=rfl
theorem wid_agn (bs:List Nat):(widF (agn bs)).1=bs.length:=rfl
section
variable {bs:List Nat} {t w:Int}
theorem suX_alk (ht:0 ≤ t ∧ t < bs.length) (hW:bs.length ≤ 1024) (g:Trc → Int):suX bs.length t w 0 g (alk bs)=4 * g (yT bs):=by
 unfold suX alk
 simp only [sumI,liX_y (bs:=bs) (w:=w) ht (by omega),if_true]
 omega
theorem suX_agn (ht:0 ≤ t ∧ t < bs.length) (hW:bs.length ≤ 1024) (g:Trc → Int):suX bs.length t w 0 g (agn bs)=2 * g (yT bs) + 2 * g (yT (bs.map negB)):=by
 unfold suX agn
 simp only [sumI,liX_y (w:=w) ht (by omega:(bs.length:Int) ≤ 1024),if_true]
 omega
theorem nu_alk (ht:0 ≤ t ∧ t < bs.length) (hW:bs.length ≤ 1024):nuT (alk bs) t w 0=16 * (sxB bs t * sxB bs t) ∧ deT (alk bs) t w 0=16 * (sxB bs t * sxB bs t):=by
 rw [nuT_X,deT_X,wid_alk,suX_alk ht hW,suX_alk ht hW,suX_alk ht hW,smX_y ⟨ht.1,by omega⟩]
 constructor
 · rw [Int.mul_assoc,Int.mul_left_comm (sxB bs t) 4,← Int.mul_assoc]
   rfl
 · rw [← Int.mul_assoc]
   rfl
theorem nu_agn (hg:∀ b ∈ bs,good32 b=true) (ht:0 ≤ t ∧ t < bs.length) (hW:bs.length ≤ 1024):nuT (agn bs) t w 0=0 ∧ 0 ≤ deT (agn bs) t w 0:=by
 rw [nuT_X,deT_X,wid_agn,suX_agn ht hW,suX_agn ht hW,suX_agn ht hW,smX_y ⟨ht.1,by omega⟩,smX_y ⟨ht.1,by omega⟩,sx_neg hg ht]
 constructor
 · rw [show 2 * sxB bs t + 2 * -sxB bs t=0 by omega]
   rfl
 · have h1:=(sq_abs (x:=sxB bs t) (Nat.le_refl _)).1
   have h2:-sxB bs t * -sxB bs t=sxB bs t * sxB bs t:=by rw [Int.neg_mul_neg]
   rw [h2]
   exact Int.mul_nonneg (by decide) (by omega)
end
theorem accN_congr {f g:Int → Int} {a:Int}:∀ k:Nat,(∀ j:Nat,j < k → f (a + j)=g (a + j)) → accN f a k=accN g a k
 | 0,_=>rfl
 | k + 1,h=>by
   unfold accN
   rw [accN_congr k fun j hj=>h j (by omega),h k (by omega)]
def ldN (bs:List Nat) (a:Int):Nat → Bool
 | 0=>false
 | k + 1=>ldN bs a k || decide (sxB bs (a + k) ≠ 0)
theorem ld_acc (bs:List Nat) (a:Int):∀ k:Nat,0 ≤ accN (fun x=>16 * (sxB bs x * sxB bs x)) a k ∧ (accN (fun x=>16 * (sxB bs x * sxB bs x)) a k=0 ↔ ldN bs a k=false)
 | 0=>⟨Int.le_refl _,fun _=>rfl,fun _=>rfl⟩
 | k + 1=>by
   obtain ⟨h0,h1⟩:=ld_acc bs a k
   have h2:=(sq_abs (x:=sxB bs (a + k)) (Nat.le_refl _)).1
   have h3:sxB bs (a + k) * sxB bs (a + k)=0 ↔ sxB bs (a + k)=0:=by
     rw [Int.mul_eq_zero]; omega
   unfold accN ldN
   refine ⟨by omega,?_⟩
   rw [Bool.or_eq_false_iff,decide_eq_false_iff_not,← h1,Decidable.not_not,← h3]
   omega
theorem gcd_self {d:Int} (hd:1 ≤ d):gcdI d d=d:=by
 unfold gcdI
 rw [Nat.gcd_self]
 omega
theorem gcd_zero {d:Int} (hd:1 ≤ d):gcdI 0 d=d:=by
 unfold gcdI
 rw [show (0:Int).natAbs=0 from rfl,Nat.gcd_zero_left]
 omega
section
variable {bs:List Nat} {t w win:Int}
theorem sem_in (_ht:0 ≤ t ∧ t ≤ (bs.length:Int) - 1) {j:Nat} {ts:List Trc} (hw:(widF ts).1=bs.length) (_hn:0 ≤ win) (hj:j < semC ts t win):0 ≤ semA t win + j ∧ semA t win + j < bs.length:=by
 unfold semC at hj
 rw [hw] at hj
 unfold semA at hj ⊢
 omega
theorem sem_alk (ht:0 ≤ t ∧ t ≤ (bs.length:Int) - 1) (hn:0 ≤ win) (hW:bs.length ≤ 1024):semV (alk bs) t w win 0=if ldN bs (semA t win) (semC (alk bs) t win)=true then .agg ⟨[iv 1,iv 1]⟩ else .agg ⟨[iv 0,iv 1]⟩:=by
 have hU:semU (alk bs) t w win 0=accN (fun x=>16 * (sxB bs x * sxB bs x)) (semA t win) (semC (alk bs) t win):=accN_congr _ fun j hj=>(nu_alk (sem_in ht rfl hn hj) hW).1
 have hD:semD (alk bs) t w win 0=accN (fun x=>16 * (sxB bs x * sxB bs x)) (semA t win) (semC (alk bs) t win):=accN_congr _ fun j hj=>(nu_alk (sem_in ht rfl hn hj) hW).2
 obtain ⟨h0,h1⟩:=ld_acc bs (semA t win) (semC (alk bs) t win)
 unfold semV
 rw [hU,hD]
 obtain ⟨D,hDe⟩:∃ D,accN (fun x=>16 * (sxB bs x * sxB bs x)) (semA t win) (semC (alk bs) t win)=D:=⟨_,rfl⟩
 rw [hDe] at h0 h1 ⊢
 by_cases hz:D=0
 · rw [if_pos hz,if_neg (by rw [h1.1 hz]; decide)]
 · rw [if_neg hz,if_pos (by
     cases h:ldN bs (semA t win) (semC (alk bs) t win) with
     | true=>rfl
     | false=>exact absurd (h1.2 h) hz)]
   unfold ratV
   rw [gcd_self (by omega),Int.tdiv_self hz]
theorem sem_agn (hg:∀ b ∈ bs,good32 b=true) (ht:0 ≤ t ∧ t ≤ (bs.length:Int) - 1) (hn:0 ≤ win) (hW:bs.length ≤ 1024):semV (agn bs) t w win 0 = .agg ⟨[iv 0,iv 1]⟩:=by
 have hU:semU (agn bs) t w win 0=accN (fun _=>0) (semA t win) (semC (agn bs) t win):=accN_congr _ fun j hj=>(nu_agn hg (sem_in ht rfl hn hj) hW).1
 have hz:∀ k,accN (fun _=>0) (semA t win) k=0:=fun k=>by
   induction k with
   | zero=>rfl
   | succ k ih=>unfold accN; rw [ih]; rfl
 rw [hz] at hU
 unfold semV
 split
 · rfl
 · rename_i h0
   rw [hU]
   have hD:0 ≤ semD (agn bs) t w win 0:=by
     have:∀ k,k ≤ semC (agn bs) t win → 0 ≤ accN (fun x=>deT (agn bs) x w 0) (semA t win) k:=fun k=>by
       induction k with
       | zero=>intro _; exact Int.le_refl _
       | succ k ih=>
         intro hk
         have h1:=ih (by omega)
         have h2:=(nu_agn (w:=w) hg (sem_in (ts:=agn bs) ht rfl hn (show k < _ by omega)) hW).2
         unfold accN
         omega
     exact this _ (Nat.le_refl _)
   unfold ratV
   rw [gcd_zero (by omega),Int.tdiv_self h0,Int.zero_tdiv]
end
theorem alk_shtE {s:ByteArray} (hs:Gn.nameB s=true) {bs:List Nat} (hl:bs.length ≤ 1024) (hg:∀ b ∈ bs,good32 b=true):shtE s (alk bs)=0:=by
 have h:∀ x ∈ alk bs,x=yT bs:=fun x hx=>by
   unfold alk at hx
   simp only [List.mem_cons,List.not_mem_nil,or_false,or_self] at hx
   exact hx
 refine shtE_mk hs ⟨Nat.le_add_left 1 3,show 4 ≤ 64 by decide⟩ (fun x hx=>?_) fun x hx _=>?_
 · rw [h x hx]; exact trcE_live hl hg
 · rw [h x hx]; rfl
theorem agn_shtE {s:ByteArray} (hs:Gn.nameB s=true) {bs:List Nat} (hl:bs.length ≤ 1024) (hg:∀ b ∈ bs,good32 b=true):shtE s (agn bs)=0:=by
 have h:∀ x ∈ agn bs,x=yT bs ∨ x=yT (bs.map negB):=fun x hx=>by
   unfold agn at hx
   simp only [List.mem_cons,List.not_mem_nil,or_false] at hx
   rcases hx with h | h | h | h <;> simp [h]
 refine shtE_mk hs ⟨Nat.le_add_left 1 3,show 4 ≤ 64 by decide⟩ (fun x hx=>?_) fun x hx _=>?_
 · rcases h x hx with rfl | rfl
   · exact trcE_live hl hg
   · refine trcE_live (by rw [List.length_map]; exact hl) fun b hb=>?_
     obtain ⟨c,hc,rfl⟩:=List.mem_map.1 hb
     exact (good_neg (hg c hc)).1
 · rcases h x hx with rfl | rfl
   · rfl
   · show (((bs.map negB).length:Nat):Int)=_
     rw [List.length_map]; rfl
theorem stk_alk {bs:List Nat} (hl:bs.length ≤ 1024) (hg:∀ b ∈ bs,good32 b=true) (l rl:List Int) (e:Int):Gn.sameF (stkL (alk bs) l rl 0 e bs.length) bs=true:=by
 refine sameF_of stkL_len fun i a b ha hb=>?_
 have hi:i < bs.length:=(List.getElem?_eq_some_iff.1 hb).1
 rw [List.getElem?_eq_getElem hi] at hb
 injection hb with hb
 unfold stkL at ha
 rw [List.getElem?_map,List.getElem?_range hi] at ha
 injection ha with ha
 subst ha hb
 obtain ⟨w,hw⟩:∃ w,velA l rl e i=w:=⟨_,rfl⟩
 unfold stkB
 rw [hw]
 have hi':0 ≤ (i:Int) ∧ (i:Int) < bs.length:=⟨by omega,by omega⟩
 have h1:sumI (smpN (alk bs) i w) (livA (alk bs) i w 0)=4 * sxB bs i:=by
   unfold livA
   rw [liv_sum (h:=smX i w) (fun j hj=>smp_at hj) _ (Nat.le_refl _),List.take_length,wid_alk]
   show suX bs.length i w 0 (smX i w) (alk bs)=_
   rw [suX_alk hi' hl,smX_y ⟨by omega,by omega⟩]
 have h2:(((livA (alk bs) i w 0).length:Nat):Int)=4:=by
   unfold livA
   rw [← sumI_one,liv_sum (g:=fun _=>1) (h:=fun _=>1) (fun j hj=>rfl) _ (Nat.le_refl _),List.take_length,wid_alk]
   show suX bs.length i w 0 (fun _=>1) (alk bs)=_
   rw [suX_alk hi' hl]
   rfl
 rw [h1,h2,show max (1:Int) 4=4 from rfl]
 have h3:flrV (4 * sxB bs i) 4=sxB bs i:=by
   unfold flrV
   omega
 have h4:sxB bs i=six32 bs[i]:=by
   unfold sxB
   rw [Int.toNat_natCast,List.getD_eq_getElem?_getD,List.getElem?_eq_getElem hi]
   rfl
 have hgi:=hg _ (List.getElem_mem hi)
 have h6:=(good_six hgi).2
 rw [h3,h4]
 exact eqF_smp (smp_sampB (by omega)).2 (smp_six hgi)
theorem neq96g {x y:Operand} {H:Heap} {n:Nat} (a b c d:Int):binV Tryz.prog .neq 96 x y (.agg ⟨[iv a,iv b]⟩) (.agg ⟨[iv c,iv d]⟩) H n=some (.bool (!((a == c) && (b == d))),H,n):=by
 have hv:runP Tryz.prog (Op.equalIn 10000 96 (.agg ⟨[iv a,iv b]⟩) (.agg ⟨[iv c,iv d]⟩))=some ((a == c) && (b == d)):=by
   have:=runS_eq (P:=Tryz.prog) 9999 (t:=96) ⟨[iv a,iv b]⟩ ⟨[iv c,iv d]⟩ (fun f=>if f.offset=0 then a == c else b == d) Tryz.underlying96 (by kernel_rfl) fun f hf=>?_
   · rw [this]
     show some ((a == c) && ((b == d) && true))=_
     rw [Bool.and_true]
   · simp only [List.mem_cons,List.not_mem_nil,or_false] at hf
     rcases hf with rfl | rfl
     · exact ⟨by decide,iv a,iv c,by kernel_rfl,by kernel_rfl,by rw [runS_int _ _ _ Tryz.underlying3]; rfl⟩
     · exact ⟨by decide,iv b,iv d,by kernel_rfl,by kernel_rfl,by rw [runS_int _ _ _ Tryz.underlying3]; rfl⟩
 have h:runP Tryz.prog (do eqGuard .neq 96 x y (.agg ⟨[iv a,iv b]⟩) (.agg ⟨[iv c,iv d]⟩); binOp .neq 96 (.agg ⟨[iv a,iv b]⟩) (.agg ⟨[iv c,iv d]⟩))=some (.bool (!((a == c) && (b == d)))):=by
   rw [runS_bind]
   have h1:runP Tryz.prog (eqGuard .neq 96 x y (.agg ⟨[iv a,iv b]⟩) (.agg ⟨[iv c,iv d]⟩))=some ():=by kernel_rfl
   rw [h1,Option.bind_some]
   show runP Tryz.prog (Op.equalIn 10000 96 (.agg ⟨[iv a,iv b]⟩) (.agg ⟨[iv c,iv d]⟩) >>= fun b=>pure (Value.bool (!b)))=_
   rw [runS_bind,hv]
   rfl
 have ha:∀ p q:Int,afq (.agg ⟨[iv p,iv q]⟩)=true:=fun _ _=>rfl
 unfold binV
 rw [ha,ha]
 simp only [Bool.and_self,if_true]
 rw [h]
 rfl
def RowS (X:Heap) (N:Nat) (l:Value):Prop:=∃ oa k c,l = .slice oa k c ∧ ∀ i,i < k → ∃ a q,oa=some a ∧ cellA X a.block (a.off + i * 10 + 9)=some q ∧ sc (· < N) q
theorem RowS.mono {X Y:Heap} {N N':Nat} {l:Value} (h:RowS X N l) (hs:Sub X Y) (hN:N ≤ N'):RowS Y N' l:=by
 obtain ⟨oa,k,c,e,h1⟩:=h
 refine ⟨oa,k,c,e,fun i hi=>?_⟩
 obtain ⟨a,q,e1,h2,h3⟩:=h1 i hi
 exact ⟨a,q,e1,hs.cell h2,sc_mono (fun k hk=>by omega) _ h3⟩
theorem RowS.row {X:Heap} {N:Nat} {l:Value} {s:ByteArray} (h:RowS X N l):rowSc X N (.agg ⟨[.string s,l]⟩):=fun s' a k c i q e hi hq=>by
 injection e with e
 have e:l = .slice (some a) k c:=by
   injection e with e
   injection e with _ e
   injection e
 obtain ⟨oa,k',c',e1,h1⟩:=h
 rw [e1] at e
 injection e with e2 e3 _
 subst e3
 obtain ⟨a',q',e4,h2,h3⟩:=h1 i hi
 rw [e4] at e2
 injection e2 with e2
 subst e2
 rw [h2] at hq
 injection hq with hq
 subst hq
 exact h3
theorem call59p {X : Heap} {N : Nat} {s : ByteArray} {l : Value} {ts : List Trc} (hv : shtV X (.agg ⟨[.string s, l]⟩) = some (s, ts)) (hm : PM N X) (hr : RowS X N l) (hsm : ∀ x ∈ ts, x.smp.length ≤ 1048576) :
   ∃ u H' n',gEx Tryz.prog 59 (Q59 s ts) [.agg ⟨[.string s,l]⟩] X N=some (u,H',n') ∧ PM n' H' ∧ Sub X H' ∧ N ≤ n' ∧ shtV H' u=some (s,ts):=by
 obtain ⟨u,H',n',h1,h2⟩:=gEx_at (Q:=Q59 s ts) (w59 (H:=X) (n:=N) hv hm.lt hsm hr.row)
 obtain ⟨g1,g2,g3,g4⟩:=MadeS.alone hm h2
 exact ⟨u,H',n',h1,g1,g2,g3,g4⟩
theorem call59l {X : Heap} {N : Nat} {s : ByteArray} {l : Value} {ts : List Trc} (hv : shtV X (.agg ⟨[.string s, l]⟩) = some (s, ts)) (hm : PM N X) (hr : RowS X N l) (hsm : ∀ x ∈ ts, x.smp.length ≤ 1048576) :
   ∃ u B n',gEx Tryz.prog 59 (Q59 s ts) [.agg ⟨[.string s,l]⟩] (frzH X) N=some (u,B ++ frzH X,n') ∧ takeNew N (B ++ frzH X)=B ∧ namesOk n' B=true ∧ PM n' (B ++ X) ∧ Sub X (B ++ X) ∧ N ≤ n' ∧ shtV (B ++ X) u=some (s,ts):=by
 have hfn:∀ k b,hget (frzH X) k=some b → k < N:=fun k b hk=>by
   rw [hget_frz,Option.map_eq_some_iff] at hk
   obtain ⟨b',hk,_⟩:=hk
   exact hm.lt _ _ hk
 have hrf:RowS (frzH X) N l:=by
   obtain ⟨oa,k,c,e,h1⟩:=hr
   refine ⟨oa,k,c,e,fun i hi=>?_⟩
   obtain ⟨a,q,e1,h2,h3⟩:=h1 i hi
   exact ⟨a,q,e1,by rw [cellA_frz]; exact h2,h3⟩
 obtain ⟨u,H',n',h1,h2⟩:=gEx_at (Q:=Q59 s ts) (w59 (H:=frzH X) (n:=N) (by rw [shtV_frz]; exact hv) hfn hsm hrf.row)
 obtain ⟨B,rfl,g1,g2,g3,g4,g5,g6⟩:=MadeS.late hm h2
 exact ⟨u,B,n',h1,g1,g2,g3,g4,g5,g6⟩
theorem call61 {H:Heap} {m:Nat} {u:Value} {s:ByteArray} {ts:List Trc} {t w win st:Int} (hv:shtV H u=some (s,ts)) (hR:dR H) (h0:shtE s ts=0) (ht:0 ≤ t ∧ t ≤ (widF ts).1 - 1) (hw:1 ≤ w ∧ w ≤ 1000000000) (hn:0 ≤ win ∧ win ≤ 16) (hs:0 ≤ st ∧ st ≤ 1024):g61 [u,iv t,iv w,iv win,iv st] H m=some (.tuple #[semV ts t w win st,iv 0],H,m):=by
 have hE:semE s ts t w win st=0:=first_all fun x hx=>by
   have hwid:widE s ts=(widF ts).1:=by unfold widE; rw [if_pos h0]
   have w0:∀ {a lo hi:Int},lo ≤ a ∧ a ≤ hi → withinV a lo hi=0:=fun h=>by
     unfold withinV; rw [if_neg (by omega)]
   rcases List.mem_cons.1 hx with rfl | hx
   · exact h0
   rcases List.mem_cons.1 hx with rfl | hx
   · rw [hwid]; exact w0 ht
   rcases List.mem_cons.1 hx with rfl | hx
   · exact w0 hw
   rcases List.mem_cons.1 hx with rfl | hx
   · exact w0 hn
   · rw [List.mem_singleton] at hx; subst hx; exact w0 hs
 simp only [g61,hv]
 rw [if_pos hR]
 unfold semR
 rw [if_pos hE,hE]
theorem semV_pair (ts:List Trc) (t w win st:Int):semV ts t w win st = .agg ⟨[iv (semP ts t w win st).1,iv (semP ts t w win st).2]⟩:=semV_P ts t w win st
def nmA:ByteArray:=⟨#[97]⟩
def nmB:ByteArray:=⟨#[98]⟩
abbrev vs12:List Nat:=[3,7,8,9,10,14,15,16,17,18,19,20,21,22,23,24,25,26,27,28,29,30,31,32,33,34,35,74,75,108,109,144,162,163,187,188]
structure Z12 (T X:Heap) (N n p q r:Nat) (s:ByteArray) (sl ul al bl sv:Value) (ts:List Trc) (bs:List Nat):Prop where
 pm:PM N X
 sub:Sub T X
 dr:dR X
 b0:hget X n=some (.cells [.string s,sl] 103)
 b1:hget X p=some (.cells [.string s,ul] 103)
 b2:hget X q=some (.cells [.string nmA,al] 103)
 b3:hget X r=some (.cells [.string nmB,bl] 103)
 v0:shtV X (.agg ⟨[.string s,sl]⟩)=some (s,ts)
 v1:shtV X (.agg ⟨[.string s,ul]⟩)=some (s,trn ts)
 v2:shtV X (.agg ⟨[.string nmA,al]⟩)=some (nmA,alk bs)
 v3:shtV X (.agg ⟨[.string nmB,bl]⟩)=some (nmB,agn bs)
 r0:RowS X N sl
 r1:RowS X N ul
 r2:RowS X N al
 r3:RowS X N bl
 sm:reaV X sv=some bs
end Go.Proofs.YtkongcnmkiihjaaGreatDoor
