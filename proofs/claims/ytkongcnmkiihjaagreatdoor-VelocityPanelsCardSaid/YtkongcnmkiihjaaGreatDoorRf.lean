/-
Contracts and plain reckonings behind the law VelocityPanels, part 6 of 8 (each under the conditions in its statement).
-/
import Derived.Test.YtkongcnmkiihjaaGreatDoorRe
import Derived.Test.YtkongcnmkiihjaaGreatDoorRd
import Derived.Test.YtkongcnmkiihjaaGreatDoorRa
namespace Go.Proofs.YtkongcnmkiihjaaGreatDoor
open Go Go.Ab Go.Proofs
def Q59 (s:ByteArray) (ts:List Trc) (_:List Value) (H:Heap) (n:Nat) (u:Value) (H':Heap) (n':Nat):Prop:=MadeS H n H' n' u (s,ts)
theorem scL_mem' {p:Nat → Prop}:∀ {vs:List Value} {i:Nat} {v:Value},scL p vs → vs[i]? = some v → sc p v
 | [],_,_,_,h=>by simp at h
 | v :: vs,0,w,hs,h=>by simp at h; subst h; exact hs.1
 | v :: vs,i + 1,w,hs,h=>scL_mem' hs.2 (by simpa using h)
theorem sc_cell {p:Nat → Prop} {H:Heap} {k o:Nat} {q:Value} {b:Blk} (hb:hget H k=some b) (hs:scB p b) (h:cellA H k o=some q):sc p q:=by
 rw [cellA_eq,hb] at h
 cases b with
 | cells cs t=>exact scL_mem' hs h
 | ext cs t sz=>exact scL_mem' hs h
 | row cs sz=>exact scL_mem' hs h
 | inp o' cs=>
   simp only [Option.bind_some,cellB] at h
   split at h
   · exact scL_mem' hs h
   · cases h
 | _=>cases h
theorem rowSc_of {T X:Heap} {n N:Nat} {s:ByteArray} {l:Value} {x:ByteArray × List Trc} (hold:∀ k b,hget T k=some b → k < n ∧ scB (· < n) b) (hv:shtV T (.agg ⟨[.string s,l]⟩)=some x) (hX:Sub T X) (hN:n ≤ N):rowSc (frzH X) N (.agg ⟨[.string s,l]⟩):=fun s' a k c i q e hi hq=>by
 injection e with e
 have e:l = .slice (some a) k c:=by
   injection e with e
   injection e with _ e
   injection e
 subst e
 obtain ⟨u,e1,ht⟩:=shtV_form (s:=x.1) (ts:=x.2) hv
 have e1:u = .slice (some a) k c:=by
   injection e1 with e1
   injection e1 with e1
   injection e1 with _ e1
   injection e1 with e1
   exact e1.symm
 subst e1
 obtain ⟨oa,c',e2,_,_,hrow⟩:=trcV_form ht
 injection e2 with e2 e3 e4
 subst e3
 obtain ⟨a',q',e5,_,hcs,_,_⟩:=hrow i hi
 rw [e5] at e2
 injection e2 with e2
 subst e2
 rw [cellsA_eq] at hcs
 cases hb:hget T a.block with
 | none=>rw [hb] at hcs; cases hcs
 | some b=>
   rw [cellA_frz] at hq
   exact sc_mono (fun k hk=>by omega) _ (sc_cell (hX _ _ hb) (hold _ _ hb).2 hq)
theorem call59 {T X : Heap} {n N : Nat} {s : ByteArray} {l : Value} {ts : List Trc} (hold : ∀ k b, hget T k = some b → k < n ∧ scB (· < n) b) (hv : shtV T (.agg ⟨[.string s, l]⟩) = some (s, ts)) (hX : Sub T X) (hm : PM N X) (hN : n ≤ N) (hsm : ∀ x ∈ ts, x.smp.length ≤ 1048576) :
   ∃ u B n',gEx Tryz.prog 59 (Q59 s ts) [.agg ⟨[.string s,l]⟩] (frzH X) N=some (u,B ++ frzH X,n') ∧ takeNew N (B ++ frzH X)=B ∧ namesOk n' B=true ∧ PM n' (B ++ X) ∧ Sub X (B ++ X) ∧ N ≤ n' ∧ shtV (B ++ X) u=some (s,ts):=by
 have hfn:∀ k b,hget (frzH X) k=some b → k < N:=fun k b hk=>by
   rw [hget_frz,Option.map_eq_some_iff] at hk
   obtain ⟨b',hk,_⟩:=hk
   exact hm.lt _ _ hk
 obtain ⟨u,H',n',h1,h2⟩:=gEx_at (Q:=Q59 s ts) (w59 (H:=frzH X) (n:=N) (by rw [shtV_frz]; exact shtV_mono hX hv) hfn hsm (rowSc_of hold hv hX hN))
 obtain ⟨B,rfl,g1,g2,g3,g4,g5,g6⟩:=MadeS.late hm h2
 exact ⟨u,B,n',h1,g1,g2,g3,g4,g5,g6⟩
end Go.Proofs.YtkongcnmkiihjaaGreatDoor
namespace Go.Ab
open Go Ieee
theorem smp_sampB {n:Int} (hn:n.natAbs < 2 ^ 24):FloatKind.f32.format.div (FloatKind.f32.nearest n) 1098907648=some (sampB n) ∧ smp (sampB n) n:=by
 obtain ⟨r,h1,h2⟩:=smp_told hn
 have h3:sampB n=r:=by
   unfold sampB sampQ
   rw [show FloatKind.f32.format=single from rfl,h1]
   rfl
 rw [h3]
 exact ⟨h1,h2⟩
end Go.Ab
namespace Go.Proofs.YtkongcnmkiihjaaGreatDoor
open Go Go.Ab Go.Proofs
theorem sameF_of:∀ {l k:List Nat},l.length=k.length → (∀ (i a b:Nat),l[i]? = some a → k[i]? = some b → Gn.eqF a b=true) → Gn.sameF l k=true
 | [],[],_,_=>rfl
 | a :: l,b :: k,h,hx=>by
   show (Gn.eqF a b && Gn.sameF l k)=true
   rw [hx 0 a b rfl rfl,sameF_of (by simpa using h) fun i x y h1 h2=>hx (i + 1) x y (by simpa using h1) (by simpa using h2)]
   rfl
 | [],_ :: _,h,_=>by simp at h
 | _ :: _,[],h,_=>by simp at h
theorem eqF_smp {a b:Nat} {n:Int} (ha:smp a n) (hb:smp b n):Gn.eqF a b=true:=by
 have:=smp_ord ha hb
 unfold Gn.eqF
 rw [show FloatKind.f32.format.order a b=Ieee.single.order a b from rfl,this,show compare n n = .eq from by simp]
 rfl
def timV (W e:Int):Int:=(W + e - 1) / e
theorem timV_b {W e:Int} (hW:0 ≤ W ∧ W ≤ 1024) (he:1 ≤ e ∧ e ≤ 1024):0 ≤ timV W e ∧ timV W e ≤ 1024:=by
 unfold timV
 refine ⟨Int.ediv_nonneg (by omega) (by omega),?_⟩
 by_cases h:W=0
 · subst h
   rw [Int.ediv_eq_zero_of_lt (by omega) (by omega)]; omega
 · have:(W + e - 1) / e ≤ W:=by
     refine Int.le_of_lt_add_one (Int.ediv_lt_of_lt_mul (by omega) ?_)
     have:W * e ≥ W:=by
       have:=Int.mul_le_mul_of_nonneg_left he.1 hW.1
       omega
     rw [Int.add_mul]
     omega
   omega
set_option maxRecDepth 50000 in
theorem w143 {H:Heap} {n:Nat} {s:ByteArray} {u:Value} {W e:Int} (hW:0 ≤ W ∧ W ≤ 1024) (he:1 ≤ e ∧ e ≤ 1024):AC Tryz.prog 143 [.agg ⟨[.string s,u,iv W]⟩,iv e] H n (iv (timV W e)) H n:=by
 refine AC.given fun hold hsc hgn=>AC.tidied (B:=[]) (by simp) ?_
 have hr:=recT_ok (P:=Tryz.prog) (l:=[]) (by simp)
 have h1:IntKind.i64.wrap (W + e)=W + e:=W_in (by omega) (by omega)
 have h2:IntKind.i64.wrap (W + e - 1)=W + e - 1:=W_in (by omega) (by omega)
 have hq:(W + e - 1).tdiv e=timV W e:=Int.tdiv_eq_ediv_of_nonneg (by omega)
 have hb:=timV_b hW he
 have h3:IntKind.i64.wrap (timV W e)=timV W e:=W_in (by omega) (by omega)
 have he0:e ≠ 0:=by omega
 refine AC.pure Tryz.func143 rfl (by kernel_rfl) rfl [1,2] rfl ?_
 refine E.seq (E.reg hr (by simp; rfl) ?_)
 refine E.seq (E.reg hr (by simp [h1,h2,bin_quo he0,hq,h3]; rfl) ?_)
 refine E.ret ?_
 exact pureK.ret rfl rfl rfl (Sub.cons (by simp) (Sub.refl _))
def g143 (args:List Value) (H:Heap) (n:Nat):R:=match args with
 | [.agg ⟨[.string _,_,.int .i64 W]⟩,.int .i64 e]=>if (0 ≤ W ∧ W ≤ 1024) ∧ 1 ≤ e ∧ e ≤ 1024 then some (iv (timV W e),H,n) else none
 | _=>none
theorem ok143:EntOk Tryz.prog (143,g143):=by
 intro args H n v H' n' h
 simp only [g143] at h
 split at h
 · split at h
   · rename_i hW
     injection h with h; injection h with e1 e2; injection e2 with e2 e3; subst e1 e2 e3
     exact w143 hW.1 hW.2
   · cases h
 · cases h
set_option maxRecDepth 50000 in
theorem w148 {H:Heap} {n:Nat} {l:Value} {a b W e:Int} (hW:0 ≤ W ∧ W ≤ 1024) (he:1 ≤ e ∧ e ≤ 1024):AC Tryz.prog 148 [.agg ⟨[l,iv a,iv b,iv e]⟩,iv W] H n (iv (timV W e)) H n:=by
 refine AC.given fun hold hsc hgn=>AC.tidied (B:=[]) (by simp) ?_
 have hr:=recT_ok (P:=Tryz.prog) (l:=[]) (by simp)
 have h1:IntKind.i64.wrap (W + e)=W + e:=W_in (by omega) (by omega)
 have h2:IntKind.i64.wrap (W + e - 1)=W + e - 1:=W_in (by omega) (by omega)
 have hq:(W + e - 1).tdiv e=timV W e:=Int.tdiv_eq_ediv_of_nonneg (by omega)
 have hb:=timV_b hW he
 have h3:IntKind.i64.wrap (timV W e)=timV W e:=W_in (by omega) (by omega)
 have he0:e ≠ 0:=by omega
 refine AC.pure Tryz.func148 rfl (by kernel_rfl) rfl [1,2] rfl ?_
 refine E.seq (E.reg hr (by simp; rfl) ?_)
 refine E.seq (E.reg hr (by simp [h1,h2,bin_quo he0,hq,h3]; rfl) ?_)
 refine E.ret ?_
 exact pureK.ret rfl rfl rfl (Sub.cons (by simp) (Sub.refl _))
def g148 (args:List Value) (H:Heap) (n:Nat):R:=match args with
 | [.agg ⟨[_,.int .i64 _,.int .i64 _,.int .i64 e]⟩,.int .i64 W]=>if (0 ≤ W ∧ W ≤ 1024) ∧ 1 ≤ e ∧ e ≤ 1024 then some (iv (timV W e),H,n) else none
 | _=>none
theorem ok148:EntOk Tryz.prog (148,g148):=by
 intro args H n v H' n' h
 simp only [g148] at h
 split at h
 · split at h
   · rename_i hW
     injection h with h; injection h with e1 e2; injection e2 with e2 e3; subst e1 e2 e3
     exact w148 hW.1 hW.2
   · cases h
 · cases h
def flrV (x c:Int):Int:=(2 * x + c) / (2 * c)
theorem flr_t {n d:Int} (hd:1 ≤ d):n / d=if n < 0 ∧ n.tdiv d * d ≠ n then n.tdiv d - 1 else n.tdiv d:=by
 have h2:=Int.mul_ediv_add_emod n d
 have h4:=Int.emod_lt_of_pos n (show 0 < d by omega)
 rw [Int.tdiv_eq_ediv]
 by_cases h:0 ≤ n ∨ d ∣ n
 · rw [if_pos h,Int.add_zero,if_neg]
   rintro ⟨h5,h6⟩
   rcases h with h | h
   · omega
   · exact h6 (Int.ediv_mul_cancel h)
 · rw [if_neg h,Int.sign_eq_one_of_pos (by omega),if_pos]
   · omega
   · refine ⟨by omega,fun h5=>?_⟩
     rw [Int.add_mul,Int.one_mul,Int.mul_comm] at h5
     omega
theorem flr_b {x c:Int} (hc:1 ≤ c) {M:Int} (hM:0 ≤ M) (hx:-M ≤ x ∧ x ≤ M):-M - 1 ≤ flrV x c ∧ flrV x c ≤ M + 1:=by
 unfold flrV
 have h2c:0 < 2 * c:=by omega
 have hMc:M * c ≥ M:=by
   have:=Int.mul_le_mul_of_nonneg_left hc hM
   omega
 constructor
 · refine (Int.le_ediv_iff_mul_le h2c).2 ?_
   have:(-M - 1) * (2 * c) = -(2 * (M * c)) - 2 * c:=by
     rw [Int.sub_mul,Int.neg_mul,Int.one_mul,Int.mul_left_comm]
   omega
 · have:(2 * x + c) / (2 * c) < M + 1 + 1:=by
     refine Int.ediv_lt_of_lt_mul h2c ?_
     have:(M + 1 + 1) * (2 * c)=2 * (M * c) + 2 * c + 2 * c:=by
       rw [Int.add_mul,Int.add_mul,Int.one_mul,Int.mul_left_comm]
     omega
   omega
theorem w147 {x c:Int} (hx:-1099511627776 ≤ x ∧ x ≤ 1099511627776) (hc:1 ≤ c ∧ c ≤ 1048576):AC Tryz.prog 147 [iv x,iv c] [] 9 (iv (flrV x c)) [] 9:=by
 have hr:=recT_ok (P:=Tryz.prog) (l:=[]) (by simp)
 have h1:IntKind.i64.wrap (2 * x)=2 * x:=W_in (by omega) (by omega)
 have h2:IntKind.i64.wrap (2 * x + c)=2 * x + c:=W_in (by omega) (by omega)
 have h3:IntKind.i64.wrap (2 * c)=2 * c:=W_in (by omega) (by omega)
 have hc0:2 * c ≠ 0:=by omega
 have hf:=flr_t (n:=2 * x + c) (d:=2 * c) (by omega)
 have hq2:((2 * x + c).tdiv (2 * c)).natAbs ≤ (2 * x + c).natAbs:=by
   rw [Int.natAbs_tdiv]; exact Nat.div_le_self _ _
 have hqm:=Int.natAbs_mul ((2 * x + c).tdiv (2 * c)) (2 * c)
 have hqm2:((2 * x + c).tdiv (2 * c)).natAbs * (2 * c).natAbs ≤ (2 * x + c).natAbs:=by
   rw [Int.natAbs_tdiv]; exact Nat.div_mul_le_self _ _
 obtain ⟨q,hq⟩:∃ q,(2 * x + c).tdiv (2 * c)=q:=⟨_,rfl⟩
 rw [hq] at hf hq2 hqm hqm2
 obtain ⟨m,hm⟩:∃ m,2 * x + c=m:=⟨_,rfl⟩
 have hfl:flrV x c=m / (2 * c):=by rw [← hm]; rfl
 rw [hfl]
 rw [hm] at h2 hq hf hq2 hqm2
 have h4:IntKind.i64.wrap q=q:=W_in (by omega) (by omega)
 have h5:IntKind.i64.wrap (q * 2)=q * 2:=W_in (by omega) (by omega)
 have hqc:q * 2 * c=q * (2 * c):=by rw [Int.mul_assoc]
 have h6:IntKind.i64.wrap (q * 2 * c)=q * (2 * c):=by rw [hqc]; exact W_in (by omega) (by omega)
 have h7:IntKind.i64.wrap (q - 1)=q - 1:=W_in (by omega) (by omega)
 refine AC.pure Tryz.func147 rfl (by kernel_rfl) rfl [1,5,6] rfl ?_
 refine E.seq (E.reg hr (by simp; rfl) ?_)
 refine E.seq (E.reg hr (by simp [h1,hm,h2]; rfl) ?_)
 refine E.seq (E.reg hr (by simp [h3,bin_quo hc0,hq,h4]; rfl) ?_)
 refine E.seq (E.seq ?_)
 by_cases hn:m < 0
 · by_cases he:q * (2 * c)=m
   · rw [if_neg fun h=>h.2 he] at hf
     refine E.reg hr (by simp [hn,h5,h6,he]; rfl) ?_
     refine E.cond (t:=false) (by simp) (fun h=>by cases h) (fun _=>?_)
     refine E.skip (E.seq (E.reg hr (by simp; rfl) ?_))
     refine E.ret ?_
     exact pureK.ret rfl rfl (by simp [hf]) (sub_refl _)
   · rw [if_pos ⟨hn,he⟩] at hf
     refine E.reg hr (by simp [hn,h5,h6,he]; rfl) ?_
     refine E.cond (t:=true) (by simp) (fun _=>?_) (fun h=>by cases h)
     refine E.reg hr (by simp [h7]; rfl) ?_
     refine E.seq (E.reg hr (by simp; rfl) ?_)
     refine E.ret ?_
     exact pureK.ret rfl rfl (by simp [hf]) (sub_refl _)
 · rw [if_neg fun h=>hn h.1] at hf
   refine E.reg hr (by simp [hn]; rfl) ?_
   refine E.cond (t:=false) (by simp) (fun h=>by cases h) (fun _=>?_)
   refine E.skip (E.seq (E.reg hr (by simp; rfl) ?_))
   refine E.ret ?_
   exact pureK.ret rfl rfl (by simp [hf]) (sub_refl _)
def flrB (x c:Int):Prop:=(-1099511627776 ≤ x ∧ x ≤ 1099511627776) ∧ 1 ≤ c ∧ c ≤ 1048576
instance (x c:Int):Decidable (flrB x c):=by unfold flrB; infer_instance
def g147 (args:List Value) (H:Heap) (n:Nat):R:=match args with
 | [.int .i64 x,.int .i64 c]=>if flrB x c then some (iv (flrV x c),H,n) else none
 | _=>none
theorem ok147:EntOk Tryz.prog (147,g147):=by
 intro args H n v H' n' h
 simp only [g147] at h
 split at h
 · split at h
   · rename_i hc
     injection h with h; injection h with e1 e2; injection e2 with e2 e3; subst e1 e2 e3
     exact AC.liftP rfl (Part.plain (by simp) [] (by simp [Seen]) gsz ⟨_,_,w147 hc.1 hc.2⟩)
   · cases h
 · cases h
def badR (k:Nat) (x:Int):Bool:=decide (x < 0) || decide ((k:Int) ≤ x)
theorem w175 {H:Heap} {n m k c:Nat} {oa:Option Addr} {x:Int} (hb:cellA H m 0=some (.slice oa k c)):AC Tryz.prog 175 [iv x,ptA m] H n (.bool (badR k x)) H n:=by
 have hr:=recT_ok (P:=Tryz.prog) (l:=[]) (by simp)
 have hld:loadA Tryz.prog 24 H (.pointer (some ⟨m,0,none⟩))=some (.slice oa k c):=by simp [-cellA,hb]
 refine AC.pure Tryz.func175 rfl (by kernel_rfl) rfl [] rfl ?_
 refine E.seq (E.reg hr (by simp; rfl) ?_)
 refine E.seq ?_
 by_cases h0:x < 0
 case' pos=>
   refine E.reg hr (by simp [-loadA,h0]; rfl) ?_
 case' neg=>
   refine E.reg hr (by simp [-loadA,h0,hld]; rfl) ?_
 all_goals
   refine E.ret ?_
   exact pureK.ret rfl rfl (by simp [badR,h0]) (Sub.refl _)
def g175 (args:List Value) (H:Heap) (n:Nat):R:=match args with
 | [.int .i64 x,.pointer (some ⟨m,0,none⟩)]=>match cellA H m 0 with
   | some (.slice _ k _)=>some (.bool (badR k x),H,n)
   | _=>none
 | _=>none
theorem ok175:EntOk Tryz.prog (175,g175):=by
 intro args H n v H' n' h
 simp only [g175] at h
 split at h
 · split at h
   · rename_i hb
     injection h with h; injection h with e1 e2; injection e2 with e2 e3; subst e1 e2 e3
     exact w175 hb
   · cases h
 · cases h
def idxB (k:Nat) (l:List Int):Int:=match l.findIdx? (badR k) with
 | some i=>i
 | none=>-1
theorem idxB_any (k:Nat) (l:List Int):decide (0 ≤ idxB k l)=l.any (badR k):=by
 unfold idxB
 cases h:l.findIdx? (badR k) with
 | none=>
   rw [List.findIdx?_eq_none_iff] at h
   have:l.any (badR k)=false:=by rw [List.any_eq_false]; intro x hx; rw [h x hx]; decide
   rw [this]; rfl
 | some i=>
   have h2:l.any (badR k)=true:=by
     rw [List.findIdx?_eq_some_iff_getElem] at h
     obtain ⟨hi,h1,_⟩:=h
     exact List.any_eq_true.2 ⟨l[i],List.getElem_mem hi,h1⟩
   rw [h2]
   show decide ((0:Int) ≤ (i:Int))=true
   exact decide_eq_true (by omega)
set_option maxRecDepth 50000 in
theorem w164 {H:Heap} {n m k c:Nat} {oa:Option Addr} {v:Value} {l:List Int} (hV:intV H v=some l) (hb:cellA H m 0=some (.slice oa k c)):AC Tryz.prog 164 [v,.func (.func 175) #[] #[ptA m]] H n (iv (idxB k l)) H n:=by
 have hr:=recT_ok (P:=Tryz.prog) (l:=[(175,g175)]) (by simp only [List.forall_mem_cons]; exact ⟨ok175,by simp⟩)
 obtain ⟨ob,d,rfl,hlt,_,hrow⟩:=intV_form hV
 refine AC.pure Tryz.func164 rfl (by kernel_rfl) rfl [0,1,7,8] rfl ?_
 refine E.seq (E.reg hr (by simp; rfl) ?_)
 refine E.seq (E.seq (E.reg hr (by simp; rfl) ?_))
 refine E.block (E.loop ?_)
 refine EL.ind (fun i:Nat=>{ fr:=[(0,.slice ob l.length d),(1,.func (.func 175) #[] #[ptA m]),(7,iv l.length),(8,iv i)],sz:=19,H:=H,n:=n,marks:=[],vs:=[0,1,7,8] }) (fun i=>l.length - i) (fun i=>i ≤ l.length ∧ ∀ j (h:j < l.length),j < i → badR k l[j]=false) 0 (.keep rfl rfl rfl (by simp) (Sub.refl _)) ⟨Nat.zero_le _,by omega⟩ (fun _=>rfl) ?_
 rintro i ⟨hi,hg⟩
 have hw:IntKind.i64.wrap ((i:Int) + 1)=(i:Int) + 1:=W_in (by omega) (by omega)
 refine E.seq (E.reg hr (by simp; rfl) ?_)
 refine E.seq ?_
 by_cases hil:i < l.length
 · obtain ⟨a,rfl,hf,hc⟩:=hrow i hil
   have hg175:∀ q,g175 [iv l[i],ptA m] H q=some (.bool (badR k l[i]),H,q):=fun q=>by
     simp only [g175,hb]
   refine E.cond (t:=true) (by simp [hil]) (fun _=>?_) (fun h=>by cases h)
   refine E.skip (E.seq ?_)
   refine E.block (E.seq (E.reg hr (by simp; rfl) ?_))
   refine E.seq (E.reg hr (by simp [-cellA,-flat,run_vcall_tmp,vcallF,target,hil,hf,hc,hg175]; rfl) ?_)
   cases hz:badR k l[i] with
   | false=>
     refine E.cond (t:=false) (by simp) (fun h=>by cases h) (fun _=>?_)
     refine E.skip (E.reg hr (by simp [hw]; rfl) ?_)
     exact ⟨i + 1,.keep rfl rfl rfl (by simp) (Sub.refl _),⟨hil,fun j hj hlt=>by
       rcases Nat.lt_or_ge j i with h | h
       · exact hg j hj h
       · have:j=i:=by omega
         subst this; exact hz⟩,by dsimp only; omega⟩
   | true=>
     refine E.cond (t:=true) (by simp) (fun _=>?_) (fun h=>by cases h)
     refine E.seq (E.reg hr (by simp; rfl) ?_)
     refine E.ret ?_
     have:l.findIdx? (badR k)=some i:=by
       rw [List.findIdx?_eq_some_iff_getElem]
       exact ⟨hil,hz,fun j hj=>by simpa using hg j (by omega) hj⟩
     exact pureK.ret rfl rfl (by simp [idxB,this]) (Sub.refl _)
 · refine E.cond (t:=false) (by simp [hil]) (fun h=>by cases h) (fun _=>?_)
   refine E.exit ?_
   refine E.seq (E.reg hr (by simp; rfl) ?_)
   refine E.ret ?_
   have:l.findIdx? (badR k)=none:=by
     rw [List.findIdx?_eq_none_iff]
     intro x hx
     obtain ⟨j,hj,rfl⟩:=List.getElem_of_mem hx
     exact hg j hj (by omega)
   exact pureK.ret rfl rfl (by simp [idxB,this]) (Sub.refl _)
def g164 (args:List Value) (H:Heap) (n:Nat):R:=match args with
 | [v,.func (.func 175) ⟨[]⟩ ⟨[.pointer (some ⟨m,0,none⟩)]⟩]=>match intV H v,cellA H m 0 with
   | some l,some (.slice _ k _)=>some (iv (idxB k l),H,n)
   | _,_=>none
 | _=>none
theorem ok164:EntOk Tryz.prog (164,g164):=by
 intro args H n v H' n' h
 simp only [g164] at h
 split at h
 · split at h
   · rename_i h1 h2
     injection h with h; injection h with e1 e2; injection e2 with e2 e3; subst e1 e2 e3
     exact w164 h1 h2
   · cases h
 · cases h
theorem w107 {H:Heap} {n m k c:Nat} {oa:Option Addr} {v:Value} {l:List Int} (hV:intV H v=some l) (hb:cellA H m 0=some (.slice oa k c)):AC Tryz.prog 107 [v,.func (.func 175) #[] #[ptA m]] H n (.bool (l.any (badR k))) H n:=by
 have hr:=recT_ok (P:=Tryz.prog) (l:=[(164,g164)]) (by simp only [List.forall_mem_cons]; exact ⟨ok164,by simp⟩)
 have hg:∀ q,g164 [v,.func (.func 175) #[] #[ptA m]] H q=some (iv (idxB k l),H,q):=fun q=>by
   simp only [g164,hV,hb]
 refine AC.pure Tryz.func107 rfl (by kernel_rfl) rfl [] rfl ?_
 refine E.seq (E.reg hr (by simp; rfl) ?_)
 refine E.seq (E.reg hr (by simp [hg]; rfl) ?_)
 refine E.ret ?_
 exact pureK.ret rfl rfl (by simp [idxB_any]) (Sub.refl _)
def g107 (args:List Value) (H:Heap) (n:Nat):R:=match args with
 | [v,.func (.func 175) ⟨[]⟩ ⟨[.pointer (some ⟨m,0,none⟩)]⟩]=>match intV H v,cellA H m 0 with
   | some l,some (.slice _ k _)=>some (.bool (l.any (badR k)),H,n)
   | _,_=>none
 | _=>none
theorem ok107:EntOk Tryz.prog (107,g107):=by
 intro args H n v H' n' h
 simp only [g107] at h
 split at h
 · split at h
   · rename_i h1 h2
     injection h with h; injection h with e1 e2; injection e2 with e2 e3; subst e1 e2 e3
     exact w107 h1 h2
   · cases h
 · cases h
theorem w146 {H:Heap} {n k c:Nat} {oa:Option Addr} {v:Value} {l:List Int} {a b e:Int} (hV:intV H v=some l):AC Tryz.prog 146 [setA (.slice oa k c) a b e,v] H n (iv (whenV (l.any (badR k)) 10)) H n:=by
 refine AC.given fun hold hsc hgn=>AC.tidied (B:=[]) (by simp) ?_
 replace hV:=Ab.int_tidy hold hV
 have hr:=recT_ok (P:=Tryz.prog) (l:=[(107,g107),(96,g96)]) (by simp only [List.forall_mem_cons]; exact ⟨ok107,ok96,by simp⟩)
 obtain ⟨X,hX⟩:∃ X,(n,Blk.cells [.slice oa k c,iv a,iv b,iv e] 34) :: tidy n H=X:=⟨_,rfl⟩
 have hS:Sub (tidy n H) X:=by rw [← hX]; exact Sub.cons (by simp) (Sub.refl _)
 have hb:cellA X n 0=some (.slice oa k c):=by rw [cellA_eq,← hX,hget_cons,if_pos rfl]; rfl
 have hV2:intV X v=some l:=listV_mono decI_mono hS hV
 have hg:∀ q,g107 [v,.func (.func 175) #[] #[ptA n]] X q=some (.bool (l.any (badR k)),X,q):=fun q=>by
   simp only [g107,hV2,hb]
 refine AC.pure Tryz.func146 rfl (by kernel_rfl) rfl [1,2] rfl ?_
 refine E.seq (E.reg hr (by simp; rfl) ?_)
 rw [hX]
 refine E.seq (E.reg hr (by simp [opMakefunc,hg,g96]; rfl) ?_)
 refine E.ret ?_
 exact pureK.ret rfl rfl (by simp) hS
def g146 (args:List Value) (H:Heap) (n:Nat):R:=match args with
 | [.agg ⟨[.slice _ k _,.int .i64 _,.int .i64 _,.int .i64 _]⟩,v]=>match intV H v with
   | some l=>some (iv (whenV (l.any (badR k)) 10),H,n)
   | none=>none
 | _=>none
theorem ok146:EntOk Tryz.prog (146,g146):=by
 intro args H n v H' n' h
 simp only [g146] at h
 split at h
 · split at h
   · rename_i h1
     injection h with h; injection h with e1 e2; injection e2 with e2 e3; subst e1 e2 e3
     exact w146 h1
   · cases h
 · cases h
theorem any_drop {k i:Nat} {l:List Int} (hi:i < l.length):(l.drop i).any (badR k)=(badR k l[i] || (l.drop (i + 1)).any (badR k)):=by
 rw [List.drop_eq_getElem_cons hi,List.any_cons]
set_option maxRecDepth 50000 in
set_option maxHeartbeats 600000 in
theorem w149 {H:Heap} {n k c:Nat} {oa:Option Addr} {v:Value} {l:List Int} {a b e:Int} (hV:intV H v=some l):AC Tryz.prog 149 [setA (.slice oa k c) a b e,v] H n (.bool (!l.any (badR k))) H n:=by
 refine AC.given fun hold hsc hgn=>AC.tidied (B:=[]) (by simp) ?_
 replace hV:=Ab.int_tidy hold hV
 have hr:=recT_ok (P:=Tryz.prog) (l:=[]) (by simp)
 obtain ⟨ob,d,rfl,hlt,_,hrow⟩:=intV_form hV
 obtain ⟨X,hX⟩:∃ X,(n,Blk.cells [.slice oa k c,iv a,iv b,iv e] 26) :: tidy n H=X:=⟨_,rfl⟩
 have hS:Sub (tidy n H) X:=by rw [← hX]; exact Sub.cons (by simp) (Sub.refl _)
 have hnm:namesOk (n + 1) X=true:=by rw [← hX]; exact namesOk_put (by omega) (by simp)
 have hb:cellA X n 0=some (.slice oa k c):=by rw [cellA_eq,← hX,hget_cons,if_pos rfl]; rfl
 refine AC.pure Tryz.func149 rfl (by kernel_rfl) rfl [1,2,4,5] rfl ?_
 refine E.seq (E.reg hr (by simp; rfl) ?_)
 rw [hX]
 refine E.seq (E.seq (E.reg hr (by simp; rfl) ?_))
 refine E.block (E.loop ?_)
 refine EL.ind (fun i:Nat=>{ fr:=[(1,.slice ob l.length d),(2,ptA n),(5,iv i)],sz:=27,H:=X,n:=n + 1,marks:=[],vs:=[1,2,4,5] }) (fun i=>l.length - i) (fun i=>i ≤ l.length ∧ l.any (badR k)=(l.drop i).any (badR k)) 0 (.keep rfl rfl rfl (by simp) (Sub.refl _)) ⟨Nat.zero_le _,by rw [List.drop_zero]⟩ (fun _=>rfl) ?_
 rintro i ⟨hi,hg⟩
 have hw:IntKind.i64.wrap ((i:Int) + 1)=(i:Int) + 1:=W_in (by omega) (by omega)
 refine E.seq (E.seq (E.reg hr (by simp; rfl) ?_))
 by_cases hil:i < l.length
 · obtain ⟨a',rfl,hf,hc⟩:=hrow i hil
   rw [any_drop hil] at hg
   obtain ⟨x,hx⟩:∃ x,l[i]=x:=⟨_,rfl⟩
   rw [hx] at hc hg
   have hcX:=hS.cell hc
   have hl1:=lt_cell hnm hcX
   refine E.cond (t:=true) (by simp [hil]) (fun _=>?_) (fun h=>by cases h)
   refine E.skip (E.seq ?_)
   refine E.block (E.seq ?_)
   have hbx:badR k x=(decide (x < 0) || decide ((k:Int) ≤ x)):=rfl
   by_cases h0:x < 0
   case' pos=>
     refine E.drawU mixed hr [] [] [3,9] (by kernel_rfl) (by simp [-cellA,-flat,-readA,cellA_read,hnm,hil,hf,hcX,hl1,h0]; rfl) ?_
     rw [show badR k x=true by rw [hbx]; simp [h0],Bool.true_or] at hg
     refine E.cond (t:=true) (by simp) (fun _=>?_) (fun h=>by cases h)
   case' neg=>
     by_cases h1:(k:Int) ≤ x
     case' pos=>
       refine E.drawU mixed hr [] [] [3,9] (by kernel_rfl) (by simp [-cellA,-flat,-readA,cellA_read,hnm,hil,hf,hcX,hl1,h0,h1,hb]; rfl) ?_
       rw [show badR k x=true by rw [hbx]; simp [h1],Bool.true_or] at hg
       refine E.cond (t:=true) (by simp) (fun _=>?_) (fun h=>by cases h)
     case' neg=>
       refine E.drawU mixed hr [] [] [3,9] (by kernel_rfl) (by simp [-cellA,-flat,-readA,cellA_read,hnm,hil,hf,hcX,hl1,h0,h1,hb]; rfl) ?_
       rw [show badR k x=false by rw [hbx]; simp [h0,h1],Bool.false_or] at hg
       refine E.cond (t:=false) (by simp) (fun h=>by cases h) (fun _=>?_)
       refine E.skip (E.reg hr (by simp [hw]; rfl) ?_)
       exact ⟨i + 1,.keep rfl rfl rfl (by simp) (Sub.refl _),⟨hil,hg⟩,by dsimp only; omega⟩
   all_goals
     refine E.seq (E.reg hr (by simp; rfl) ?_)
     refine E.ret ?_
     exact pureK.ret rfl rfl (by rw [hg]; rfl) hS
 · rw [List.drop_of_length_le (by omega)] at hg
   refine E.cond (t:=false) (by simp [hil]) (fun h=>by cases h) (fun _=>?_)
   refine E.exit ?_
   refine E.seq (E.reg hr (by simp; rfl) ?_)
   refine E.ret ?_
   exact pureK.ret rfl rfl (by rw [hg]; rfl) hS
def g149 (args:List Value) (H:Heap) (n:Nat):R:=match args with
 | [.agg ⟨[.slice _ k _,.int .i64 _,.int .i64 _,.int .i64 _]⟩,v]=>match intV H v with
   | some l=>some (.bool (!l.any (badR k)),H,n)
   | none=>none
 | _=>none
theorem ok149:EntOk Tryz.prog (149,g149):=by
 intro args H n v H' n' h
 simp only [g149] at h
 split at h
 · split at h
   · rename_i h1
     injection h with h; injection h with e1 e2; injection e2 with e2 e3; subst e1 e2 e3
     exact w149 h1
   · cases h
 · cases h
theorem w20n (w s e:Int):AC Tryz.prog 20 [setA (.slice none 0 0) w s e] [] 9 (iv 12) [] 9:=by
 have hr:=recT_ok (P:=Tryz.prog) (l:=[(96,g96),(90,g90)]) (by simp [ok96,ok90])
 refine AC.pure Tryz.func20 rfl (by kernel_rfl) rfl [1,4,24,25,26] rfl ?_
 refine E.seq (E.reg hr (by simp; rfl) ?_)
 refine E.seq (E.seq ?_)
 refine E.drawC mixed hr [9,10,11] [4,9,10,11] [1,4,9,10,11] (by kernel_rfl) (by simp [g96,g90,intsAt,intsOf,whenV,firstV]; rfl) ?_
 refine E.seq (E.reg hr (by simp; rfl) ?_)
 refine E.cond (by rfl) (fun h=>?_) (fun h=>?_)
 · refine E.seq ?_
   refine E.reg hr (by simp; rfl) ?_
   refine E.ret ?_
   exact pureK.ret rfl rfl (by simp) (by repeat first | exact sub_refl _ | refine sub_cons rfl ?_)
 · simp at h
theorem w20i (l:List Int) (k:Nat) (hk:l.length=k) (o c:Nat) (w s e:Int) (hl:k < 2 ^ 31):AC Tryz.prog 20 [setA (.slice (some ⟨9,o,none⟩) k c) w s e] [(9,.inp o (l.map iv))] 10 (iv (setE l w s e)) [(9,.inp o (l.map iv))] 10:=by
 have hr:=recT_ok (P:=Tryz.prog) (l:=[(96,g96),(90,g90),(92,g92),(91,g91),(97,g97),(98,g98)]) (by simp [ok96,ok90,ok92,ok91,ok97,ok98])
 refine AC.pure Tryz.func20 rfl (by kernel_rfl) rfl [1,4,24,25,26] rfl ?_
 refine E.seq (E.reg hr (by simp; rfl) ?_)
 refine E.seq (E.seq ?_)
 have hE:=headE_int k
 refine E.drawC mixed hr [9,10,11] [4,9,10,11] [1,4,9,10,11] (by kernel_rfl) (by simp [g96,g90,intsAt,intsOf,hE]; rfl) ?_
 refine E.seq (E.reg hr (by simp; rfl) ?_)
 refine E.cond (by rfl) (fun h=>?_) (fun h=>?_)
 · simp at h
   refine E.seq (E.reg hr (by simp; rfl) ?_)
   refine E.ret ?_
   exact pureK.ret rfl rfl (by simp [setE,hk,h]) (by repeat first | exact sub_refl _ | refine sub_cons rfl ?_)
 · simp at h
   have h0:=h
   refine E.skip (E.seq (E.reg hr (by simp; rfl) ?_))
   refine E.seq (E.seq (E.reg hr (by simp; rfl) ?_))
   refine E.block (E.loop ?_)
   refine EL.ind (fun a:Nat × Int=>{ fr:=[(1,.pointer (some ⟨10,0,none⟩)),(4,iv a.2),(24,.slice (some ⟨9,o,none⟩) k c),(25,iv k),(26,iv a.1)],sz:=54,H:=[(10,.cells [.slice (some ⟨9,o,none⟩) k c,iv w,iv s,iv e] 34),(9,.inp o (l.map iv))],n:=11,marks:=[],vs:=[1,4,24,25,26] }) (fun a=>k - a.1) (fun a=>a.1 ≤ k ∧ fanE a.2 (l.drop a.1)=fanE 0 l) (0,0) (Leads.ren [10] rfl rfl rfl ⟨rfl,rfl⟩ (by simp) (by simp)) ⟨Nat.zero_le _,rfl⟩ (fun _=>rfl) ?_
   rintro ⟨i,last⟩ ⟨hi,hg⟩
   dsimp only at hi hg
   have hw:IntKind.i64.wrap ((i:Int) + 1)=(i:Int) + 1:=W_in (by omega) (by omega)
   refine E.seq (E.reg hr (by simp; rfl) ?_)
   refine E.seq ?_
   refine E.cond (by rfl) (fun h=>?_) (fun h=>?_)
   · simp at h
     have hil:i < l.length:=by omega
     rw [List.drop_eq_getElem_cons hil,fanE] at hg
     refine E.skip (E.seq ?_)
     refine E.block (E.seq (E.reg hr (by simp [h,hil]; rfl) ?_))
     refine E.seq (E.seq ?_)
     have hS:firstV [velV l[i],whenV (decide (l[i] ≤ last)) 11]=stepE last l[i]:=rfl
     refine E.reg hr (by simp [g92,g96,g90,intsAt,intsOf,hS]; rfl) ?_
     refine E.seq (E.reg hr (by simp; rfl) ?_)
     refine E.cond (by rfl) (fun h1=>?_) (fun h1=>?_)
     · simp at h1
       refine E.seq (E.reg hr (by simp; rfl) ?_)
       refine E.ret ?_
       rw [if_neg h1] at hg
       exact pureK.ret rfl rfl (by simp [setE,hk,h0,← hg,h1]) (by repeat first | exact sub_refl _ | refine sub_cons rfl ?_)
     · simp at h1
       refine E.skip (E.reg hr (by simp; rfl) ?_)
       refine E.reg hr (by simp [hw]; rfl) ?_
       rw [if_pos h1] at hg
       exact ⟨(i + 1,l[i]),Leads.ren [10] rfl rfl rfl ⟨rfl,rfl⟩ (by simp) (by simp),⟨h,hg⟩,by dsimp only; omega⟩
   · simp at h
     refine E.exit ?_
     refine E.seq ?_
     have hT:firstV [withinV w 0 16,withinV s 0 1024,withinV e 1 1024]=tailE w s e:=rfl
     refine E.drawC mixed hr [8,9,10] [2,5,8,9,10] [1,2,5,8,9,10] (by kernel_rfl) (by simp [g97,g98,g91,g90,intsAt,intsOf,hT]; rfl) ?_
     refine E.ret ?_
     rw [List.drop_eq_nil_of_le (by omega),fanE] at hg
     exact pureK.ret rfl rfl (by simp [setE,hk,h0,← hg]) (by repeat first | exact sub_refl _ | refine sub_cons rfl ?_)
def g20v (args:List Value) (H:Heap) (n:Nat):R:=match args with
 | [.agg ⟨[t,.int .i64 w,.int .i64 s,.int .i64 e]⟩]=>(intsW H t).map fun l=>(iv (setE l w s e),H,n)
 | _=>none
theorem ok20v:EntOk Tryz.prog (20,g20v):=by
 intro args H n v H' n' h
 simp only [g20v] at h
 split at h
 · rw [Option.map_eq_some_iff] at h
   obtain ⟨l,h1,h⟩:=h
   injection h with e1 e2; injection e2 with e2 e3; subst e1 e2 e3
   unfold intsW at h1
   split at h1
   · injection h1 with h1; subst h1
     exact AC.liftP rfl (Part.plain (by simp) [] (by simp [Seen]) gsz ⟨_,_,w20n _ _ _⟩)
   · obtain ⟨hf,hc,hlen,hlt⟩:=intsAt_ok h1
     exact AC.liftP rfl (Part.one (fun x=>[setA x _ _ _]) set_den set_sc hf hc (afL_iv l) [] (by simp [Seen]) gsz fun c=>⟨_,_,w20i l _ hlen _ c _ _ _ (hlen ▸ hlt)⟩)
   · cases h1
 · cases h
theorem W_intV {H:Heap} {v:Value} {l:List Int} (h:intsW H v=some l):intV H v=some l:=by
 unfold intsW at h
 split at h
 · injection h with h; subst h; rfl
 · obtain ⟨hf,hc,hlen,hlt⟩:=intsAt_ok h
   subst hlen
   refine listV_flat (c:=fun z=>[iv z]) (sz:=1) (fun _=>rfl) (fun _=>rfl) hf ?_ (by omega)
   rw [Nat.mul_one,hc,List.map_eq_flatMap]
 · cases h
theorem intsW_mono {H H':Heap} (hs:Sub H H') {v:Value} {l:List Int} (h:intsW H v=some l):intsW H' v=some l:=by
 unfold intsW at h ⊢
 split at h
 · exact h
 · unfold intsAt at h ⊢
   split at h
   · rename_i hf
     rw [if_pos hf]
     rw [Option.bind_eq_some_iff] at h ⊢
     obtain ⟨cs,h1,h2⟩:=h
     exact ⟨cs,hs.cells h1,h2⟩
   · cases h
 · cases h
structure SetOk (l:List Int) (w s e:Int):Prop where
 len:1 ≤ l.length ∧ l.length ≤ 16
 vel:∀ v ∈ l,1 ≤ v ∧ v ≤ 1000000000
 win:0 ≤ w ∧ w ≤ 16
 str:0 ≤ s ∧ s ≤ 1024
 evr:1 ≤ e ∧ e ≤ 1024
theorem when_zero {b:Bool} {e:Int} (he:e ≠ 0) (h:whenV b e=0):b=false:=by
 cases b with
 | false=>rfl
 | true=>exact absurd h he
theorem fan_vel:∀ (l:List Int) (a:Int),fanE a l=0 → ∀ v ∈ l,1 ≤ v ∧ v ≤ 1000000000
 | [],_,_,v,hv=>by cases hv
 | x :: l,a,h,v,hv=>by
   rw [fanE] at h
   split at h
   · rename_i h0
     rcases List.mem_cons.1 hv with rfl | hv
     · exact within_zero (first_zero h0 (velV v) (by simp))
     · exact fan_vel l x h v hv
   · rename_i h0
     exact absurd h h0
theorem set_ok {l:List Int} {w s e:Int} (h:setE l w s e=0):SetOk l w s e:=by
 unfold setE at h
 split at h
 · rename_i h1
   split at h
   · rename_i h2
     have h3:=fun x hx=>first_zero h x hx
     have k1:=when_zero (by decide) (first_zero h1 _ (by simp:whenV (decide (l.length=0)) 12 ∈ _))
     have k2:=when_zero (by decide) (first_zero h1 _ (by simp:whenV (decide (16 < l.length)) 5 ∈ _))
     simp only [decide_eq_false_iff_not] at k1 k2
     exact ⟨⟨by omega,by omega⟩,fan_vel l 0 h2,within_zero (h3 _ (by simp)),within_zero (h3 _ (by simp)),within_zero (h3 _ (by simp))⟩
   · rename_i h2
     exact absurd h h2
 · rename_i h1
   exact absurd h h1
def semP (ts:List Trc) (t w win st:Int):Int × Int:=if semD ts t w win st=0 then (0,1) else ((semU ts t w win st).tdiv (gcdI (semU ts t w win st) (semD ts t w win st)),(semD ts t w win st).tdiv (gcdI (semU ts t w win st) (semD ts t w win st)))
theorem semV_P (ts:List Trc) (t w win st:Int):semV ts t w win st = .agg ⟨[iv (semP ts t w win st).1,iv (semP ts t w win st).2]⟩:=by
 unfold semV semP
 split <;> rfl
theorem semP_b {ts:List Trc} (hok:OkS ts) {t w win st:Int} (hnr:0 ≤ win ∧ win ≤ 16) (ht:0 ≤ t ∧ t ≤ (widF ts).1 - 1):(0 ≤ (semP ts t w win st).1 ∧ (semP ts t w win st).1 ≤ 36283883716608) ∧ 1 ≤ (semP ts t w win st).2 ∧ (semP ts t w win st).2 ≤ 36283883716608:=by
 have hndb:=fun x=>nd_bound hok x w st
 have hC:semC ts t win ≤ 33:=by
   have hw:=hok.w0
   unfold semC semA
   omega
 have hU:=accN_bound (fun x=>(hndb x).1) (semC ts t win) (a:=semA t win)
 have hD:=accN_bound (fun x=>(hndb x).2) (semC ts t win) (a:=semA t win)
 have e1:semU ts t w win st=accN (fun x=>nuT ts x w st) (semA t win) (semC ts t win):=rfl
 have e2:semD ts t w win st=accN (fun x=>deT ts x w st) (semA t win) (semC ts t win):=rfl
 rw [← e1] at hU
 rw [← e2] at hD
 have hM:(1099511627776:Int) * (semC ts t win:Nat) ≤ 1099511627776 * 33:=by omega
 unfold semP
 obtain ⟨U,hUe⟩:∃ U,semU ts t w win st=U:=⟨_,rfl⟩
 obtain ⟨D,hDe⟩:∃ D,semD ts t w win st=D:=⟨_,rfl⟩
 rw [hUe] at hU ⊢
 rw [hDe] at hD ⊢
 by_cases hz:D=0
 · rw [if_pos hz]
   exact ⟨⟨Int.le_refl _,by decide⟩,Int.le_refl _,by decide⟩
 · rw [if_neg hz]
   have hg:=gcd_pos (a:=U) (b:=D) (by omega)
   dsimp only
   rw [Int.tdiv_eq_ediv_of_nonneg (by omega),Int.tdiv_eq_ediv_of_nonneg (by omega)]
   have hle:gcdI U D ≤ D:=by
     have:(Nat.gcd U.natAbs D.natAbs:Nat) ≤ D.natAbs:=Nat.gcd_le_right _ (by omega)
     unfold gcdI
     omega
   refine ⟨⟨Int.ediv_nonneg (by omega) (by omega),?_⟩,?_,?_⟩
   · exact Int.le_trans (Int.ediv_le_self _ hU.1) (by omega)
   · exact (Int.le_ediv_iff_mul_le (by omega)).2 (by omega)
   · exact Int.le_trans (Int.ediv_le_self _ hD.1) (by omega)
def perV (ts:List Trc) (t w win st:Int):Int:=(1024 * (semP ts t w win st).1) / (semP ts t w win st).2
theorem store_fresh {H:Heap} {k:Nat} {t:TypeId} {zs cs:List Value} (hl:cs.length=zs.length):storeA ((k,.cells zs t) :: H) k 0 cs=some ((k,.cells cs t) :: H):=by
 rw [store_all (t:=t) (zs:=zs) (by rw [hget_cons,if_pos rfl]) hl]
 simp
structure PanC (H:Heap) (a b c:Nat) (s:ByteArray) (u:Value) (ts:List Trc) (W k win st e:Int) (fv:Value):Prop where
 g:cellsA H a 0 3=some [.string s,u,iv W]
 k:cellA H b 0=some (iv k)
 p:cellsA H c 0 4=some [fv,iv win,iv st,iv e]
 r:dR H
 t:trcV H u=some ts
theorem PanC.mono {H H':Heap} {a b c:Nat} {s:ByteArray} {u:Value} {ts:List Trc} {W k win st e:Int} {fv:Value} (h:PanC H a b c s u ts W k win st e fv) (hs:Sub H H'):PanC H' a b c s u ts W k win st e fv:=
 ⟨hs.cells h.g,hs.cell h.k,hs.cells h.p,hs _ _ h.r,listV_mono decT_mono hs h.t⟩
theorem PanC.frz {H:Heap} {a b c:Nat} {s:ByteArray} {u:Value} {ts:List Trc} {W k win st e:Int} {fv:Value} (h:PanC H a b c s u ts W k win st e fv):PanC (frzH H) a b c s u ts W k win st e fv:=by
 refine ⟨by rw [cellsA_frz]; exact h.g,by rw [cellA_frz]; exact h.k,by rw [cellsA_frz]; exact h.p,?_,?_⟩
 · show hget (frzH H) 1=_
   rw [hget_frz,h.r]; rfl
 · have:=shtV_frz H (.agg ⟨[.string s,u]⟩)
   rw [shtV_mk (s:=s) h.t] at this
   obtain ⟨u',e1,e2⟩:=shtV_form this
   have:u=u':=by
     injection e1 with e1; injection e1 with e1; injection e1 with _ e1; injection e1
   rw [this]; exact e2
theorem PanC.tidy {H:Heap} {n a b c:Nat} {s:ByteArray} {u:Value} {ts:List Trc} {W k win st e:Int} {fv:Value} (hlt:∀ k b,hget H k=some b → k < n) (h:PanC H a b c s u ts W k win st e fv):PanC (tidy n H) a b c s u ts W k win st e fv:=
 ⟨cellsA_tidy hlt h.g,cellA_tidy hlt h.k,cellsA_tidy hlt h.p,hget_tidy.2 ⟨h.r,hlt _ _ h.r,rfl⟩,listV_tidy decT_tidy hlt h.t⟩
def PanB (ts:List Trc) (W k win st e:Int):Prop:=OkS ts ∧ W=(widF ts).1 ∧ (0 ≤ k ∧ k ≤ 1024) ∧ (1 ≤ e ∧ e ≤ 1024) ∧ k * e ≤ W - 1 ∧ (0 ≤ win ∧ win ≤ 16) ∧ 0 ≤ st ∧ st ≤ 1024
set_option maxRecDepth 50000 in
theorem w145 {H:Heap} {n a b c:Nat} {s:ByteArray} {u:Value} {ts:List Trc} {W k win st e v:Int} {fv:Value} (hP:PanC H a b c s u ts W k win st e fv) (hB:PanB ts W k win st e) (hv:1 ≤ v ∧ v ≤ 1000000000) (hlt:∀ k b,hget H k=some b → k < n):AC Tryz.prog 145 [iv v,ptA a,ptA b,ptA c] H n (iv (perV ts (k * e) v win st)) H n:=by
 have hr:=recT_ok (P:=Tryz.prog) (l:=[(135,g135)]) (by simp only [List.forall_mem_cons]; exact ⟨ok135,by simp⟩)
 have hr0:=recT_ok (P:=Tryz.prog) (l:=[]) (by simp)
 obtain ⟨hok,hWw,hk,he,hke,hwin,hst⟩:=hB
 have hw0:=hok.w0
 have hke0:0 ≤ k * e:=Int.mul_nonneg hk.1 (by omega)
 have h135:∀ q,g135 [.agg ⟨[.string s,u,iv W]⟩,iv (k * e),iv v,iv win,iv st] H q=some (.agg ⟨[iv (semP ts (k * e) v win st).1,iv (semP ts (k * e) v win st).2]⟩,H,q):=fun q=>by
   simp only [g135,hP.t]
   rw [if_pos ⟨hP.r,hP.t,hok,hWw,⟨by omega,by omega⟩,hv,hwin,hst⟩,semV_P]
 have hb:=semP_b hok (t:=k * e) (w:=v) (st:=st) hwin ⟨by omega,by omega⟩
 have hper:perV ts (k * e) v win st=1024 * (semP ts (k * e) v win st).1 / (semP ts (k * e) v win st).2:=rfl
 obtain ⟨x,hx⟩:∃ x,(semP ts (k * e) v win st).1=x:=⟨_,rfl⟩
 obtain ⟨y,hy⟩:∃ y,(semP ts (k * e) v win st).2=y:=⟨_,rfl⟩
 rw [hx,hy] at h135 hb hper
 rw [hper]
 have hwk:IntKind.i64.wrap (k * e)=k * e:=W_in (by omega) (by omega)
 have hwx:IntKind.i64.wrap (1024 * x)=1024 * x:=W_in (by omega) (by omega)
 have hq:(1024 * x).tdiv y=1024 * x / y:=Int.tdiv_eq_ediv_of_nonneg (by omega)
 have hqb:0 ≤ 1024 * x / y ∧ 1024 * x / y ≤ 1024 * x:=⟨Int.ediv_nonneg (by omega) (by omega),Int.ediv_le_self _ (by omega)⟩
 have hwq:IntKind.i64.wrap (1024 * x / y)=1024 * x / y:=W_in (by omega) (by omega)
 have hy0:y ≠ 0:=by omega
 have hld:loadA Tryz.prog 196 H (.pointer (some ⟨a,0,none⟩))=some (.agg ⟨[.string s,u,iv W]⟩):=by simp only [loadA,ag196,sz196,hP.g,Option.map_some]
 have c0:=hP.k
 have c1:cellA H c 1=some (iv win):=by have:=(cellsA_at hP.p).2 1 (by decide); rwa [Nat.zero_add] at this
 have c2:cellA H c 2=some (iv st):=by have:=(cellsA_at hP.p).2 2 (by decide); rwa [Nat.zero_add] at this
 have c3:cellA H c 3=some (iv e):=by have:=(cellsA_at hP.p).2 3 (by decide); rwa [Nat.zero_add] at this
 have l0:loadA Tryz.prog 3 H (.pointer (some ⟨b,0,none⟩))=some (iv k):=by simp [-cellA,c0]
 have l1:loadA Tryz.prog 3 H (.pointer (some ⟨c,1,none⟩))=some (iv win):=by simp [-cellA,c1]
 have l2:loadA Tryz.prog 3 H (.pointer (some ⟨c,2,none⟩))=some (iv st):=by simp [-cellA,c2]
 have l3:loadA Tryz.prog 3 H (.pointer (some ⟨c,3,none⟩))=some (iv e):=by simp [-cellA,c3]
 have hnew:hget H n=none:=by
   cases hc:hget H n with
   | none=>rfl
   | some z=>have:=hlt _ _ hc; omega
 have hsto:storeA ((n,.cells [iv 0,iv 0] 96) :: H) n 0 [iv x,iv y]=some ((n,.cells [iv x,iv y] 96) :: H):=store_fresh rfl
 refine AC.pure Tryz.func145 rfl (by kernel_rfl) rfl [0,1,2,3,5,6] rfl ?_
 refine E.seq (E.reg hr0 (by simp; rfl) ?_)
 refine E.seq (E.reg hr (by simp [-loadA,-storeA,hld,l0,l1,l2,l3,hwk,h135,hsto]; rfl) ?_)
 refine E.seq (E.reg hr0 (by simp [hwx,bin_quo hy0,hq,hwq]; rfl) ?_)
 refine E.ret ?_
 exact pureK.ret rfl rfl rfl (Sub.cons hnew (Sub.refl _))
abbrev fn145 (a b c:Nat):Value:=.func (.func 145) #[] #[ptA a,ptA b,ptA c]
def rowP (ts:List Trc) (k win st e:Int) (l:List Int):List Int:=l.map fun v=>perV ts (k * e) v win st
open Classical in
noncomputable def g145 (s:ByteArray) (u:Value) (ts:List Trc) (W k win st e:Int) (fv:Value) (args:List Value) (H:Heap) (n:Nat):R:=match args with
 | [.int .i64 v,.pointer (some ⟨a,0,none⟩),.pointer (some ⟨b,0,none⟩),.pointer (some ⟨c,0,none⟩)]=>if PanC H a b c s u ts W k win st e fv ∧ PanB ts W k win st e ∧ (1 ≤ v ∧ v ≤ 1000000000) ∧ ∀ k b,hget H k=some b → k < n then some (iv (perV ts (k * e) v win st),H,n) else none
 | _=>none
theorem ok145 {s:ByteArray} {u:Value} {ts:List Trc} {W k win st e:Int} {fv:Value}:EntOk Tryz.prog (145,g145 s u ts W k win st e fv):=by
 intro args H n v H' n' h
 simp only [g145] at h
 split at h
 · split at h
   · rename_i hc
     injection h with h; injection h with e1 e2; injection e2 with e2 e3; subst e1 e2 e3
     exact w145 hc.1 hc.2.1 hc.2.2.1 hc.2.2.2
   · cases h
 · cases h
set_option maxHeartbeats 1000000 in
set_option maxRecDepth 50000 in
theorem w144 {H:Heap} {n a b c:Nat} {v fv:Value} {l:List Int} {s:ByteArray} {u:Value} {ts:List Trc} {W k win st e:Int} (hV:intV H v=some l) (hP:PanC H a b c s u ts W k win st e fv) (hB:PanB ts W k win st e) (hv:∀ x ∈ l,1 ≤ x ∧ x ≤ 1000000000):AC Tryz.prog 144 [v,fn145 a b c] H n (outS n l.length) (outSB n 3 1 l.length ((rowP ts k win st e l).map iv) ++ H) (n + 1):=by
 refine AC.given fun hold hsc hgn=>AC.tidied (fun x hx=>outSB_ge x hx) ?_
 replace hV:=Ab.int_tidy hold hV
 replace hP:=hP.tidy (n:=n) fun k b h=>(hold k b h).1
 have hr:=recT_ok (P:=Tryz.prog) (l:=[(145,g145 s u ts W k win st e fv)]) (by simp only [List.forall_mem_cons]; exact ⟨ok145,by simp⟩)
 obtain ⟨oa,cp,rfl,hlt,_,hrow⟩:=intV_form hV
 refine AC.grown Tryz.func144 rfl (by kernel_rfl) rfl [1,5,8,9,10] ?_
 refine E.seq (E.reg hr (by simp; rfl) ?_)
 refine E.seq (E.reg hr (by simp; rfl) ?_)
 refine E.seq (E.seq (E.reg hr (by simp; rfl) ?_))
 refine E.block (E.loop ?_)
 refine EL.ind (fun x:Nat × Heap × Nat × Nat=>{ fr:=[(1,fn145 a b c),(5,outS x.2.2.2 x.1),(8,.slice oa l.length cp),(9,iv l.length),(10,iv x.1)],sz:=22,H:=x.2.1,n:=x.2.2.1,marks:=[],vs:=[1,5,8,9,10] }) (fun x=>l.length - x.1) (fun x=>x.1 ≤ l.length ∧ GL (tidy n H) n 3 1 ((rowP ts k win st e (l.take x.1)).map iv) x.1 x.2.1 x.2.2.1 x.2.2.2) (0,tidy n H,n,n) (.keep rfl rfl rfl (by simp) (Sub.refl _)) ⟨Nat.zero_le _,by simpa [rowP] using GL.start (t:=3) (sz:=1) (Sub.refl (tidy n H)) namesOk_tidy (Nat.le_refl n) (by simp)⟩ (fun _=>rfl) ?_
 rintro ⟨i,Hx,N,o⟩ ⟨hi,hG⟩
 dsimp only at hi hG ⊢
 have hw:IntKind.i64.wrap ((i:Int) + 1)=(i:Int) + 1:=W_in (by omega) (by omega)
 refine E.seq (E.reg hr (by simp; rfl) ?_)
 refine E.seq ?_
 by_cases hil:i < l.length
 · obtain ⟨ad,rfl,hf,hc⟩:=hrow i hil
   have htk:l.take (i + 1)=l.take i ++ [l[i]]:=List.take_succ_eq_append_getElem hil
   have hvi:=hv _ (List.getElem_mem hil)
   have hcx:=hG.sub.cell hc
   obtain ⟨x,hx⟩:∃ x,l[i]=x:=⟨_,rfl⟩
   rw [hx] at htk hvi hcx
   obtain ⟨y,hy⟩:∃ y,perV ts (k * e) x win st=y:=⟨_,rfl⟩
   have hsn:(rowP ts k win st e (l.take i)).map iv ++ [iv y]=(rowP ts k win st e (l.take (i + 1))).map iv:=by
     rw [htk]
     unfold rowP
     rw [List.map_append,List.map_append,← hy]; rfl
   have hgX:g145 s u ts W k win st e fv [iv x,ptA a,ptA b,ptA c] Hx N=some (iv y,Hx,N):=by
     rw [← hy]
     exact if_pos ⟨hP.mono hG.sub,hB,hvi,fun k b hk=>namesOk_iff.1 hG.nm (k,b) (hget_mem _ _ _ hk)⟩
   obtain ⟨Hz,happ,hGz⟩:=hG.app (P:=Tryz.prog) (st:=24) (i:=Tryz.t3) (new:=[iv y]) tidy_lt Tryz.underlying24 inf3 sz3i zo3 by3 (by omega) rfl (by omega) rfl rfl
   rw [hsn] at hGz
   refine E.cond (t:=true) (by simp [hil]) (fun _=>?_) (fun h=>by cases h)
   refine E.skip (E.seq ?_)
   refine E.block (E.seq (E.reg hr (by simp [-cellA,-flat,hil,hf,hcx]; rfl) ?_))
   refine E.reg hr (by simp [-builtinA,run_vcall_tmp,vcallF,target,hgX,happ]; rfl) ?_
   refine E.reg hr (by simp [hw]; rfl) ?_
   exact ⟨(i + 1,Hz,N + 1 + 1,N + 1),.keep rfl rfl rfl (by simp) (Sub.refl _),⟨hil,hGz⟩,by dsimp only; omega⟩
 · have hil':i=l.length:=by omega
   subst hil'
   rw [List.take_length] at hG
   refine E.cond (t:=false) (by simp) (fun h=>by cases h) (fun _=>?_)
   refine E.exit ?_
   refine E.seq (E.reg hr (by simp; rfl) ?_)
   refine E.ret ?_
   exact outK.ret rfl rfl (hG.fresh (Nat.le_refl _) (afL_iv _) fun ρ=>ivs_ren ρ _)
open Classical in
noncomputable def g144 (s:ByteArray) (u:Value) (ts:List Trc) (W k win st e:Int) (fv:Value) (l:List Int) (args:List Value) (H:Heap) (n:Nat):R:=match args with
 | [v,.func (.func 145) ⟨[]⟩ ⟨[.pointer (some ⟨a,0,none⟩),.pointer (some ⟨b,0,none⟩),.pointer (some ⟨c,0,none⟩)]⟩]=>if intV H v=some l ∧ PanC H a b c s u ts W k win st e fv ∧ PanB ts W k win st e ∧ ∀ x ∈ l,1 ≤ x ∧ x ≤ 1000000000 then some (outS n l.length,outSB n 3 1 l.length ((rowP ts k win st e l).map iv) ++ H,n + 1) else none
 | _=>none
theorem ok144 {s:ByteArray} {u:Value} {ts:List Trc} {W k win st e:Int} {fv:Value} {l:List Int}:EntOk Tryz.prog (144,g144 s u ts W k win st e fv l):=by
 intro args H n v H' n' h
 simp only [g144] at h
 split at h
 · split at h
   · rename_i hc
     injection h with h; injection h with e1 e2; injection e2 with e2 e3; subst e1 e2 e3
     exact w144 hc.1 hc.2.1 hc.2.2.1 hc.2.2.2
   · cases h
 · cases h
end Go.Proofs.YtkongcnmkiihjaaGreatDoor
namespace Go.Ab
open Go
structure MadeV {α:Type} (V:Heap → Value → Option α) (H:Heap) (n:Nat) (H':Heap) (n':Nat) (u:Value) (x:α):Prop where
 app:∃ B,H'=B ++ H ∧ (∀ b ∈ B,n ≤ b.1 ∧ b.1 < n') ∧ plainH B=true
 le:n ≤ n'
 view:V H' u=some x
def MadeK {α:Type} (V:Heap → Value → Option α) (T:Heap) (n:Nat) (vf:Value → Value) (x:α) (v:Value) (Z:Heap) (N:Nat):Prop:=
 ∃ u,v=vf u ∧ Sub T Z ∧ namesOk N Z=true ∧ n ≤ N ∧ (af u=true → ∀ G,V G u=some x) ∧ ∀ G,Sub T G → (∀ k b,n ≤ k → plainB2 b=true → hget Z k=some b → hget G k=some b) → V G u=some x
theorem made_any {α : Type} {V : Heap → Value → Option α} {P : Program} {f : FuncId} {fn : Func} {c : Code} {args : List Value} {H : Heap} {n : Nat} {vf : Value → Value} {x : α} (hf : P.funcs[f]? = some fn) (hb : fn.body = some c) (he : enterable P f = true) (hlen : Nat.ble args.length fn.ntmps = true) (vs : List Nat) (hlt : ∀ k b, hget H k = some b → k < n) (hvf : ∀ u, af (vf u) = af u)
   (h:E P n none c { fr:=argsFr args 0,sz:=fn.ntmps,H:=tidy n H,n,marks:=[],vs } (Ab.outM P fn (MadeK V (tidy n H) n vf x))):∃ u H' n',AC P f args H n (vf u) H' n' ∧ MadeV V H n H' n' u x:=by
 obtain ⟨v,H1,n1,Z,hAC,⟨u,rfl,hs,hnm,hN,ha,hG⟩,h1,h2⟩:=AC.outM hf hb he hlen vs h
 have hTlt:∀ k b,hget (tidy n H) k=some b → k < n:=fun k b hk=>tidy_lt _ _ hk
 by_cases h0:af u=true
 · have h3:AC P f args (tidy n H) n (vf u) (tidy n H) n:=hAC.tidy (by rw [hvf]; exact h0) fun k b hk=>h2 k b hTlt hk (hs k b hk)
   exact ⟨u,H,n,AC.tidied (B:=[]) (by simp) h3,⟨[],rfl,by simp,rfl⟩,Nat.le_refl _,ha h0 H⟩
 · obtain rfl:=h1 (by rw [hvf]; simpa using h0)
   have h3:=AC.canon hlt hAC hs
   refine ⟨u,_,_,h3,⟨news n H1,rfl,fun b hb=>?_,plainH_mem fun x hx=>(news_mem hx).2.1⟩,hN,hG _ (fun k b hk=>?_) fun k b hk hp hg=>?_⟩
   · obtain ⟨g1,_,g3⟩:=news_mem hb
     exact ⟨g1,namesOk_iff.1 hnm _ (hget_mem _ _ _ g3)⟩
   · rw [hget_app]
     cases hc:hget (news n H1) k with
     | none=>exact (hget_tidy.1 hk).1
     | some c=>
       have:=(news_mem (hget_mem _ _ _ hc)).1
       have:=(hget_tidy.1 hk).2.1
       dsimp only at *
       omega
   · rw [hget_app,news_get hg hk hp]
section
variable {α:Type} {V:Heap → Value → Option α} {N N':Nat} {X H':Heap} {u:Value} {x:α}
theorem MadeV.alone (hm:PM N X) (h:MadeV V X N H' N' u x):PM N' H' ∧ Sub X H' ∧ N ≤ N' ∧ V H' u=some x:=by
 obtain ⟨B,rfl,hB,hp⟩:=h.app
 obtain ⟨h1,h2,_,_⟩:=hm.app hB hp h.le
 exact ⟨h1,h2,h.le,h.view⟩
end
theorem rep_v (z:Value) (w:Nat):((Array.range (w * 1)).map ((if w * 1=0 then #[] else #[z])[· % (if w * 1=0 then #[] else #[z]).size]!)).toList=List.replicate w z:=by
 refine List.eq_replicate_iff.2 ⟨by simp,fun x hx=>?_⟩
 simp only [Array.toList_map,List.mem_map,Array.toList_range,List.mem_range] at hx
 obtain ⟨i,hi,rfl⟩:=hx
 rw [if_neg (by omega)]
 simp [Nat.mod_one]
end Go.Ab
namespace Go.Proofs.YtkongcnmkiihjaaGreatDoor
open Go Go.Ab Go.Proofs
def panE (s:ByteArray) (ts:List Trc) (l:List Int) (w st e:Int):Int:=if firstV [shtE s ts,setE l w st e]=0 then firstV [whenV (decide (timV (widE s ts) e=0)) 12,whenV (decide (64 < timV (widE s ts) e)) 5] else firstV [shtE s ts,setE l w st e]
def panR (ts:List Trc) (l:List Int) (w st e:Int) (T:Nat):List (List Int):=(List.range T).map fun k:Nat=>rowP ts (k:Int) w st e l
def panL (s:ByteArray) (ts:List Trc) (l:List Int) (w st e:Int):List (List Int):=if panE s ts l w st e=0 then panR ts l w st e (timV (widE s ts) e).toNat else []
theorem mk38 {fr:Fr} {H:Heap} {n:Nat} {x y:Operand} {L:Nat} (h1:L ≤ 64) (hx:evO Tryz.prog fr x=some (iv L)) (hy:evO Tryz.prog fr y=some (iv L)):opMakeslice Tryz.prog 38 x y fr H n=some (.slice (some ⟨n,0,none⟩) L L,(n,.cells (List.replicate L (.slice none 0 0)) 24) :: H,n + 1):=by
 unfold opMakeslice
 rw [hx,hy,Tryz.underlying38]
 have inf24:Tryz.prog.info? 24=some Tryz.t24:=by kernel_rfl
 have hz:Tryz.t24.zero=some (.slice none 0 0):=by kernel_rfl
 have hb:Tryz.t24.bytes=24:=by kernel_rfl
 have hs:Tryz.t24.size=1:=by kernel_rfl
 simp only [inf24,hz,hb,hs]
 have hc:(0 ≤ (L:Int) ∧ (L:Int) ≤ L ∧ (smallA 24 (L:Int).toNat && afL (Value.slice none 0 0).cells.toList)=true):=⟨by omega,Int.le_refl _,by simp [smallA,Value.cells,afL,af]; omega⟩
 rw [if_pos hc]
 unfold newA
 rw [Int.toNat_natCast,show (Value.slice none 0 0).cells=#[Value.slice none 0 0] from rfl,rep_v]
abbrev rowVs (c:Nat) (ns:List Nat):List Value:=ns.map fun m=>.slice (some ⟨m,0,some 0⟩) c 0
theorem nest_view {G:Heap} {v:Value} {ns:List Nat} {c cp T:Nat} {ls:List (List Int)} {a:Addr} (hv:v = .slice (some a) T cp) (hf:flat a=true) (hT:ns.length=T) (hl:ls.length=T) (hc:cellsA G a.block a.off T=some (rowVs c ns)) (hr:∀ (i m:Nat) (r:List Int),ns[i]? = some m → ls[i]? = some r → r.length=c ∧ r ≠ [] ∧ hget G m=some (.ext (r.map iv) 3 1)) (hc31:c < 2147483648) (hT31:T < 2147483648):nestV G v=some ls:=by
 subst hv hl
 have hcl:(rowVs c ns).length=ls.length:=by rw [List.length_map,hT]
 refine listV_mk (cs:=rowVs c ns) hf (by rw [hcl]; exact hc) hcl hT31 fun i v hv=>?_
 rw [List.getElem?_map,Option.map_eq_some_iff] at hv
 obtain ⟨m,hm,rfl⟩:=hv
 have hi:i < ls.length:=by have:=(List.getElem?_eq_some_iff.1 hm).1; omega
 obtain ⟨h1,h2,h3⟩:=hr i m _ hm (List.getElem?_eq_getElem hi)
 rw [List.getElem?_eq_getElem hi]
 have:=intV_at (N:=m) (H:=G) (l:=ls[i]) (fun _=>h3) (by omega)
 rw [outS_ne fun e=>h2 (List.length_eq_zero_iff.1 e),h1] at this
 exact this
abbrev vs72:List Nat:=[2,3,6,7,8,9,10,11,12,43,44]
set_option maxHeartbeats 6400000 in
set_option maxRecDepth 100000 in
theorem w72 {H:Heap} {n:Nat} {v fv:Value} {s:ByteArray} {ts:List Trc} {l:List Int} {w st e:Int} (hR:dR H) (hv:shtV H v=some (s,ts)) (hl:intsW H fv=some l) (hlt:∀ k b,hget H k=some b → k < n) (h9:9 ≤ n):∃ u H' n',AC Tryz.prog 72 [v,setA fv w st e] H n (.tuple #[u,iv (panE s ts l w st e)]) H' n' ∧ MadeV nestV H n H' n' u (panL s ts l w st e):=by
 replace hv:=shtV_tidy (n:=n) hlt hv
 have hR':hget (tidy n H) 1=some (.inp 0 rangesV):=hget_tidy.2 ⟨hR,by omega,rfl⟩
 replace hR:dR (tidy n H):=hR'
 obtain ⟨u,rfl,ht⟩:=shtV_form hv
 obtain ⟨oa,c,rfl,hlt31,_,_⟩:=trcV_form ht
 replace hl:intsW (tidy n H) fv=some l:=by
   unfold intsW at hl ⊢
   split at hl
   · exact hl
   · unfold intsAt at hl ⊢
     split at hl
     · rename_i hf
       rw [if_pos hf]
       rw [Option.bind_eq_some_iff] at hl ⊢
       obtain ⟨cs,h1,h2⟩:=hl
       exact ⟨cs,cellsA_tidy hlt h1,h2⟩
     · cases hl
   · cases hl
 have hpm0:PM n (tidy n H):=PM.tidy
 refine made_any (V:=nestV) (vf:=fun u=>.tuple #[u,iv (panE s ts l w st e)]) Tryz.func72 rfl (by kernel_rfl) rfl vs72 hlt (fun u=>by cases u <;> simp [af,afL]) ?_
 obtain ⟨T0,hT0⟩:∃ T,tidy n H=T:=⟨_,rfl⟩
 rw [hT0] at hv hR hR' ht hl hpm0 ⊢
 obtain ⟨fa,fk,fc,rfl⟩:∃ a k c,fv = .slice a k c:=by
   unfold intsW at hl
   split at hl
   · exact ⟨_,_,_,rfl⟩
   · exact ⟨_,_,_,rfl⟩
   · cases hl
 have hlI:=W_intV hl
 have hr:=recT_ok (P:=Tryz.prog) (l:=[(131,g131),(20,g20v),(90,g90),(143,g143),(96,g96)]) (by simp only [List.forall_mem_cons]; exact ⟨ok131,ok20v,ok90,ok143,ok96,by simp⟩)
 have hr0:=recT_ok (P:=Tryz.prog) (l:=[]) (by simp)
 obtain ⟨X,hX⟩:∃ X,(n + 1,Blk.cells [.slice fa fk fc,iv w,iv st,iv e] 34) :: (n,Blk.cells [.string s,.slice oa ts.length c] 110) :: T0=X:=⟨_,rfl⟩
 have hp1:PM (n + 1) ((n,Blk.cells [.string s,.slice oa ts.length c] 110) :: T0):=hpm0.put rfl
 have hpX:PM (n + 2) X:=by rw [← hX]; exact hp1.put rfl
 have hTX:Sub T0 X:=by rw [← hX]; exact hpm0.sub.trans hp1.sub
 have hb0:hget X n=some (.cells [.string s,.slice oa ts.length c] 110):=by rw [← hX,hget_cons,if_neg (by omega),hget_cons,if_pos rfl]
 have hb1:hget X (n + 1)=some (.cells [.slice fa fk fc,iv w,iv st,iv e] 34):=by rw [← hX,hget_cons,if_pos rfl]
 have hld:=load110 hb0
 obtain ⟨W,hW⟩:∃ W,widE s ts=W:=⟨_,rfl⟩
 obtain ⟨e0,he0⟩:∃ e,shtE s ts=e:=⟨_,rfl⟩
 obtain ⟨e1,he1⟩:∃ x,setE l w st e=x:=⟨_,rfl⟩
 have h131:∀ m,g131 [.agg ⟨[.string s,.slice oa ts.length c]⟩] X m=some (.tuple #[.agg ⟨[.string s,.slice oa ts.length c,iv W]⟩,iv e0],X,m):=fun m=>by
   have h1:=shtV_mono hTX hv
   have h2:dR X:=hTX _ _ hR
   simp only [g131,h1,h2,and_self,if_true,hW,he0]
 have hPE:panE s ts l w st e=if firstV [e0,e1]=0 then firstV [whenV (decide (timV W e=0)) 12,whenV (decide (64 < timV W e)) 5] else firstV [e0,e1]:=by rw [← he0,← he1,← hW]; rfl
 obtain ⟨PE,hPEe⟩:∃ x,panE s ts l w st e=x:=⟨_,rfl⟩
 have hPL:panL s ts l w st e=if PE=0 then panR ts l w st e (timV W e).toNat else []:=by rw [← hPEe,← hW]; rfl
 obtain ⟨PL,hPLe⟩:∃ x,panL s ts l w st e=x:=⟨_,rfl⟩
 rw [hPEe] at hPE
 rw [hPLe] at hPL
 rw [hPEe,hPLe]
 refine E.seq (E.reg hr0 (by simp; rfl) ?_)
 rw [hX]
 refine E.seq ?_
 have hst1:storeA ((n + 2,.cells [.string ⟨#[]⟩,.slice none 0 0,iv 0] 196) :: X) (n + 2) 0 [.string s,.slice oa ts.length c,iv W]=some ((n + 2,.cells [.string s,.slice oa ts.length c,iv W] 196) :: X):=store_fresh rfl
 refine E.reg hr (by simp [-loadA,-storeA,hld,h131,hst1]; rfl) ?_
 obtain ⟨Y,hY⟩:∃ Y,(n + 2,Blk.cells [.string s,.slice oa ts.length c,iv W] 196) :: X=Y:=⟨_,rfl⟩
 have hpY:PM (n + 3) Y:=by rw [← hY]; exact hpX.put rfl
 have hXY:Sub X Y:=by rw [← hY]; exact hpX.sub
 have hb2:hget Y (n + 2)=some (.cells [.string s,.slice oa ts.length c,iv W] 196):=by rw [← hY,hget_cons,if_pos rfl]
 rw [hY]
 have hb1y:=hXY _ _ hb1
 have hl34:loadA Tryz.prog 34 Y (.pointer (some ⟨n + 1,0,none⟩))=some (setA (.slice fa fk fc) w st e):=by
   have:cellsA Y (n + 1) 0 4=some [.slice fa fk fc,iv w,iv st,iv e]:=by rw [cellsA_eq,hb1y]; rfl
   simp only [loadA,ag34,sz34,this,Option.map_some]
 have h20:∀ m,g20v [setA (.slice fa fk fc) w st e] Y m=some (iv e1,Y,m):=fun m=>by
   have:=intsW_mono (hTX.trans hXY) hl
   simp only [g20v,this,Option.map_some,he1]
 have hI2:∀ (N:Nat) (Z:Heap) m (a b:Int),g90 [.slice (some ⟨N,0,none⟩) 2 2] ((N,.cells [iv a,iv b] 29) :: Z) m=some (iv (firstV [a,b]),(N,.cells [iv a,iv b] 29) :: Z,m):=fun N Z m a b=>by
   simp [g90,intsAt,intsOf]
 refine E.seq (E.seq (E.reg hr (by simp [-loadA,hl34,h20,hI2]; rfl) ?_))
 obtain ⟨Y1,hY1⟩:∃ Z,(n + 3,Blk.cells [iv e0,iv e1] 29) :: Y=Z:=⟨_,rfl⟩
 have hpY1:PM (n + 4) Y1:=by rw [← hY1]; exact hpY.put rfl
 have hYY1:Sub Y Y1:=by rw [← hY1]; exact hpY.sub
 obtain ⟨e8,he8⟩:∃ x,firstV [e0,e1]=x:=⟨_,rfl⟩
 rw [he8] at hPE
 rw [hY1,he8]
 refine E.lead { fr:=[(2,ptA n),(3,ptA (n + 1)),(6,ptA (n + 2)),(8,iv e8)],sz:=56,H:=Y1,n:=n + 4,marks:=[],vs:=vs72 } (.keep rfl rfl rfl (by simp) (Sub.refl _)) ?_
 refine E.seq (E.reg hr0 (by simp; rfl) ?_)
 by_cases hz:e8=0
 rotate_left
 · rw [if_neg hz] at hPE
   rw [if_neg (by rw [hPE]; exact hz)] at hPL
   refine E.cond (t:=true) (by simp [hz]) (fun _=>?_) (fun h=>by cases h)
   refine E.seq (E.reg hr0 (by simp; rfl) ?_)
   refine E.ret ?_
   rw [hPE,hPL]
   exact outM.ret Y1 rfl (vs:=[.slice none 0 0,iv e8]) (by simp [resultsA,resultA,Tryz.results72]) ⟨.slice none 0 0,rfl,hTX.trans (hXY.trans hYY1),hpY1.nm,by dsimp only; omega,fun _ G=>rfl,fun G _ _=>rfl⟩
 rw [if_pos hz] at hPE
 have h01:e0=0 ∧ e1=0:=by
   rw [hz] at he8
   exact ⟨first_zero he8 e0 (by simp),first_zero he8 e1 (by simp)⟩
 have hok:OkS ts:=shtE_ok (s:=s) (by rw [he0]; exact h01.1)
 have hso:SetOk l w st e:=set_ok (he1.trans h01.2)
 have hWw:W=(widF ts).1:=by rw [← hW]; unfold widE; rw [he0,if_pos h01.1]
 have hw0:=hok.w0
 obtain ⟨Tn,hTn⟩:∃ T:Nat,timV W e=T:=⟨(timV W e).toNat,by have:=timV_b (W:=W) (e:=e) ⟨by omega,by omega⟩ hso.evr; omega⟩
 have hTb:=timV_b (W:=W) (e:=e) ⟨by omega,by omega⟩ hso.evr
 rw [hTn] at hPE hPL hTb
 have hb2':=hYY1 _ _ hb2
 have hl196:=load196 hb2'
 have c13:cellA Y1 (n + 1) 3=some (iv e):=by rw [cellA_eq,hYY1 _ _ hb1y]; rfl
 have l13:loadA Tryz.prog 3 Y1 (.pointer (some ⟨n + 1,3,none⟩))=some (iv e):=by simp [-cellA,c13]
 have h143:∀ m,g143 [.agg ⟨[.string s,.slice oa ts.length c,iv W]⟩,iv e] Y1 m=some (iv Tn,Y1,m):=fun m=>by
   simp only [g143]
   rw [if_pos ⟨⟨by omega,by omega⟩,hso.evr⟩,hTn]
 refine E.cond (t:=false) (by simp [hz]) (fun h=>by cases h) (fun _=>?_)
 refine E.skip (E.seq (E.reg hr (by simp [-loadA,hl196,l13,h143]; rfl) ?_))
 refine E.seq (E.seq ?_)
 obtain ⟨e10,he10⟩:∃ x,firstV [whenV (decide ((Tn:Int)=0)) 12,whenV (decide (64 < (Tn:Int))) 5]=x:=⟨_,rfl⟩
 rw [he10] at hPE
 have hI3:∀ (N:Nat) (Z:Heap) m,g90 [.slice (some ⟨N,0,none⟩) 2 2] ((N,.cells [iv (whenV (decide ((Tn:Int)=0)) 12),iv (whenV (decide (64 < (Tn:Int))) 5)] 29) :: Z) m=some (iv e10,(N,.cells [iv (whenV (decide ((Tn:Int)=0)) 12),iv (whenV (decide (64 < (Tn:Int))) 5)] 29) :: Z,m):=fun N Z m=>by
   rw [hI2,he10]
 have h96:∀ (b:Bool) (x:Int) Z m,g96 [.bool b,iv x] Z m=some (iv (whenV b x),Z,m):=fun _ _ _ _=>rfl
 obtain ⟨q1,hq1⟩:∃ b,decide ((Tn:Int)=0)=b:=⟨_,rfl⟩
 obtain ⟨q2,hq2⟩:∃ b,decide (64 < (Tn:Int))=b:=⟨_,rfl⟩
 rw [hq1,hq2] at hI3
 have hq1':decide (Tn=0)=q1:=by rw [← hq1,decide_eq_decide]; omega
 refine E.reg hr (by simp [-decide_eq_true_eq,hq1',hq2,h96,hI3]; rfl) ?_
 obtain ⟨Y2,hY2⟩:∃ Z,(n + 4,Blk.cells [iv (whenV q1 12),iv (whenV q2 5)] 29) :: Y1=Z:=⟨_,rfl⟩
 have hpY2:PM (n + 5) Y2:=by rw [← hY2]; exact hpY1.put rfl
 have hY12:Sub Y1 Y2:=by rw [← hY2]; exact hpY1.sub
 have hT2:Sub T0 Y2:=hTX.trans (hXY.trans (hYY1.trans hY12))
 rw [hY2]
 refine E.lead { fr:=[(2,ptA n),(3,ptA (n + 1)),(6,ptA (n + 2)),(9,iv Tn),(10,iv e10)],sz:=56,H:=Y2,n:=n + 5,marks:=[],vs:=vs72 } (.keep rfl rfl rfl (by simp) (Sub.refl _)) ?_
 refine E.seq (E.reg hr0 (by simp; rfl) ?_)
 by_cases hz2:e10=0
 rotate_left
 · rw [if_neg (by rw [hPE]; exact hz2)] at hPL
   refine E.cond (t:=true) (by simp [hz2]) (fun _=>?_) (fun h=>by cases h)
   refine E.seq (E.reg hr0 (by simp; rfl) ?_)
   refine E.ret ?_
   rw [hPE,hPL]
   exact outM.ret Y2 rfl (vs:=[.slice none 0 0,iv e10]) (by simp [resultsA,resultA,Tryz.results72]) ⟨.slice none 0 0,rfl,hT2,hpY2.nm,by dsimp only; omega,fun _ G=>rfl,fun G _ _=>rfl⟩
 rw [hz2] at hPE
 rw [if_pos hPE,Int.toNat_natCast] at hPL
 have hT64:Tn ≤ 64:=by
   have h3:=when_zero (by decide) (first_zero (hz2 ▸ he10) (whenV (decide (64 < (Tn:Int))) 5) (by simp))
   simp only [decide_eq_false_iff_not] at h3
   omega
 have hln:l.length ≠ 0:=by have:=hso.len; omega
 obtain ⟨_,_,efk,hl31,_,_⟩:=intV_form hlI
 injection efk with ef1 ef2 ef3
 subst ef2
 have hmk:=fun (fr:Fr) (H:Heap) (m:Nat) (h:evO Tryz.prog fr (.tmp 41)=some (iv Tn))=>mk38 (fr:=fr) (H:=H) (n:=m) (x:=.tmp 41) (y:=.tmp 41) hT64 h h
 refine E.cond (t:=false) (by simp [hz2]) (fun h=>by cases h) (fun _=>?_)
 refine E.skip (E.seq (E.reg hr0 (by simp [hmk]; rfl) ?_))
 obtain ⟨Y3,hY3⟩:∃ Z,(n + 5,Blk.cells (List.replicate Tn (.slice none 0 0)) 24) :: Y2=Z:=⟨_,rfl⟩
 have hpY3:PM (n + 6) Y3:=by rw [← hY3]; exact hpY2.put rfl
 have hY23:Sub Y2 Y3:=by rw [← hY3]; exact hpY2.sub
 have hb5:hget Y3 (n + 5)=some (.cells (List.replicate Tn (.slice none 0 0)) 24):=by rw [← hY3,hget_cons,if_pos rfl]
 rw [hY3]
 refine E.seq (E.seq (E.reg hr0 (by simp; rfl) ?_))
 refine E.block (E.loop ?_)
 refine EL.ind (fun x:Nat × Heap × Nat × List Nat=>{ fr:=[(3,ptA (n + 1)),(6,ptA (n + 2)),(11,.slice (some ⟨n + 5,0,none⟩) Tn Tn),(43,iv Tn),(44,iv x.1)],sz:=56,H:=x.2.1,n:=x.2.2.1,marks:=[],vs:=vs72 }) (fun x=>Tn - x.1) (fun x=>x.1 ≤ Tn ∧ PM x.2.2.1 x.2.1 ∧ Sub Y2 x.2.1 ∧ n + 6 ≤ x.2.2.1 ∧ x.2.2.2.length=x.1 ∧ hget x.2.1 (n + 5)=some (.cells (rowVs l.length x.2.2.2 ++ List.replicate (Tn - x.1) (.slice none 0 0)) 24) ∧ ∀ (j m:Nat),x.2.2.2[j]? = some m → n + 6 ≤ m ∧ hget x.2.1 m=some (.ext ((rowP ts (j:Int) w st e l).map iv) 3 1)) (0,Y3,n + 6,[]) (.keep rfl rfl rfl (by simp) (Sub.refl _)) ⟨Nat.zero_le _,hpY3,hY23,Nat.le_refl _,rfl,by simpa using hb5,fun j m h=>by simp at h⟩ (fun _=>rfl) ?_
 rintro ⟨i,Hx,N,ns⟩ ⟨hi,hp,hS,hN,hns,ho,hrow⟩
 dsimp only at hi hp hS hN hns ho hrow ⊢
 have hw:IntKind.i64.wrap ((i:Int) + 1)=(i:Int) + 1:=W_in (by omega) (by omega)
 refine E.seq (E.reg hr0 (by simp; rfl) ?_)
 refine E.seq ?_
 by_cases hil:i < Tn
 · refine E.cond (t:=true) (by simp [hil]) (fun _=>?_) (fun h=>by cases h)
   refine E.skip (E.seq ?_)
   refine E.block (E.seq ?_)
   have hsi:storeA ((N,.cells [iv 0] 3) :: Hx) N 0 [iv i]=some ((N,.cells [iv i] 3) :: Hx):=store_fresh rfl
   refine E.reg hr0 (by simp [-storeA,hsi]; rfl) ?_
   obtain ⟨V,hV⟩:∃ Z,(N,Blk.cells [iv i] 3) :: Hx=Z:=⟨_,rfl⟩
   have hpV:PM (N + 1) V:=by rw [← hV]; exact hp.put rfl
   have hxV:Sub Hx V:=by rw [← hV]; exact hp.sub
   have hVN:hget V N=some (.cells [iv i] 3):=by rw [← hV,hget_cons,if_pos rfl]
   rw [hV]
   have hYV:Sub Y1 V:=hY12.trans (hS.trans hxV)
   have hTV:Sub T0 V:=hT2.trans (hS.trans hxV)
   have hPC:PanC V (n + 2) N (n + 1) s (.slice oa ts.length c) ts W (i:Int) w st e (.slice fa l.length fc):=⟨by rw [cellsA_eq,hYV _ _ hb2']; rfl,by rw [cellA_eq,hVN]; rfl,by rw [cellsA_eq,hYV _ _ (hYY1 _ _ hb1y)]; rfl,hTV _ _ hR,listV_mono decT_mono hTV ht⟩
   have hlIV:intV V (.slice fa l.length fc)=some l:=listV_mono decI_mono hTV hlI
   have hkW:(i:Int) * e ≤ W - 1:=by
     have h1:(Tn:Int) * e ≤ W + e - 1:=by
       rw [← hTn]
       exact Int.ediv_mul_le _ (by have:=hso.evr; omega)
     have h2:((i:Int) + 1) * e ≤ (Tn:Int) * e:=Int.mul_le_mul_of_nonneg_right (by omega) (by have:=hso.evr; omega)
     rw [Int.add_mul,Int.one_mul] at h2
     omega
   have hPB:PanB ts W (i:Int) w st e:=⟨hok,hWw,⟨by omega,by omega⟩,hso.evr,hkW,hso.win,hso.str⟩
   have hr2:=recT_ok (P:=Tryz.prog) (l:=[(144,g144 s (.slice oa ts.length c) ts W (i:Int) w st e (.slice fa l.length fc) l)]) (by simp only [List.forall_mem_cons]; exact ⟨ok144,by simp⟩)
   have h144:g144 s (.slice oa ts.length c) ts W (i:Int) w st e (.slice fa l.length fc) l [.slice fa l.length fc,fn145 (n + 2) N (n + 1)] (frzH V) (N + 1)=some (.slice (some ⟨N + 1,0,some 0⟩) l.length 0,(N + 1,.ext ((rowP ts (i:Int) w st e l).map iv) 3 1) :: frzH V,N + 1 + 1):=by
     have hq:intV (frzH V) (.slice fa l.length fc)=some l:=(listV_frz decI_frz V _).trans hlIV
     simp only [g144]
     rw [if_pos ⟨hq,hPC.frz,hPB,hso.vel⟩,outS_ne hln,outSB,if_neg hln]
     rfl
   have hpn:=hpV.nm
   have hpp:=hpV.pl
   have htk:=takeNew_frz hpn
   have cN:cellA V N 0=some (iv i):=hPC.k
   have cf:cellA V (n + 1) 0=some (.slice fa l.length fc):=by have:=(cellsA_at hPC.p).2 0 (by decide); rwa [Nat.zero_add] at this
   have hn1:n + 1 < N + 1:=by omega
   have hfo:flat ⟨n + 5,0,none⟩=true:=rfl
   have hlen:(rowVs l.length ns ++ List.replicate (Tn - i) (Value.slice none 0 0)).length=Tn:=by simp [hns]; omega
   have hst:=store_at (H:=(N + 1,.ext ((rowP ts (i:Int) w st e l).map iv) 3 1) :: V) (b:=n + 5) (i:=i) (v:=.slice (some ⟨N + 1,0,some 0⟩) l.length 0) (t:=24) (cs:=rowVs l.length ns ++ List.replicate (Tn - i) (.slice none 0 0)) (by rw [hget_cons,if_neg (by omega)]; exact hxV _ _ ho) (by rw [hlen]; exact hil)
   have hset:(rowVs l.length ns ++ List.replicate (Tn - i) (Value.slice none 0 0)).set i (Value.slice (some ⟨N + 1,0,some 0⟩) l.length 0)=rowVs l.length (ns ++ [N + 1]) ++ List.replicate (Tn - (i + 1)) (Value.slice none 0 0):=by
     rw [List.set_append_right _ _ (by rw [List.length_map]; omega),List.length_map,hns,Nat.sub_self,show Tn - i=(Tn - (i + 1)) + 1 by omega,List.replicate_succ,List.set_cons_zero]
     simp
   rw [hset] at hst
   have hpW:PM (N + 1 + 1) ((N + 1,.ext ((rowP ts (i:Int) w st e l).map iv) 3 1) :: V):=hpV.put rfl
   have hpZ:=hpW.set (k:=n + 5) (b:=.cells (rowVs l.length (ns ++ [N + 1]) ++ List.replicate (Tn - (i + 1)) (.slice none 0 0)) 24) rfl
   obtain ⟨Hz,hHz⟩:∃ Z,Ab.hset ((N + 1,Blk.ext ((rowP ts (i:Int) w st e l).map iv) 3 1) :: V) (n + 5) (.cells (rowVs l.length (ns ++ [N + 1]) ++ List.replicate (Tn - (i + 1)) (.slice none 0 0)) 24)=Z:=⟨_,rfl⟩
   have hzo:hget Hz (n + 5)=some (.cells (rowVs l.length (ns ++ [N + 1]) ++ List.replicate (Tn - (i + 1)) (.slice none 0 0)) 24):=by
     rw [← hHz,hget_hset,if_pos rfl,hget_cons,if_neg (by omega),hxV _ _ ho]
     rfl
   have hzg:∀ k,n + 5 ≠ k → hget Hz k=hget ((N + 1,Blk.ext ((rowP ts (i:Int) w st e l).map iv) 3 1) :: V) k:=fun k hk=>by rw [← hHz,hget_hset,if_neg hk]
   have hzs:Sub Y2 Hz:=by rw [← hHz]; exact sub_hset ((hS.trans hxV).trans hpV.sub) (hpY2.new _ (Nat.le_refl _))
   rw [hHz] at hst hpZ
   have hpZn:=hpZ.nm
   refine E.drawU mixed hr2 [7] [5,7] [1,3,5,7] (by kernel_rfl) (by simp [-cellA,-cellsA,-readA,-storeA,-flat,opMakefunc,cellA_read,hpn,hpp,htk,cN,cf,hn1,hfo,h144,hil,hst,hpZn]; rfl) ?_
   refine E.reg hr0 (by simp [hw]; rfl) ?_
   refine ⟨(i + 1,Hz,N + 1 + 1,ns ++ [N + 1]),.keep rfl rfl rfl (by simp) (Sub.refl _),⟨hil,hpZ,hzs,by dsimp only; omega,by simp [hns],hzo,fun j m hj=>?_⟩,by dsimp only; omega⟩
   dsimp only at hj ⊢
   by_cases hji:j < ns.length
   · rw [List.getElem?_append_left hji] at hj
     obtain ⟨h1,h2⟩:=hrow j m hj
     have:=hp.lt _ _ h2
     refine ⟨h1,?_⟩
     rw [hzg _ (by omega),hget_cons,if_neg (by omega)]
     exact hxV _ _ h2
   · have hj2:j=i:=by
       have:=(List.getElem?_eq_some_iff.1 hj).1
       simp at this
       omega
     subst hj2
     rw [List.getElem?_append_right (by omega),hns,Nat.sub_self] at hj
     injection hj with hj
     subst hj
     exact ⟨by omega,by rw [hzg _ (by omega),hget_cons,if_pos rfl]⟩
 · have hil':i=Tn:=by omega
   subst hil'
   refine E.cond (t:=false) (by simp) (fun h=>by cases h) (fun _=>?_)
   refine E.exit ?_
   refine E.seq (E.reg hr0 (by simp; rfl) ?_)
   refine E.ret ?_
   rw [hPE,hPL]
   refine outM.ret Hx rfl (vs:=[.slice (some ⟨n + 5,0,none⟩) i i,iv 0]) (by simp [resultsA,resultA,Tryz.results72]) ⟨.slice (some ⟨n + 5,0,none⟩) i i,rfl,hT2.trans hS,hp.nm,by dsimp only; omega,(fun h=>by cases h),fun G _ hG=>?_⟩
   rw [Nat.sub_self,List.replicate_zero,List.append_nil] at ho
   have hoG:=hG _ _ (by omega) rfl ho
   refine nest_view (ns:=ns) (c:=l.length) rfl rfl hns (by unfold panR; simp) ?_ (fun j m r hm hr=>?_) hl31 (by omega)
   · rw [cellsA_eq,hoG]
     simp only [Option.bind_some,cellsB]
     rw [if_pos (by simp [hns]),List.drop_zero,List.take_of_length_le (by simp [hns])]
   · have hj:j < i:=by have:=(List.getElem?_eq_some_iff.1 hm).1; omega
     unfold panR at hr
     rw [List.getElem?_map,List.getElem?_range hj] at hr
     injection hr with hr
     subst hr
     have hne:rowP ts (j:Int) w st e l ≠ []:=fun e'=>hln (by have:=congrArg List.length e'; unfold rowP at this; simpa using this)
     exact ⟨by unfold rowP; simp,hne,hG _ _ (by have:=(hrow j m hm).1; omega) rfl (hrow j m hm).2⟩
def Q69p (ts:List Trc) (t w win st:Int) (_:List Value) (H:Heap) (n:Nat) (v:Value) (H':Heap) (n':Nat):Prop:=v=semV ts t w win st ∧ H'=H ∧ n'=n
theorem timV_zero {W e:Int} (hW:0 ≤ W) (he:1 ≤ e):timV W e=0 ↔ W=0:=by
 unfold timV
 constructor
 · intro h
   have h2:=Int.mul_ediv_add_emod (W + e - 1) e
   have h3:=Int.emod_lt_of_pos (W + e - 1) (show 0 < e by omega)
   rw [h,Int.mul_zero] at h2
   omega
 · intro h
   subst h
   exact Int.ediv_eq_zero_of_lt (by omega) (by omega)
theorem timV_lt {W e:Int} (he:1 ≤ e) (k:Nat):(k:Int) * e < W ↔ (k:Int) < timV W e:=by
 unfold timV
 rw [Int.lt_iff_add_one_le,Int.lt_iff_add_one_le,Int.le_ediv_iff_mul_le (by omega),Int.add_mul,Int.one_mul]
 omega
def panE2 (W e:Int):Int:=firstV [whenV (decide (timV W e=0)) 12,whenV (decide (64 < timV W e)) 5]
def panL2 (ts:List Trc) (l:List Int) (w st e:Int):List (List Int):=if panE2 (widF ts).1 e=0 then panR ts l w st e (timV (widF ts).1 e).toNat else []
abbrev vs75:List Nat:=[2,3,6,7,8,9,10,11,12]
abbrev fr75 (n W o k:Nat) (at':Int):Fr:=[(2,ptA n),(3,ptA (n + 1)),(6,iv W),(8,outS o k),(9,iv at')]
theorem inf24:Tryz.prog.info? 24=some Tryz.t24:=by kernel_rfl
theorem sz24i:Tryz.t24.size=1:=by kernel_rfl
theorem by24:Tryz.t24.bytes ≤ 128:=by decide +kernel
theorem zo24:zeroOk Tryz.t24=true:=by kernel_rfl
set_option maxHeartbeats 6400000 in
set_option maxRecDepth 100000 in
theorem w75 {H:Heap} {n:Nat} {v fv:Value} {s:ByteArray} {ts:List Trc} {l:List Int} {w st e:Int} (hv:shtV H v=some (s,ts)) (hl:intV H fv=some l) (hok:OkS ts) (hso:SetOk l w st e) (hlt:∀ k b,hget H k=some b → k < n):∃ u H' n',AC Tryz.prog 75 [v,setA fv w st e] H n (.tuple #[u,iv (panE2 (widF ts).1 e)]) H' n' ∧ MadeV nestV H n H' n' u (panL2 ts l w st e):=by
 replace hv:=shtV_tidy (n:=n) hlt hv
 replace hl:intV (tidy n H) fv=some l:=listV_tidy decI_tidy hlt hl
 obtain ⟨u,rfl,ht⟩:=shtV_form hv
 obtain ⟨oa,c,rfl,hlt31,_,_⟩:=trcV_form ht
 have hpm0:PM n (tidy n H):=PM.tidy
 have hvf:∀ (z:Int) u,af (Value.tuple #[u,iv z])=af u:=fun z u=>by cases u <;> simp [af,afL]
 refine made_any (V:=nestV) (vf:=fun u=>.tuple #[u,iv (panE2 (widF ts).1 e)]) Tryz.func75 rfl (by kernel_rfl) rfl vs75 hlt (hvf _) ?_
 obtain ⟨T0,hT0⟩:∃ T,tidy n H=T:=⟨_,rfl⟩
 rw [hT0] at hv ht hl hpm0 ⊢
 obtain ⟨fa,fc,rfl,hl31,_,hfrow⟩:=intV_form hl
 have hr:=recT_ok (P:=Tryz.prog) (l:=[(81,g81),(99,g99),(94,g94),(148,g148)]) (by simp only [List.forall_mem_cons]; exact ⟨ok81,ok99,ok94,ok148,by simp⟩)
 have hr0:=recT_ok (P:=Tryz.prog) (l:=[]) (by simp)
 have hw0:=hok.w0
 have hln:l.length ≠ 0:=by have:=hso.len; omega
 obtain ⟨W,hW⟩:∃ W:Nat,(widF ts).1=W:=⟨(widF ts).1.toNat,by omega⟩
 obtain ⟨Tn,hTn⟩:∃ T:Nat,timV W e=T:=⟨(timV W e).toNat,by have:=timV_b (W:=W) (e:=e) ⟨by omega,by omega⟩ hso.evr; omega⟩
 have hTb:=timV_b (W:=W) (e:=e) ⟨by omega,by omega⟩ hso.evr
 have htz:=timV_zero (W:=W) (e:=e) (by omega) hso.evr.1
 rw [hTn] at hTb htz
 obtain ⟨PE,hPEe⟩:∃ x,panE2 (widF ts).1 e=x:=⟨_,rfl⟩
 obtain ⟨PL,hPLe⟩:∃ x,panL2 ts l w st e=x:=⟨_,rfl⟩
 have hPL:PL=if PE=0 then panR ts l w st e Tn else []:=by rw [← hPLe,← hPEe]; unfold panL2; rw [hW,hTn]; rfl
 have hPE:PE=firstV [whenV (decide (W=0)) 12,whenV (decide (64 < (Tn:Int))) 5]:=by
   rw [← hPEe,hW]
   unfold panE2
   rw [hTn,show decide ((Tn:Int)=0)=decide (W=0) by rw [decide_eq_decide,htz]; omega]
 rw [hPEe,hPLe]
 obtain ⟨X,hX⟩:∃ X,(n + 1,Blk.cells [.slice fa l.length fc,iv w,iv st,iv e] 26) :: (n,Blk.cells [.string s,.slice oa ts.length c] 103) :: T0=X:=⟨_,rfl⟩
 have hp1:PM (n + 1) ((n,Blk.cells [.string s,.slice oa ts.length c] 103) :: T0):=hpm0.put rfl
 have hpX:PM (n + 2) X:=by rw [← hX]; exact hp1.put rfl
 have hTX:Sub T0 X:=by rw [← hX]; exact hpm0.sub.trans hp1.sub
 have hb0:hget X n=some (.cells [.string s,.slice oa ts.length c] 103):=by rw [← hX,hget_cons,if_neg (by omega),hget_cons,if_pos rfl]
 have hb1:hget X (n + 1)=some (.cells [.slice fa l.length fc,iv w,iv st,iv e] 26):=by rw [← hX,hget_cons,if_pos rfl]
 have hld:=load103 hb0
 have h81:∀ m,g81 [.agg ⟨[.string s,.slice oa ts.length c]⟩] X m=some (iv W,X,m):=fun m=>by
   simp only [g81,shtV_mono hTX hv,hW]
 refine E.seq (E.reg hr0 (by simp; rfl) ?_)
 rw [hX]
 refine E.seq (E.reg hr (by simp [-loadA,hld,h81]; rfl) ?_)
 have hc26:cellsA X (n + 1) 0 4=some [.slice fa l.length fc,iv w,iv st,iv e]:=by rw [cellsA_eq,hb1]; rfl
 have h148:∀ Y m,g148 [setA (.slice fa l.length fc) w st e,iv W] Y m=some (iv Tn,Y,m):=fun Y m=>by
   simp only [g148]
   rw [if_pos ⟨⟨by omega,by omega⟩,hso.evr⟩,hTn]
 have h99:∀ (b:Bool) (x:Int) Z m,g99 [.bool b,iv x] Z m=some (iv (whenV b x),Z,m):=fun _ _ _ _=>rfl
 obtain ⟨q1,hq1⟩:∃ b,decide (W=0)=b:=⟨_,rfl⟩
 obtain ⟨q2,hq2⟩:∃ b,decide (64 < (Tn:Int))=b:=⟨_,rfl⟩
 rw [hq1,hq2] at hPE
 have hI:∀ (N:Nat) (Z:Heap) m,g94 [.slice (some ⟨N,0,none⟩) 2 2] ((N,.cells [iv (whenV q1 12),iv (whenV q2 5)] 3) :: Z) m=some (iv PE,(N,.cells [iv (whenV q1 12),iv (whenV q2 5)] 3) :: Z,m):=fun N Z m=>by
   simp [g94,intsAt,intsOf,hPE]
 have hXn:=hpX.nm
 have hXp:=hpX.pl
 have hXt:=takeNew_frz hXn
 have hXn1:=(hpX.wide (Nat.le_succ _)).nm
 have hl1:n + 1 < n + 2:=by omega
 refine E.seq (E.seq ?_)
 refine E.drawU mixed hr [5,7,8,9] [2,5,7,8,9] [2,5,7,8,9] (by kernel_rfl) (by simp [-decide_eq_true_eq,-cellA,-cellsA,-readA,cellsA_read,hq1,hq2,hXn,hXn1,hXp,hXt,hc26,h99,h148,hI]; rfl) ?_
 obtain ⟨Y,hY⟩:∃ Z,(n + 2,Blk.cells [iv (whenV q1 12),iv (whenV q2 5)] 3) :: X=Z:=⟨_,rfl⟩
 have hpY:PM (n + 3) Y:=by rw [← hY]; exact hpX.put rfl
 have hXY:Sub X Y:=by rw [← hY]; exact hpX.sub
 rw [hY]
 refine E.lead { fr:=[(2,ptA n),(3,ptA (n + 1)),(6,iv W),(7,iv PE)],sz:=68,H:=Y,n:=n + 3,marks:=[],vs:=vs75 } (.keep rfl rfl rfl (by simp) (Sub.refl _)) ?_
 refine E.seq (E.reg hr0 (by simp; rfl) ?_)
 by_cases hz:PE=0
 rotate_left
 · rw [if_neg hz] at hPL
   refine E.cond (t:=true) (by simp [hz]) (fun _=>?_) (fun h=>by cases h)
   refine E.seq (E.reg hr0 (by simp; rfl) ?_)
   refine E.ret ?_
   rw [hPL]
   exact outM.ret Y rfl (vs:=[.slice none 0 0,iv PE]) (by simp [resultsA,resultA,Tryz.results75]) ⟨.slice none 0 0,rfl,hTX.trans hXY,hpY.nm,by dsimp only; omega,fun _ G=>rfl,fun G _ _=>rfl⟩
 rw [if_pos hz] at hPL
 have hT64:Tn ≤ 64:=by
   have h3:=when_zero (by decide) (first_zero (hPE.symm.trans hz) (whenV q2 5) (by simp))
   rw [← hq2] at h3
   simp only [decide_eq_false_iff_not] at h3
   omega
 refine E.cond (t:=false) (by simp [hz]) (fun h=>by cases h) (fun _=>?_)
 refine E.skip (E.seq (E.reg hr0 (by simp; rfl) ?_))
 refine E.seq (E.seq (E.reg hr0 (by simp; rfl) ?_))
 refine E.block (E.loop ?_)
 refine EL.ind (fun x:Nat × Heap × Nat × Nat × List Nat=>{ fr:=fr75 n W x.2.2.2.1 x.1 ((x.1:Nat) * e),sz:=68,H:=x.2.1,n:=x.2.2.1,marks:=[],vs:=vs75 }) (fun x=>Tn - x.1) (fun x=>x.1 ≤ Tn ∧ PM x.2.2.1 x.2.1 ∧ Sub Y x.2.1 ∧ n + 3 ≤ x.2.2.1 ∧ n + 3 ≤ x.2.2.2.1 ∧ x.2.2.2.2.length=x.1 ∧ (x.1 ≠ 0 → hget x.2.1 x.2.2.2.1=some (.ext (rowVs l.length x.2.2.2.2) 24 1)) ∧ ∀ (j m:Nat),x.2.2.2.2[j]? = some m → n + 3 ≤ m ∧ m < x.2.2.2.1 ∧ hget x.2.1 m=some (.ext ((rowP ts (j:Int) w st e l).map iv) 3 1)) (0,Y,n + 3,n + 3,[]) (.keep rfl rfl rfl (by simp) (Sub.refl _)) ⟨Nat.zero_le _,hpY,Sub.refl _,Nat.le_refl _,Nat.le_refl _,rfl,fun h=>absurd rfl h,fun j m h=>by simp at h⟩ (fun _=>rfl) ?_
 rintro ⟨k,Hx,N,o,ns⟩ ⟨hk,hp,hS,hN,hoN,hns,ho,hrow⟩
 dsimp only at hk hp hS hN hoN hns ho hrow ⊢
 refine E.seq (E.seq (E.reg hr0 (by simp; rfl) ?_))
 have hlt':=timV_lt (W:=W) (e:=e) hso.evr.1 k
 rw [hTn] at hlt'
 by_cases hkT:k < Tn
 · have hkW:(k:Int) * e < W:=hlt'.2 (by omega)
   have hke0:0 ≤ (k:Int) * e:=Int.mul_nonneg (by omega) (by have:=hso.evr; omega)
   obtain ⟨at',hat⟩:∃ x,(k:Int) * e=x:=⟨_,rfl⟩
   rw [hat] at hkW hke0
   rw [hat]
   have hk1:((k + 1:Nat):Int) * e=at' + e:=by rw [Int.natCast_succ,Int.add_mul,Int.one_mul,hat]
   have hw:IntKind.i64.wrap (at' + e)=at' + e:=W_in (by have:=hso.evr; omega) (by have:=hso.evr; omega)
   refine E.cond (t:=true) (by simp [hkW]) (fun _=>?_) (fun h=>by cases h)
   refine E.skip (E.seq ?_)
   refine E.block (E.seq (E.reg hr0 (by simp; rfl) ?_))
   refine E.seq (E.seq (E.reg hr0 (by simp; rfl) ?_))
   refine E.block (E.loop ?_)
   have hHlt:=hp.lt
   refine EL.ind (fun x:Nat × Heap × Nat × Nat=>{ fr:=fr75 n W o k at' ++ [(10,outS x.2.2.2 x.1),(11,iv x.1)],sz:=68,H:=x.2.1,n:=x.2.2.1,marks:=[],vs:=vs75 }) (fun x=>l.length - x.1) (fun x=>x.1 ≤ l.length ∧ GL Hx N 3 1 ((rowP ts (k:Int) w st e (l.take x.1)).map iv) x.1 x.2.1 x.2.2.1 x.2.2.2) (0,Hx,N,N) (.keep rfl rfl rfl (by simp) (Sub.refl _)) ⟨Nat.zero_le _,by simpa [rowP] using GL.start (t:=3) (sz:=1) (Sub.refl Hx) hp.nm (Nat.le_refl N) hp.pl⟩ (fun _=>rfl) ?_
   rintro ⟨i,Hy,M,q⟩ ⟨hi,hG⟩
   dsimp only at hi hG ⊢
   have hwi:IntKind.i64.wrap ((i:Int) + 1)=(i:Int) + 1:=W_in (by omega) (by omega)
   have hXy:Sub X Hy:=hXY.trans (hS.trans hG.sub)
   have cf:cellA Hy (n + 1) 0=some (.slice fa l.length fc):=by rw [cellA_eq,hXy _ _ hb1]; rfl
   refine E.seq (E.seq (E.reg hr0 (by simp [-cellA,cf]; rfl) ?_))
   by_cases hil:i < l.length
   · refine E.cond (t:=true) (by simp [hil]) (fun _=>?_) (fun h=>by cases h)
     refine E.skip (E.seq ?_)
     refine E.block (E.seq ?_)
     obtain ⟨ad,rfl,hfa,hca⟩:=hfrow i hil
     have hTy:Sub T0 Hy:=hTX.trans hXy
     have hcy:=hTy.cell hca
     have hvi:=hso.vel _ (List.getElem_mem hil)
     have htk:l.take (i + 1)=l.take i ++ [l[i]]:=List.take_succ_eq_append_getElem hil
     obtain ⟨x,hx⟩:∃ x,l[i]=x:=⟨_,rfl⟩
     rw [hx] at hcy hvi htk
     have hpy:PM M Hy:=⟨hG.nm,hG.pl⟩
     have hsem:=semV_P ts at' x w st
     have hsb:=semP_b hok (t:=at') (w:=x) (st:=st) hso.win ⟨by omega,by omega⟩
     have hper:perV ts at' x w st=1024 * (semP ts at' x w st).1 / (semP ts at' x w st).2:=rfl
     obtain ⟨a1,ha1⟩:∃ y,(semP ts at' x w st).1=y:=⟨_,rfl⟩
     obtain ⟨b1,hb1'⟩:∃ y,(semP ts at' x w st).2=y:=⟨_,rfl⟩
     rw [ha1,hb1'] at hsem hsb hper
     have h69:gEx Tryz.prog 69 (Q69p ts at' x w st) [.agg ⟨[.string s,.slice oa ts.length c]⟩,iv at',iv x,iv w,iv st] (frzH Hy) M=some (.agg ⟨[iv a1,iv b1]⟩,frzH Hy,M):=by
       have h1:=w69 (H:=frzH Hy) (n:=M) (v:=.agg ⟨[.string s,.slice oa ts.length c]⟩) (s:=s) (by rw [shtV_frz]; exact shtV_mono hTy hv) hok (t:=at') (w:=x) (win:=w) (st:=st) ⟨by omega,by omega⟩ hvi hso.win hso.str
       obtain ⟨v',H',n',k1,rfl,rfl,rfl⟩:=gEx_at (Q:=Q69p ts at' x w st) ⟨_,_,_,h1,rfl,rfl,rfl⟩
       rw [← hsem]
       exact k1
     have hr2:=recT_ok (P:=Tryz.prog) (l:=[(69,gEx Tryz.prog 69 (Q69p ts at' x w st))]) (by simp only [List.forall_mem_cons]; exact ⟨gEx_ok,by simp⟩)
     have cs0:cellsA Hy n 0 2=some [.string s,.slice oa ts.length c]:=by rw [cellsA_eq,hXy _ _ hb0]; rfl
     have c1:cellA Hy (n + 1) 1=some (iv w):=by rw [cellA_eq,hXy _ _ hb1]; rfl
     have c2:cellA Hy (n + 1) 2=some (iv st):=by rw [cellA_eq,hXy _ _ hb1]; rfl
     have hpyn:=hpy.nm
     have hpyp:=hpy.pl
     have hpyt:=takeNew_frz hpyn
     have hpyn1:=(hpy.wide (Nat.le_succ _)).nm
     have m1:n < M:=by have:=hG.big; omega
     have m2:n + 1 < M:=by have:=hG.big; omega
     have m3:=lt_cell hpyn hcy
     have hst:storeA ((M,.cells [iv 0,iv 0] 96) :: Hy) M 0 [iv a1,iv b1]=some ((M,.cells [iv a1,iv b1] 96) :: Hy):=store_fresh rfl
     refine E.drawU mixed hr2 [13] [11,12,13] [0,3,6,8,10,11,13] (by kernel_rfl) (by simp [-cellA,-cellsA,-readA,-storeA,-flat,cellA_read,cellsA_read,handA_nn,hpyn,hpyn1,hpyp,hpyt,cs0,cf,c1,c2,hcy,hil,hfa,m1,m2,m3,h69,hst]; rfl) ?_
     have hGs:=hG.skip hHlt (.cells [iv a1,iv b1] 96) rfl
     obtain ⟨V,hV⟩:∃ Z,(M,Blk.cells [iv a1,iv b1] 96) :: Hy=Z:=⟨_,rfl⟩
     have hVM:hget V M=some (.cells [iv a1,iv b1] 96):=by rw [← hV,hget_cons,if_pos rfl]
     rw [hV] at hGs ⊢
     have d0:cellA V M 0=some (iv a1):=by rw [cellA_eq,hVM]; rfl
     have d1:cellA V M 1=some (iv b1):=by rw [cellA_eq,hVM]; rfl
     have e0:loadA Tryz.prog 3 V (.pointer (some ⟨M,0,none⟩))=some (iv a1):=by simp [-cellA,d0]
     have e1:loadA Tryz.prog 3 V (.pointer (some ⟨M,1,none⟩))=some (iv b1):=by simp [-cellA,d1]
     have hwx:IntKind.i64.wrap (1024 * a1)=1024 * a1:=W_in (by omega) (by omega)
     have hq:(1024 * a1).tdiv b1=1024 * a1 / b1:=Int.tdiv_eq_ediv_of_nonneg (by omega)
     have hqb:0 ≤ 1024 * a1 / b1 ∧ 1024 * a1 / b1 ≤ 1024 * a1:=⟨Int.ediv_nonneg (by omega) (by omega),Int.ediv_le_self _ (by omega)⟩
     have hwq:IntKind.i64.wrap (1024 * a1 / b1)=1024 * a1 / b1:=W_in (by omega) (by omega)
     have hb0':b1 ≠ 0:=by omega
     obtain ⟨y,hy⟩:∃ y,1024 * a1 / b1=y:=⟨_,rfl⟩
     rw [hy] at hq hwq hper
     have hsn:(rowP ts (k:Int) w st e (l.take i)).map iv ++ [iv y]=(rowP ts (k:Int) w st e (l.take (i + 1))).map iv:=by
       rw [htk]
       unfold rowP
       rw [List.map_append,List.map_append,List.map_cons,List.map_nil,hat,hper]
       rfl
     obtain ⟨Hz,happ,hGz⟩:=hGs.app (P:=Tryz.prog) (st:=24) (i:=Tryz.t3) (new:=[iv y]) hHlt Tryz.underlying24 inf3 sz3i zo3 by3 (by omega) rfl (by omega) rfl rfl
     rw [hsn] at hGz
     refine E.reg hr0 (by simp [-loadA,-builtinA,e0,e1,hwx,bin_quo hb0',hq,hwq,happ]; rfl) ?_
     refine E.reg hr0 (by simp [hwi]; rfl) ?_
     exact ⟨(i + 1,Hz,M + 1 + 1 + 1,M + 1 + 1),.keep rfl rfl rfl (by simp) (Sub.refl _),⟨hil,hGz⟩,by dsimp only; omega⟩
   · have hil':i=l.length:=by omega
     subst hil'
     refine E.cond (t:=false) (by simp) (fun h=>by cases h) (fun _=>?_)
     refine E.exit ?_
     rw [List.take_length] at hG
     obtain ⟨hq1',hq2'⟩:=hG.out hln
     have hqN:=hG.low
     have hMb:=hG.big
     have hpy:PM M Hy:=⟨hG.nm,hG.pl⟩
     rw [outS_ne hln]
     have hSy:Sub Y Hy:=hS.trans hG.sub
     obtain ⟨X2,hX2⟩:∃ Z,(M,Blk.cells [Value.slice (some ⟨q,0,some 0⟩) l.length 0] 24) :: Hy=Z:=⟨_,rfl⟩
     have hpX2:PM (M + 1) X2:=by rw [← hX2]; exact hpy.put rfl
     have hyX2:Sub Hy X2:=by rw [← hX2]; exact hpy.sub
     have hap:=app_at (P:=Tryz.prog) (st:=38) (t:=24) (i:=Tryz.t24) (X:=X2) (N:=M) (o:=o) (k:=k) (sz:=1) (cs:=rowVs l.length ns) (new:=[Value.slice (some ⟨q,0,some 0⟩) l.length 0]) Tryz.underlying38 inf24 sz24i zo24 by24 (by omega) (by rw [← hX2,hget_cons,if_pos rfl]) (by simp [hns]) rfl (by decide) rfl (fun h0=>hyX2 _ _ (hG.sub _ _ (ho h0)))
     obtain ⟨X3,hX3⟩:∃ Z,(if k=0 then X2 else hdel X2 o)=Z:=⟨_,rfl⟩
     have hpX3:PM (M + 1) X3:=by
       rw [← hX3]
       split
       · exact hpX2
       · exact ⟨namesOk_hdel hpX2.nm,plainH_hdel hpX2.pl⟩
     have hYX3:Sub Y X3:=by
       rw [← hX3]
       split
       · exact hSy.trans hyX2
       · exact sub_hdel (hSy.trans hyX2) (hpY.new _ hoN)
     have hx3:∀ m,m ≠ o ∨ k=0 → hget X3 m=hget X2 m:=fun m hm=>by
       rw [← hX3]
       split
       · rfl
       · rename_i h0
         rw [hget_hdel,if_neg]
         rcases hm with h | h
         · exact h
         · exact absurd h h0
     rw [hX3] at hap
     obtain ⟨Z,hZ⟩:∃ Z,(M + 1,Blk.ext (rowVs l.length ns ++ [Value.slice (some ⟨q,0,some 0⟩) l.length 0]) 24 1) :: X3=Z:=⟨_,rfl⟩
     have hpZ:PM (M + 1 + 1) Z:=by rw [← hZ]; exact hpX3.put rfl
     have hX3Z:Sub X3 Z:=by rw [← hZ]; exact hpX3.sub
     have hZo:hget Z (M + 1)=some (.ext (rowVs l.length (ns ++ [q])) 24 1):=by rw [← hZ,hget_cons,if_pos rfl]; simp
     rw [hZ,← hX2,outS_ne (Nat.succ_ne_zero _)] at hap
     refine E.reg hr0 (by simp [-builtinA,hap]; rfl) ?_
     have c3:cellA Z (n + 1) 3=some (iv e):=by rw [cellA_eq,(hXY.trans (hYX3.trans hX3Z)) _ _ hb1]; rfl
     refine E.reg hr0 (by simp [-cellA,c3,hw]; rfl) ?_
     refine ⟨(k + 1,Z,M + 1 + 1,M + 1,ns ++ [q]),.keep rfl rfl rfl (by simp [show ((k:Int) + 1) * e=at' + e by rw [Int.add_mul,Int.one_mul,hat],outS_ne (Nat.succ_ne_zero k)]) (Sub.refl _),⟨by omega,hpZ,hYX3.trans hX3Z,by dsimp only; omega,by dsimp only; omega,by simp [hns],fun _=>hZo,fun j m hj=>?_⟩,by dsimp only; omega⟩
     dsimp only at hj ⊢
     by_cases hji:j < ns.length
     · rw [List.getElem?_append_left hji] at hj
       obtain ⟨h1,h2,h3⟩:=hrow j m hj
       have:=hp.lt _ _ h3
       refine ⟨h1,by omega,?_⟩
       rw [← hZ,hget_cons,if_neg (by omega),hx3 _ (.inl (by omega))]
       exact hyX2 _ _ (hG.sub _ _ h3)
     · have hj2:j=k:=by
         have:=(List.getElem?_eq_some_iff.1 hj).1
         simp at this
         omega
       subst hj2
       rw [List.getElem?_append_right (by omega),hns,Nat.sub_self] at hj
       injection hj with hj
       subst hj
       refine ⟨by omega,by omega,?_⟩
       have hqo:q ≠ o ∨ j=0:=by
         by_cases h0:j=0
         · exact .inr h0
         · have:=hp.lt _ _ (ho h0)
           exact .inl (by omega)
       rw [← hZ,hget_cons,if_neg (by omega),hx3 _ hqo]
       exact hyX2 _ _ hq1'
 · have hkT':k=Tn:=by omega
   subst hkT'
   have hkW:¬ (k:Int) * e < W:=fun h=>by have:=hlt'.1 h; omega
   refine E.cond (t:=false) (by simp; omega) (fun h=>by cases h) (fun _=>?_)
   refine E.exit ?_
   refine E.seq (E.reg hr0 (by simp; rfl) ?_)
   refine E.ret ?_
   rw [hz,hPL]
   refine outM.ret Hx rfl (vs:=[outS o k,iv 0]) (by simp [resultsA,resultA,Tryz.results75]) ⟨outS o k,rfl,hTX.trans (hXY.trans hS),hp.nm,by dsimp only; omega,fun h G=>?_,fun G _ hG=>?_⟩
   · by_cases hk0:k=0
     · subst hk0; rfl
     · rw [outS_ne hk0] at h; cases h
   · by_cases hk0:k=0
     · subst hk0; rfl
     · rw [outS_ne hk0]
       have hoG:=hG _ _ (by omega) rfl (ho hk0)
       refine nest_view (ns:=ns) (c:=l.length) rfl rfl hns (by unfold panR; simp) ?_ (fun j m r hm hr=>?_) hl31 (by omega)
       · rw [cellsA_eq,hoG]
         simp only [Option.bind_some,cellsB]
         rw [if_pos (by simp [hns]),List.drop_zero,List.take_of_length_le (by simp [hns])]
       · have hj:j < k:=by have:=(List.getElem?_eq_some_iff.1 hm).1; omega
         unfold panR at hr
         rw [List.getElem?_map,List.getElem?_range hj] at hr
         injection hr with hr
         subst hr
         have hne:rowP ts (j:Int) w st e l ≠ []:=fun e'=>hln (by have:=congrArg List.length e'; unfold rowP at this; simpa using this)
         exact ⟨by unfold rowP; simp,hne,hG _ _ (by have:=(hrow j m hm).1; omega) rfl (hrow j m hm).2.2⟩
noncomputable def asg73:Code:=match rfOf (bodyOf' Tryz.f73) with
 | some x=>x.1
 | none=>.skip
noncomputable def bdy73:Code:=match rfOf (bodyOf' Tryz.f73) with
 | some x=>x.2
 | none=>.skip
abbrev vs73:List Nat:=[2,4,8,9,10,11,12,13,14,15,17,48,49]
abbrev fr73 (n N:Nat) (rv':Value) (o k W:Nat):Fr:=[(67,fn169 (N + 2)),(2,rv'),(4,ptA (n + 1)),(8,ptA (n + 2)),(12,outS o k),(13,iv k),(14,ptA N),(15,ptA (N + 1)),(48,iv W),(49,iv k)]
noncomputable abbrev lb73 (fr:Fr) (N:Nat) (ls:LoopState) (pe:Option Code):Blk:=.loop ls pe fr 85 vs73 #[68,69] asg73 bdy73 (N + 6)
noncomputable abbrev fs73 (fr:Fr) (N:Nat) (ls:LoopState) (pe:Option Code) (m s:Int):List (Nat × Blk):=[(N + 6,.defd),(N + 7,lb73 fr N ls pe),(N,.cells [iv m] 3),(N + 1,.cells [iv s] 3)]
set_option maxHeartbeats 1600000 in
set_option maxRecDepth 100000 in
theorem yield73 {B : Heap} {fr : Fr} {N0 N : Nat} {m s x i : Int} {cs : List Value} {Hx : Heap} (hfr : lk fr 14 = some (ptA N0) ∧ lk fr 15 = some (ptA (N0 + 1))) (hI : Kp B (N0 + 8) (fs73 fr N0 .ready none m s) Hx N) (hm : IntKind.i64.wrap (m + 1) = m + 1) (hs : IntKind.i64.wrap (s + x) = s + x) :
   ∃ r b H' N',RecOk Tryz.prog r 0 ∧ yieldF r (N0 + 7) [iv i,iv x] ((N,.cells cs 159) :: Hx) (N + 1)=some (.bool b,H',N') ∧ (b=true ∧ Kp B (N0 + 8) (fs73 fr N0 .ready none (m + 1) (s + x)) H' N'):=by
 have hr0:=recT_ok (P:=Tryz.prog) (l:=[]) (by simp)
 have hS1:=hI.skip (.cells cs 159)
 obtain ⟨f1,f2⟩:=hfr
 refine (yieldF_ex (K:=fun b H' N'=>b=true ∧ Kp B (N0 + 8) (fs73 fr N0 .ready none (m + 1) (s + x)) H' N') (hS1.at' 1 _ rfl) rfl (fun c h=>by cases h) (fun c h=>by cases h) ?_)
 refine E.lead { fr:=[(69,iv x),(14,ptA N0),(15,ptA (N0 + 1))],sz:=85,H:=(N,.cells cs 159) :: Hx,n:=N + 1,marks:=[],vs:=vs73 } (.keep rfl rfl rfl (by simp [f1,f2]) (Sub.refl _)) ?_
 refine E.reg hr0 (by simp; rfl) ?_
 refine ⟨rfl,hS1.at' 1 _ rfl,?_⟩
 have hY:=hS1.put 1 rfl (lb73 fr N0 .busy none)
 obtain ⟨Y,hYe⟩:∃ Y,hset ((N,Blk.cells cs 159) :: Hx) (N0 + 7) (lb73 fr N0 .busy none)=Y:=⟨_,rfl⟩
 rw [hYe] at hY ⊢
 have c1:cellA Y N0 0=some (iv m):=hY.cell 2 rfl 0
 have s1:=hY.store 2 (v:=iv (m + 1)) rfl
 have hY2:=hY.put 2 rfl (.cells [iv (m + 1)] 3)
 obtain ⟨Y2,hY2e⟩:∃ Y2,hset Y N0 (.cells [iv (m + 1)] 3)=Y2:=⟨_,rfl⟩
 rw [hY2e] at hY2 s1
 have c2:cellA Y2 (N0 + 1) 0=some (iv s):=hY2.cell 3 rfl 0
 have s2:=hY2.store 3 (v:=iv (s + x)) rfl
 have hY3:=hY2.put 3 rfl (.cells [iv (s + x)] 3)
 refine E.block (E.seq (E.reg hr0 (by simp [-cellA,-storeA,c1,hm,s1]; rfl) ?_))
 refine E.reg hr0 (by simp [-cellA,-storeA,c2,hs,s2]; rfl) ?_
 exact ⟨hY3.at' 1 _ rfl,.inl ⟨rfl,rfl,hY3.put 1 rfl (lb73 fr N0 .ready none)⟩⟩
def velA (l rl:List Int) (e:Int) (t:Nat):Int:=l.getD (rl.getD ((t:Int) / e).toNat 0).toNat 0
def stkB (ts:List Trc) (l rl:List Int) (st e:Int) (t:Nat):Nat:=sampB (flrV (sumI (smpN ts t (velA l rl e t)) (livA ts t (velA l rl e t) st)) (max 1 ((livA ts t (velA l rl e t) st).length:Nat)))
def stkL (ts:List Trc) (l rl:List Int) (st e:Int) (k:Nat):List Nat:=(List.range k).map (stkB ts l rl st e)
theorem stkL_succ {ts:List Trc} {l rl:List Int} {st e:Int} {k:Nat}:stkL ts l rl st e (k + 1)=stkL ts l rl st e k ++ [stkB ts l rl st e k]:=by
 unfold stkL
 rw [List.range_succ,List.map_append]
 rfl
theorem stkL_len {ts:List Trc} {l rl:List Int} {st e:Int} {k:Nat}:(stkL ts l rl st e k).length=k:=by
 unfold stkL; simp
def rowE (l rl:List Int) (W e:Int):Int:=firstV [whenV (decide ((rl.length:Int) ≠ timV W e)) 2,whenV (rl.any (badR l.length)) 10]
def stkE (s:ByteArray) (ts:List Trc) (l rl:List Int) (w st e:Int):Int:=if firstV [shtE s ts,setE l w st e]=0 then rowE l rl (widE s ts) e else firstV [shtE s ts,setE l w st e]
def stkR (s:ByteArray) (ts:List Trc) (l rl:List Int) (w st e:Int):List Nat:=if stkE s ts l rl w st e=0 then stkL ts l rl st e (widN ts) else []
theorem velA_at {l rl : List Int} {W e : Int} {t : Nat} (_hW : 0 ≤ W ∧ W ≤ 1024) (he : 1 ≤ e ∧ e ≤ 1024) (hrl : (rl.length : Int) = timV W e) (hb : rl.any (badR l.length) = false) (ht : (t : Int) < W) :
   ∃ (h1:((t:Int) / e).toNat < rl.length) (h2:(rl[((t:Int) / e).toNat]).toNat < l.length),0 ≤ rl[((t:Int) / e).toNat] ∧ velA l rl e t=l[(rl[((t:Int) / e).toNat]).toNat]:=by
 have h0:0 ≤ (t:Int) / e:=Int.ediv_nonneg (by omega) (by omega)
 have h1:((t:Int) / e).toNat < rl.length:=by
   have h2:(t:Int) / e * e ≤ t:=Int.ediv_mul_le _ (by omega)
   have h3:=(timV_lt (W:=W) (e:=e) he.1 ((t:Int) / e).toNat).1 (by rw [Int.toNat_of_nonneg h0]; omega)
   omega
 have h4:badR l.length rl[((t:Int) / e).toNat]=false:=by
   rw [List.any_eq_false] at hb
   simpa using hb _ (List.getElem_mem h1)
 unfold badR at h4
 simp only [Bool.or_eq_false_iff,decide_eq_false_iff_not] at h4
 have h5:(rl[((t:Int) / e).toNat]).toNat < l.length:=by omega
 refine ⟨h1,h5,by omega,?_⟩
 unfold velA
 rw [List.getD_eq_getElem?_getD,List.getD_eq_getElem?_getD,List.getElem?_eq_getElem h1,Option.getD_some,List.getElem?_eq_getElem h5,Option.getD_some]
theorem velA_ix {l rl : List Int} {W e : Int} {t : Nat} (hW : 0 ≤ W ∧ W ≤ 1024) (he : 1 ≤ e ∧ e ≤ 1024) (hrl : (rl.length : Int) = timV W e) (hb : rl.any (badR l.length) = false) (ht : (t : Int) < W) :
   ∃ (qi ri:Nat) (hq:qi < rl.length) (hr:ri < l.length),(t:Int) / e=qi ∧ rl[qi]=(ri:Int) ∧ l[ri]=velA l rl e t:=by
 obtain ⟨h1,h2,h3,h4⟩:=velA_at hW he hrl hb ht
 have h0:0 ≤ (t:Int) / e:=Int.ediv_nonneg (by omega) (by omega)
 exact ⟨_,_,h1,h2,by omega,by omega,h4.symm⟩
theorem inf145':Tryz.prog.info? 145=some Tryz.t145:=by kernel_rfl
theorem sz145i:Tryz.t145.size=1:=by kernel_rfl
theorem by145:Tryz.t145.bytes ≤ 128:=by decide +kernel
theorem zo145:zeroOk Tryz.t145=true:=by kernel_rfl
theorem rea_view {G:Heap} {o:Nat} {bs:List Nat} (h:bs ≠ [] → hget G o=some (.ext (bs.map rv) 145 1)) (hl:bs.length < 2147483648):reaV G (outS o bs.length)=some bs:=by
 by_cases h0:bs=[]
 · subst h0; rfl
 · rw [outS_ne fun e=>h0 (List.length_eq_zero_iff.1 e)]
   refine listV_mk (cs:=bs.map rv) rfl ?_ (by simp) hl rv_dec
   rw [cellsA_eq,h h0]
   simp only [Option.bind_some,cellsB]
   rw [if_pos (by simp),List.drop_zero,List.take_of_length_le (by simp)]
set_option maxHeartbeats 12800000 in
set_option maxRecDepth 100000 in
theorem w73 {H:Heap} {n:Nat} {v fv rv':Value} {s:ByteArray} {ts:List Trc} {l rl:List Int} {w st e:Int} (hR:dR H) (hv:shtV H v=some (s,ts)) (hl:intsW H fv=some l) (hrv:intV H rv'=some rl) (hlt:∀ k b,hget H k=some b → k < n) (h9:9 ≤ n):∃ u H' n',AC Tryz.prog 73 [v,setA fv w st e,rv'] H n (.tuple #[u,iv (stkE s ts l rl w st e)]) H' n' ∧ MadeV reaV H n H' n' u (stkR s ts l rl w st e):=by
 replace hv:=shtV_tidy (n:=n) hlt hv
 have hR':hget (tidy n H) 1=some (.inp 0 rangesV):=hget_tidy.2 ⟨hR,by omega,rfl⟩
 replace hR:dR (tidy n H):=hR'
 obtain ⟨u,rfl,ht⟩:=shtV_form hv
 obtain ⟨oa,c,rfl,hlt31,_,_⟩:=trcV_form ht
 replace hl:intsW (tidy n H) fv=some l:=by
   unfold intsW at hl ⊢
   split at hl
   · exact hl
   · unfold intsAt at hl ⊢
     split at hl
     · rename_i hf
       rw [if_pos hf]
       rw [Option.bind_eq_some_iff] at hl ⊢
       obtain ⟨cs,h1,h2⟩:=hl
       exact ⟨cs,cellsA_tidy hlt h1,h2⟩
     · cases hl
   · cases hl
 replace hrv:intV (tidy n H) rv'=some rl:=listV_tidy decI_tidy hlt hrv
 have hpm0:PM n (tidy n H):=PM.tidy
 refine made_any (V:=reaV) (vf:=fun u=>.tuple #[u,iv (stkE s ts l rl w st e)]) Tryz.func73 rfl (by kernel_rfl) rfl vs73 hlt (fun u=>by cases u <;> simp [af,afL]) ?_
 obtain ⟨T0,hT0⟩:∃ T,tidy n H=T:=⟨_,rfl⟩
 rw [hT0] at hv hR hR' ht hl hrv hpm0 ⊢
 have hlI:=W_intV hl
 obtain ⟨fa,fc,rfl,hl31,_,hfrow⟩:=intV_form hlI
 obtain ⟨ra,rc,rfl,hrl31,_,hrrow⟩:=intV_form hrv
 have hr:=recT_ok (P:=Tryz.prog) (l:=[(131,g131),(20,g20v),(90,g90),(143,g143),(96,g96),(146,g146)]) (by simp only [List.forall_mem_cons]; exact ⟨ok131,ok20v,ok90,ok143,ok96,ok146,by simp⟩)
 have hr0:=recT_ok (P:=Tryz.prog) (l:=[]) (by simp)
 obtain ⟨X,hX⟩:∃ X,(n + 1,Blk.cells [.slice fa l.length fc,iv w,iv st,iv e] 34) :: (n,Blk.cells [.string s,.slice oa ts.length c] 110) :: T0=X:=⟨_,rfl⟩
 have hp1:PM (n + 1) ((n,Blk.cells [.string s,.slice oa ts.length c] 110) :: T0):=hpm0.put rfl
 have hpX:PM (n + 2) X:=by rw [← hX]; exact hp1.put rfl
 have hTX:Sub T0 X:=by rw [← hX]; exact hpm0.sub.trans hp1.sub
 have hb0:hget X n=some (.cells [.string s,.slice oa ts.length c] 110):=by rw [← hX,hget_cons,if_neg (by omega),hget_cons,if_pos rfl]
 have hb1:hget X (n + 1)=some (.cells [.slice fa l.length fc,iv w,iv st,iv e] 34):=by rw [← hX,hget_cons,if_pos rfl]
 have hld:=load110 hb0
 obtain ⟨WI,hWI⟩:∃ W,widE s ts=W:=⟨_,rfl⟩
 obtain ⟨e0,he0⟩:∃ e,shtE s ts=e:=⟨_,rfl⟩
 obtain ⟨e1,he1⟩:∃ x,setE l w st e=x:=⟨_,rfl⟩
 have h131:∀ m,g131 [.agg ⟨[.string s,.slice oa ts.length c]⟩] X m=some (.tuple #[.agg ⟨[.string s,.slice oa ts.length c,iv WI]⟩,iv e0],X,m):=fun m=>by
   have h1:=shtV_mono hTX hv
   have h2:dR X:=hTX _ _ hR
   simp only [g131,h1,h2,and_self,if_true,hWI,he0]
 have hPE:stkE s ts l rl w st e=if firstV [e0,e1]=0 then rowE l rl WI e else firstV [e0,e1]:=by rw [← he0,← he1,← hWI]; rfl
 obtain ⟨PE,hPEe⟩:∃ x,stkE s ts l rl w st e=x:=⟨_,rfl⟩
 have hPL:stkR s ts l rl w st e=if PE=0 then stkL ts l rl st e (widN ts) else []:=by rw [← hPEe]; rfl
 obtain ⟨PL,hPLe⟩:∃ x,stkR s ts l rl w st e=x:=⟨_,rfl⟩
 rw [hPEe] at hPE
 rw [hPLe] at hPL
 rw [hPEe,hPLe]
 refine E.seq (E.reg hr0 (by simp; rfl) ?_)
 rw [hX]
 refine E.seq ?_
 have hst1:storeA ((n + 2,.cells [.string ⟨#[]⟩,.slice none 0 0,iv 0] 196) :: X) (n + 2) 0 [.string s,.slice oa ts.length c,iv WI]=some ((n + 2,.cells [.string s,.slice oa ts.length c,iv WI] 196) :: X):=store_fresh rfl
 refine E.reg hr (by simp [-loadA,-storeA,hld,h131,hst1]; rfl) ?_
 obtain ⟨Y,hY⟩:∃ Y,(n + 2,Blk.cells [.string s,.slice oa ts.length c,iv WI] 196) :: X=Y:=⟨_,rfl⟩
 have hpY:PM (n + 3) Y:=by rw [← hY]; exact hpX.put rfl
 have hXY:Sub X Y:=by rw [← hY]; exact hpX.sub
 have hb2:hget Y (n + 2)=some (.cells [.string s,.slice oa ts.length c,iv WI] 196):=by rw [← hY,hget_cons,if_pos rfl]
 rw [hY]
 have hb1y:=hXY _ _ hb1
 have hc34:cellsA Y (n + 1) 0 4=some [.slice fa l.length fc,iv w,iv st,iv e]:=by rw [cellsA_eq,hb1y]; rfl
 have hl34:loadA Tryz.prog 34 Y (.pointer (some ⟨n + 1,0,none⟩))=some (setA (.slice fa l.length fc) w st e):=by
   simp only [loadA,ag34,sz34,hc34,Option.map_some]
 have h20:∀ m,g20v [setA (.slice fa l.length fc) w st e] Y m=some (iv e1,Y,m):=fun m=>by
   have:=intsW_mono (hTX.trans hXY) hl
   simp only [g20v,this,Option.map_some,he1]
 have hI2:∀ (N:Nat) (Z:Heap) m (a b:Int),g90 [.slice (some ⟨N,0,none⟩) 2 2] ((N,.cells [iv a,iv b] 29) :: Z) m=some (iv (firstV [a,b]),(N,.cells [iv a,iv b] 29) :: Z,m):=fun N Z m a b=>by
   simp [g90,intsAt,intsOf]
 refine E.seq (E.seq (E.reg hr (by simp [-loadA,hl34,h20,hI2]; rfl) ?_))
 obtain ⟨Y1,hY1⟩:∃ Z,(n + 3,Blk.cells [iv e0,iv e1] 29) :: Y=Z:=⟨_,rfl⟩
 have hpY1:PM (n + 4) Y1:=by rw [← hY1]; exact hpY.put rfl
 have hYY1:Sub Y Y1:=by rw [← hY1]; exact hpY.sub
 obtain ⟨e8,he8⟩:∃ x,firstV [e0,e1]=x:=⟨_,rfl⟩
 rw [he8] at hPE
 rw [hY1,he8]
 refine E.lead { fr:=[(2,.slice ra rl.length rc),(4,ptA (n + 1)),(8,ptA (n + 2)),(10,iv e8)],sz:=85,H:=Y1,n:=n + 4,marks:=[],vs:=vs73 } (.keep rfl rfl rfl (by simp) (Sub.refl _)) ?_
 refine E.seq (E.reg hr0 (by simp; rfl) ?_)
 by_cases hz:e8=0
 rotate_left
 · rw [if_neg hz] at hPE
   rw [if_neg (by rw [hPE]; exact hz)] at hPL
   refine E.cond (t:=true) (by simp [hz]) (fun _=>?_) (fun h=>by cases h)
   refine E.seq (E.reg hr0 (by simp; rfl) ?_)
   refine E.ret ?_
   rw [hPE,hPL]
   exact outM.ret Y1 rfl (vs:=[.slice none 0 0,iv e8]) (by simp [resultsA,resultA,Tryz.results73]) ⟨.slice none 0 0,rfl,hTX.trans (hXY.trans hYY1),hpY1.nm,by dsimp only; omega,fun _ G=>rfl,fun G _ _=>rfl⟩
 rw [if_pos hz] at hPE
 have h01:e0=0 ∧ e1=0:=by
   rw [hz] at he8
   exact ⟨first_zero he8 e0 (by simp),first_zero he8 e1 (by simp)⟩
 have hok:OkS ts:=shtE_ok (s:=s) (by rw [he0]; exact h01.1)
 have hso:SetOk l w st e:=set_ok (he1.trans h01.2)
 have hWw:WI=(widF ts).1:=by rw [← hWI]; unfold widE; rw [he0,if_pos h01.1]
 have hw0:=hok.w0
 obtain ⟨W,hWN⟩:∃ W,widN ts=W:=⟨_,rfl⟩
 have hWW:WI=(W:Int):=by rw [hWw,← hWN]; unfold widN; omega
 subst hWW
 have hW1024:W ≤ 1024:=by omega
 obtain ⟨Tn,hTn⟩:∃ T:Nat,timV W e=T:=⟨(timV W e).toNat,by have:=timV_b (W:=W) (e:=e) ⟨by omega,by omega⟩ hso.evr; omega⟩
 have hb2':=hYY1 _ _ hb2
 have hY1p:=hpY1.nm
 have hY1pl:=hpY1.pl
 have hY1t:=takeNew_frz hY1p
 have hY1n1:=(hpY1.wide (Nat.le_succ _)).nm
 have cg:cellsA Y1 (n + 2) 0 3=some [.string s,.slice oa ts.length c,iv W]:=by rw [cellsA_eq,hb2']; rfl
 have cs34:cellsA Y1 (n + 1) 0 4=some [.slice fa l.length fc,iv w,iv st,iv e]:=hYY1.cells hc34
 have c13:cellA Y1 (n + 1) 3=some (iv e):=by have:=(cellsA_at cs34).2 3 (by decide); rwa [Nat.zero_add] at this
 have h143:∀ Z m,g143 [.agg ⟨[.string s,.slice oa ts.length c,iv W]⟩,iv e] Z m=some (iv Tn,Z,m):=fun Z m=>by
   simp only [g143]
   rw [if_pos ⟨⟨by omega,by omega⟩,hso.evr⟩,hTn]
 have h96:∀ (b:Bool) (x:Int) Z m,g96 [.bool b,iv x] Z m=some (iv (whenV b x),Z,m):=fun _ _ _ _=>rfl
 have h146:∀ m,g146 [setA (.slice fa l.length fc) w st e,.slice ra rl.length rc] Y1 m=some (iv (whenV (rl.any (badR l.length)) 10),Y1,m):=fun m=>by
   have:intV Y1 (.slice ra rl.length rc)=some rl:=listV_mono decI_mono (hTX.trans (hXY.trans hYY1)) hrv
   simp only [g146,this]
 have hPE2:PE=firstV [whenV (!decide (rl.length=Tn)) 2,whenV (rl.any (badR l.length)) 10]:=by
   rw [hPE]
   unfold rowE
   rw [hTn,show decide ((rl.length:Int) ≠ (Tn:Int)) = !decide (rl.length=Tn) by rw [← decide_not,decide_eq_decide]; omega]
 obtain ⟨q1,hq1⟩:∃ b,decide (rl.length=Tn)=b:=⟨_,rfl⟩
 obtain ⟨q2,hq2⟩:∃ b,rl.any (badR l.length)=b:=⟨_,rfl⟩
 rw [hq1,hq2] at hPE2
 have hq1':decide ((rl.length:Int)=(Tn:Int))=q1:=by rw [← hq1,decide_eq_decide]; omega
 rw [hq2] at h146
 have hI3:∀ (N:Nat) (Z:Heap) m,g90 [.slice (some ⟨N,0,none⟩) 2 2] ((N,.cells [iv (whenV (!q1) 2),iv (whenV q2 10)] 29) :: Z) m=some (iv PE,(N,.cells [iv (whenV (!q1) 2),iv (whenV q2 10)] 29) :: Z,m):=fun N Z m=>by
   rw [hI2,← hPE2]
 refine E.cond (t:=false) (by simp [hz]) (fun h=>by cases h) (fun _=>?_)
 refine E.skip (E.seq ?_)
 refine E.seq ?_
 have m1:n + 2 < n + 4:=by omega
 have m2:n + 1 < n + 4:=by omega
 refine E.drawU mixed hr [10,11,12] [5,7,10,11,12] [2,4,5,7,10,11,12] (by kernel_rfl) (by simp [-decide_eq_true_eq,-cellA,-cellsA,-readA,cellA_read,cellsA_read,hY1p,hY1n1,hY1pl,hY1t,cg,cs34,c13,hq1',h143,h96,h146,hI3]; rfl) ?_
 obtain ⟨Y2,hY2⟩:∃ Z,(n + 4,Blk.cells [iv (whenV (!q1) 2),iv (whenV q2 10)] 29) :: Y1=Z:=⟨_,rfl⟩
 have hpY2:PM (n + 5) Y2:=by rw [← hY2]; exact hpY1.put rfl
 have hY12:Sub Y1 Y2:=by rw [← hY2]; exact hpY1.sub
 have hT2:Sub T0 Y2:=hTX.trans (hXY.trans (hYY1.trans hY12))
 rw [hY2]
 refine E.lead { fr:=[(2,.slice ra rl.length rc),(4,ptA (n + 1)),(8,ptA (n + 2)),(11,iv PE)],sz:=85,H:=Y2,n:=n + 5,marks:=[],vs:=vs73 } (.keep rfl rfl rfl (by simp) (Sub.refl _)) ?_
 refine E.seq (E.reg hr0 (by simp; rfl) ?_)
 by_cases hz2:PE=0
 rotate_left
 · rw [if_neg hz2] at hPL
   refine E.cond (t:=true) (by simp [hz2]) (fun _=>?_) (fun h=>by cases h)
   refine E.seq (E.reg hr0 (by simp; rfl) ?_)
   refine E.ret ?_
   rw [hPL]
   exact outM.ret Y2 rfl (vs:=[.slice none 0 0,iv PE]) (by simp [resultsA,resultA,Tryz.results73]) ⟨.slice none 0 0,rfl,hT2,hpY2.nm,by dsimp only; omega,fun _ G=>rfl,fun G _ _=>rfl⟩
 rw [if_pos hz2,hWN] at hPL
 rw [hz2] at hPE2
 have hrl:(rl.length:Int)=timV W e:=by
   have:=when_zero (by decide) (first_zero hPE2.symm (whenV (!q1) 2) (by simp))
   rw [← hq1] at this
   simp at this
   rw [hTn,this]
 have hbad:rl.any (badR l.length)=false:=by
   rw [hq2]
   exact when_zero (by decide) (first_zero hPE2.symm (whenV q2 10) (by simp))
 have hfb2:=hY12 _ _ hb2'
 have hfb1:=hY12 _ _ (hYY1 _ _ hb1y)
 have g1:cellA Y2 (n + 2) 2=some (iv W):=by rw [cellA_eq,hfb2]; rfl
 refine E.cond (t:=false) (by simp [hz2]) (fun h=>by cases h) (fun _=>?_)
 refine E.skip (E.seq (E.reg hr0 (by simp; rfl) ?_))
 refine E.seq (E.seq (E.reg hr0 (by simp [-cellA,g1]; rfl) ?_))
 refine E.block (E.loop ?_)
 have hY2n:=hpY2.nm
 refine EL.ind (fun x:Nat × Heap × Nat × Nat × List Nat=>{ fr:=[(2,.slice ra rl.length rc),(4,ptA (n + 1)),(8,ptA (n + 2)),(12,outS x.2.2.2.1 x.1),(48,iv W),(49,iv x.1)],sz:=85,H:=x.2.1,n:=x.2.2.1,marks:=x.2.2.2.2,vs:=vs73 }) (fun x=>W - x.1) (fun x=>x.1 ≤ W ∧ Sub Y2 x.2.1 ∧ namesOk x.2.2.1 x.2.1=true ∧ n + 5 ≤ x.2.2.1 ∧ n + 5 ≤ x.2.2.2.1 ∧ (x.1 ≠ 0 → hget x.2.1 x.2.2.2.1=some (.ext ((stkL ts l rl st e x.1).map rv) 145 1)) ∧ x.2.2.2.2.Nodup ∧ ∀ m ∈ x.2.2.2.2,n + 5 ≤ m ∧ hget x.2.1 m=some .defd) (0,Y2,n + 5,n + 5,[]) (.keep rfl rfl rfl (by simp) (Sub.refl _)) ⟨Nat.zero_le _,Sub.refl _,hY2n,Nat.le_refl _,Nat.le_refl _,fun h=>absurd rfl h,List.nodup_nil,fun m hm=>by cases hm⟩ (fun _=>rfl) ?_
 rintro ⟨k,Hx,N,o,ms⟩ ⟨hk,hSx,hnx,hNn,hon,ho,hnd,hms⟩
 dsimp only at hk hSx hnx hNn hon ho hnd hms ⊢
 have hw:IntKind.i64.wrap ((k:Int) + 1)=(k:Int) + 1:=W_in (by omega) (by omega)
 have hHlt:∀ k b,hget Hx k=some b → k < N:=fun k b hk=>namesOk_iff.1 hnx (k,b) (hget_mem _ _ _ hk)
 have hHn:∀ j,N ≤ j → hget Hx j=none:=fun j hj=>by
   cases hc:hget Hx j with
   | none=>rfl
   | some b=>have:=hHlt _ _ hc; omega
 refine E.seq (E.reg hr0 (by simp; rfl) ?_)
 refine E.seq ?_
 by_cases hkW:k < W
 · refine E.cond (t:=true) (by simp [hkW]) (fun _=>?_) (fun h=>by cases h)
   refine E.skip (E.seq ?_)
   refine E.block (E.seq (E.reg hr0 (by simp; rfl) ?_))
   refine E.seq (E.reg hr0 (by simp; rfl) ?_)
   obtain ⟨Z1,hZ1⟩:∃ Z,(N + 1,Blk.cells [iv 0] 3) :: (N,.cells [iv 0] 3) :: Hx=Z:=⟨_,rfl⟩
   have hZ1n:namesOk (N + 2) Z1=true:=by rw [← hZ1]; exact namesOk_put (by omega) (namesOk_put (by omega) (namesOk_mono (by omega) _ hnx))
   have hxZ1:Sub Hx Z1:=fun j b hj=>by
     have:=hHlt _ _ hj
     rw [← hZ1,hget_cons,if_neg (by omega),hget_cons,if_neg (by omega)]
     exact hj
   refine E.lead { fr:=[(2,.slice ra rl.length rc),(4,ptA (n + 1)),(8,ptA (n + 2)),(12,outS o k),(13,iv k),(14,ptA N),(15,ptA (N + 1)),(48,iv W),(49,iv k)],sz:=85,H:=Z1,n:=N + 2,marks:=ms,vs:=vs73 } (.keep rfl rfl rfl (by simp) (by rw [← hZ1]; exact Sub.refl _)) ?_
   obtain ⟨qi,ri,hq,hri,hqI,hrI,hvl⟩:=velA_ix (l:=l) (t:=k) ⟨by omega,by omega⟩ hso.evr hrl hbad (by omega)
   have hvr:=hso.vel _ (List.getElem_mem hri)
   have hTZ:Sub T0 Z1:=hT2.trans (hSx.trans hxZ1)
   obtain ⟨ra',rfl,hra1,hra2⟩:=hrrow qi hq
   obtain ⟨fa',rfl,hfa1,hfa2⟩:=hfrow ri hri
   obtain ⟨vl,hvle⟩:∃ x,velA l rl e k=x:=⟨_,rfl⟩
   rw [hvl,hvle] at hvr hfa2
   rw [hrI] at hra2
   have hra3:=hTZ.cell hra2
   have hfa3:=hTZ.cell hfa2
   have hwq:IntKind.i64.wrap (qi:Int)=(qi:Int):=W_in (by omega) (by omega)
   have hdq:(k:Int).tdiv e=(qi:Int):=by rw [Int.tdiv_eq_ediv_of_nonneg (by omega),hqI]
   have he0':e ≠ 0:=by have:=hso.evr; omega
   have z196:cellsA Z1 (n + 2) 0 3=some [.string s,.slice oa ts.length c,iv W]:=by rw [cellsA_eq,hxZ1 _ _ (hSx _ _ hfb2)]; rfl
   have z34:cellsA Z1 (n + 1) 0 4=some [.slice (some fa') l.length fc,iv w,iv st,iv e]:=by rw [cellsA_eq,hxZ1 _ _ (hSx _ _ hfb1)]; rfl
   have z0:cellA Z1 (n + 1) 0=some (.slice (some fa') l.length fc):=by have:=(cellsA_at z34).2 0 (by decide); rwa [Nat.zero_add] at this
   have z2:cellA Z1 (n + 1) 2=some (iv st):=by have:=(cellsA_at z34).2 2 (by decide); rwa [Nat.zero_add] at this
   have z3:cellA Z1 (n + 1) 3=some (iv e):=by have:=(cellsA_at z34).2 3 (by decide); rwa [Nat.zero_add] at this
   have hr3:=recT_ok (P:=Tryz.prog) (l:=[(133,g133)]) (by simp only [List.forall_mem_cons]; exact ⟨ok133,by simp⟩)
   obtain ⟨M6,hM6⟩:∃ Z,(N + 5,Blk.cells [iv st] 3) :: (N + 4,.cells [iv vl] 3) :: (N + 3,.cells [iv k] 3) :: (N + 2,.cells [.string s,.slice oa ts.length c,iv W] 196) :: Z1=Z:=⟨_,rfl⟩
   have hM6n:namesOk (N + 6) M6=true:=by rw [← hM6]; exact namesOk_put (by omega) (namesOk_put (by omega) (namesOk_put (by omega) (namesOk_put (by omega) (namesOk_mono (by omega) _ hZ1n))))
   have h133:g133 [.agg ⟨[.string s,.slice oa ts.length c,iv W]⟩,iv k,iv vl,iv st] Z1 (N + 2)=some (fn169 (N + 2),M6,N + 6):=by rw [← hM6]; rfl
   have b1:=lt_cell hZ1n hra3
   have b2:=lt_cell hZ1n hfa3
   have b3:n + 2 < N + 2:=by omega
   have b4:n + 1 < N + 2:=by omega
   refine E.seq (E.seq ?_)
   refine E.drawU mixed hr3 [15] [15] [0,3,7,10,12,14,15] (by kernel_rfl) (by simp [-cellA,-cellsA,-readA,-flat,cellA_read,cellsA_read,hZ1n,hM6n,z196,z0,z2,z3,bin_quo he0',hdq,hwq,hra1,hra3,hfa1,hfa3,hq,hri,h133,b1,b2,b3,b4]; rfl) ?_
   refine E.block ?_
   refine E.lead { fr:=fr73 n N (.slice (some ra') rl.length rc) o k W,sz:=85,H:=M6,n:=N + 6,marks:=ms,vs:=vs73 } (.keep rfl rfl rfl (by simp) (Sub.refl _)) ?_
   refine E.rangeX (x:=asg73) (y:=bdy73) rfl ent169 ?_
   obtain ⟨fr,hfr⟩:∃ fr,fr73 n N (.slice (some ra') rl.length rc) o k W=fr:=⟨_,rfl⟩
   have hfl:lk fr 14=some (ptA N) ∧ lk fr 15=some (ptA (N + 1)):=by rw [← hfr]; exact ⟨rfl,rfl⟩
   obtain ⟨B,hB⟩:∃ B,(N + 5,Blk.cells [iv st] 3) :: (N + 4,.cells [iv vl] 3) :: (N + 3,.cells [iv k] 3) :: (N + 2,.cells [.string s,.slice oa ts.length c,iv W] 196) :: Hx=B:=⟨_,rfl⟩
   have hHB:Sub Hx B:=by
     intro j b hj
     have:=hHlt _ _ hj
     rw [← hB,hget_cons,if_neg (by omega),hget_cons,if_neg (by omega),hget_cons,if_neg (by omega),hget_cons,if_neg (by omega)]
     exact hj
   have hTB:Sub T0 B:=hT2.trans (hSx.trans hHB)
   have htB:trcV B (.slice oa ts.length c)=some ts:=listV_mono decT_mono hTB ht
   have hBlt:∀ j b,hget B j=some b → j < N + 8:=fun j b hj=>by
     rw [← hB,hget_cons,hget_cons,hget_cons,hget_cons] at hj
     split at hj
     · omega
     split at hj
     · omega
     split at hj
     · omega
     split at hj
     · omega
     · have:=hHlt _ _ hj; omega
   have hBn:∀ j,N ≤ j → (j < N + 2 ∨ N + 5 < j) → hget B j=none:=fun j h1 h2=>by
     rw [← hB,hget_cons,if_neg (by omega),hget_cons,if_neg (by omega),hget_cons,if_neg (by omega),hget_cons,if_neg (by omega)]
     exact hHn j h1
   have hM0:hget M6 N=some (.cells [iv 0] 3):=by rw [← hM6,← hZ1]; simp
   have hM1:hget M6 (N + 1)=some (.cells [iv 0] 3):=by rw [← hM6,← hZ1]; simp
   have hBM:Sub B M6:=by
     intro j b hj
     rw [← hB,hget_cons,hget_cons,hget_cons,hget_cons] at hj
     rw [← hM6,hget_cons,hget_cons,hget_cons,hget_cons]
     split
     · rename_i e'; rw [if_pos e'] at hj; exact hj
     rename_i e1'; rw [if_neg e1'] at hj
     split
     · rename_i e'; rw [if_pos e'] at hj; exact hj
     rename_i e2'; rw [if_neg e2'] at hj
     split
     · rename_i e'; rw [if_pos e'] at hj; exact hj
     rename_i e3'; rw [if_neg e3'] at hj
     split
     · rename_i e'; rw [if_pos e'] at hj; exact hj
     rename_i e4'; rw [if_neg e4'] at hj
     exact hxZ1 _ _ hj
   have hMlt:∀ j b,hget M6 j=some b → j < N + 6:=fun j b hj=>namesOk_iff.1 hM6n (j,b) (hget_mem _ _ _ hj)
   let I:Nat → Heap → Nat → Prop:=fun i H N'=>Kp B (N + 8) (fs73 fr N .ready none (livL ts k vl st i).length (sumI (smpN ts k vl) (livL ts k vl st i))) H N'
   have hstart:I 0 ((N + 7,lb73 fr N .ready none) :: (N + 6,.defd) :: M6) (N + 8):=by
     have hs0:Sub B ((N + 7,lb73 fr N .ready none) :: (N + 6,.defd) :: M6):=fun j b hj=>by
       have:=hMlt _ _ (hBM _ _ hj)
       rw [hget_cons,if_neg (by omega),hget_cons,if_neg (by omega)]
       exact hBM _ _ hj
     refine ((((Kp.start hBlt hs0 (namesOk_put (by omega) (namesOk_put (by omega) (namesOk_mono (by omega) _ hM6n))) (Nat.le_refl _)).more (l:=N + 1) (c:=.cells [iv 0] 3) ?_ (by omega) (hBn _ (by omega) (by omega)) (by simp)).more (l:=N) (c:=.cells [iv 0] 3) ?_ (by omega) (hBn _ (by omega) (by omega)) (by simp)).more (l:=N + 7) (c:=lb73 fr N .ready none) (by simp) (by omega) (hBn _ (by omega) (by omega)) (by simp)).more (l:=N + 6) (c:=.defd) (by simp) (by omega) (hBn _ (by omega) (by omega)) (by simp)
     · rw [hget_cons,if_neg (by omega),hget_cons,if_neg (by omega)]; exact hM1
     · rw [hget_cons,if_neg (by omega),hget_cons,if_neg (by omega)]; exact hM0
   obtain ⟨v',H',n',hAC,hend⟩:=it169 (B:=B) (l:=N + 7) (kb:=N + 2) (k1:=N + 3) (k2:=N + 4) (k3:=N + 5) (s:=s) (t:=k) (w:=vl) (st:=st) (by rw [← hB,← hWw]; simp) (by rw [← hB]; simp) (by rw [← hB]; simp) (by rw [← hB]; simp) (hTB _ _ hR) htB hok (by omega) hvr hso.str I (fun _ _=>False) (fun i H N h=>h.sub) (fun i H N h=>h.nm)
     (fun i H N cs hi h hd=>by
       show Kp B _ (fs73 fr _ .ready none (livL ts k vl st (i + 1)).length _) _ _
       rw [livL_dead hd]; exact h.skip _)
     (fun i Hy N' cs b hi hI hlv hh hb=>by
       have hlen:=livL_len ts k vl st i
       have h64:=hok.len.2
       have hsa:=sumI_abs (f:=smpN ts k vl) (M:=16384) (livL ts k vl st i) fun x _=>smpN_abs hok k vl x
       have hx:six32 b=smpN ts k vl (i:Int):=by
         unfold smpN
         rw [Int.toNat_natCast,List.getElem?_eq_getElem hi]
         dsimp only
         rw [List.getD_eq_getElem?_getD,hb]
         rfl
       have hxa:=smpN_abs hok k vl (i:Int)
       rw [hx]
       have e1:16384 * (livL ts k vl st i).length ≤ 16384 * 64:=Nat.mul_le_mul_left _ (by omega)
       obtain ⟨r,bb,H2,N2,h1,h2,h3,h4⟩:=yield73 (cs:=cs) (i:=(i:Int)) (x:=smpN ts k vl (i:Int)) hfl hI (W_in (by omega) (by omega)) (W_in (by omega) (by omega))
       subst h3
       refine ⟨r,true,H2,N2,h1,h2,?_⟩
       rw [if_pos rfl]
       show Kp B _ (fs73 fr _ .ready none (livL ts k vl st (i + 1)).length _) _ _
       rw [livL_live hlv,sumI_snoc,List.length_append]
       exact h4)
     (H:=(N + 7,lb73 fr N .ready none) :: (N + 6,.defd) :: M6) (n:=N + 8) hstart
   rw [hfr]
   refine ⟨v',H',n',hAC,?_⟩
   rcases hend with hI | hI
   rotate_left
   · exact hI.elim
   refine .inl ⟨hI.at' 1 _ rfl,?_⟩
   have hK:=hI.put 1 rfl (lb73 fr N .exhausted none)
   have hKb:=hI.big
   show E Tryz.prog n none _ { fr:=fr,sz:=85,H:=hset H' (N + 7) (lb73 fr N .exhausted none),n:=n',marks:=(N + 6) :: ms,vs:=vs73 } _
   obtain ⟨Q,hQe⟩:∃ Y,hset H' (N + 7) (lb73 fr N .exhausted none)=Y:=⟨_,rfl⟩
   rw [hQe] at hK ⊢
   rw [← hfr]
   have c0:cellA Q N 0=_:=hK.cell 2 rfl 0
   have c1:cellA Q (N + 1) 0=_:=hK.cell 3 rfl 0
   simp only [List.getElem?_cons_zero] at c0 c1
   have hxQ:Sub Hx Q:=hHB.trans hK.sub
   obtain ⟨S1,hS1⟩:∃ x,sumI (smpN ts k vl) (livL ts k vl st ts.length)=x:=⟨_,rfl⟩
   have hLen:=livL_len ts k vl st ts.length
   have h64:=hok.len.2
   have hsa:=sumI_abs (f:=smpN ts k vl) (M:=16384) (livL ts k vl st ts.length) fun x _=>smpN_abs hok k vl x
   have hstk:stkB ts l rl st e k=sampB (flrV (sumI (smpN ts k vl) (livL ts k vl st ts.length)) (max 1 ((livL ts k vl st ts.length).length:Nat))):=by unfold stkB; rw [hvle]
   obtain ⟨c9,hc9⟩:∃ x,(livL ts k vl st ts.length).length=x:=⟨_,rfl⟩
   rw [hS1] at hsa hstk c1
   rw [hc9] at hsa hstk c0 hLen
   have e1':16384 * c9 ≤ 16384 * 64:=Nat.mul_le_mul_left _ (by omega)
   obtain ⟨mx,hmx⟩:∃ x,max (1:Int) (c9:Int)=x:=⟨_,rfl⟩
   rw [hmx] at hstk
   have hfb:=flr_b (x:=S1) (c:=mx) (by omega) (M:=1048576) (by decide) ⟨by omega,by omega⟩
   obtain ⟨y,hy⟩:∃ y,flrV S1 mx=y:=⟨_,rfl⟩
   rw [hy] at hfb hstk
   obtain ⟨b,hb⟩:∃ b,stkB ts l rl st e k=b:=⟨_,rfl⟩
   rw [hb] at hstk
   have h147:∀ Z m,g147 [iv S1,iv mx] Z m=some (iv y,Z,m):=fun Z m=>by
     simp only [g147]
     rw [if_pos ⟨⟨by omega,by omega⟩,by omega,by omega⟩,hy]
   have h134:∀ Z m,g134 [iv y] Z m=some (rv b,Z,m):=fun Z m=>by
     simp only [g134]
     rw [if_pos (by omega),hstk]
   have hr4:=recT_ok (P:=Tryz.prog) (l:=[(147,g147),(134,g134)]) (by simp only [List.forall_mem_cons]; exact ⟨ok147,ok134,by simp⟩)
   have hsn:(stkL ts l rl st e k).map rv ++ [rv b]=(stkL ts l rl st e (k + 1)).map rv:=by rw [stkL_succ,List.map_append,hb]; rfl
   obtain ⟨X2,hX2⟩:∃ Z,(n',Blk.cells [rv b] 145) :: Q=Z:=⟨_,rfl⟩
   have hX2n:namesOk (n' + 1) X2=true:=by rw [← hX2]; exact namesOk_put (by omega) (namesOk_mono (by omega) _ hK.nm)
   have hQX2:Sub Q X2:=by rw [← hX2]; exact Sub.cons hK.new (Sub.refl _)
   have hap:=app_at (P:=Tryz.prog) (st:=126) (t:=145) (i:=Tryz.t145) (X:=X2) (N:=n') (o:=o) (k:=k) (sz:=1) (cs:=(stkL ts l rl st e k).map rv) (new:=[rv b]) Tryz.underlying126 inf145' sz145i zo145 by145 (by omega) (by rw [← hX2,hget_cons,if_pos rfl]) (by rw [List.length_map,stkL_len]; omega) rfl (by decide) rfl (fun h0=>hQX2 _ _ (hxQ _ _ (ho h0)))
   rw [hsn] at hap
   obtain ⟨X3,hX3⟩:∃ Z,(if k=0 then X2 else hdel X2 o)=Z:=⟨_,rfl⟩
   have hX3n:namesOk (n' + 1) X3=true:=by
     rw [← hX3]
     split
     · exact hX2n
     · exact namesOk_hdel hX2n
   have hx3:∀ m,(k ≠ 0 → m ≠ o) → hget X3 m=hget X2 m:=fun m hm=>by
     rw [← hX3]
     split
     · rfl
     · rename_i h0
       rw [hget_hdel,if_neg (hm h0)]
   have hYX3:Sub Y2 X3:=fun j b hj=>by
     have hjn:=namesOk_iff.1 hY2n (j,b) (hget_mem _ _ _ hj)
     dsimp only at hjn
     rw [hx3 j fun _=>by omega]
     exact hQX2 _ _ (hxQ _ _ (hSx _ _ hj))
   rw [hX3] at hap
   obtain ⟨Z,hZ⟩:∃ Z,(n' + 1,Blk.ext ((stkL ts l rl st e (k + 1)).map rv) 145 1) :: X3=Z:=⟨_,rfl⟩
   have hZn:namesOk (n' + 1 + 1) Z=true:=by rw [← hZ]; exact namesOk_put (by omega) (namesOk_mono (by omega) _ hX3n)
   have hX3Z:Sub X3 Z:=by
     rw [← hZ]
     refine Sub.cons ?_ (Sub.refl _)
     cases hc:hget X3 (n' + 1) with
     | none=>rfl
     | some b=>have:=namesOk_iff.1 hX3n (_,b) (hget_mem _ _ _ hc); dsimp only at this; omega
   rw [hZ,← hX2,outS_ne (Nat.succ_ne_zero _)] at hap
   have hbm:builtinA Tryz.prog .max #[3,3] Q n' [.int .i64 1,iv c9]=none:=rfl
   refine E.reg hr4 (by simp [-cellA,-builtinA,hbm,c0,c1,max33,hmx,h147,h134,hap]; rfl) ?_
   refine E.reg hr0 (by simp [hw]; rfl) ?_
   refine ⟨(k + 1,Z,n' + 1 + 1,n' + 1,(N + 6) :: ms),.keep rfl rfl rfl (by simp [outS_ne (Nat.succ_ne_zero k)]) (Sub.refl _),⟨by omega,hYX3.trans hX3Z,hZn,by dsimp only; omega,by dsimp only; omega,fun _=>by rw [← hZ,hget_cons,if_pos rfl],List.nodup_cons.2 ⟨fun h=>?_,hnd⟩,fun m hm=>?_⟩,by dsimp only; omega⟩
   · have:=hHlt _ _ (hms _ h).2
     omega
   · have hoN:k ≠ 0 → o < N:=fun h0=>hHlt _ _ (ho h0)
     rcases List.mem_cons.1 hm with rfl | hm
     · refine ⟨by omega,hX3Z _ _ ?_⟩
       rw [hx3 _ fun h0=>by have:=hoN h0; omega]
       exact hQX2 _ _ (hK.at' 0 _ rfl)
     · obtain ⟨h1,h2⟩:=hms m hm
       refine ⟨h1,hX3Z _ _ ?_⟩
       rw [hx3 _ fun h0 e'=>by rw [e',ho h0] at h2; cases h2]
       exact hQX2 _ _ (hxQ _ _ h2)
 · have hkW':k=W:=by omega
   subst hkW'
   refine E.cond (t:=false) (by simp) (fun h=>by cases h) (fun _=>?_)
   refine E.exit ?_
   obtain ⟨H2,e1,e2⟩:=shut_all ms (H:=Hx) hnd fun m hm=>(hms m hm).2
   have hH2n:=shut_nm ms e1 hnx
   have hkeep:∀ j b,plainB2 b=true → hget Hx j=some b → hget H2 j=some b:=fun j b hp hj=>by
     rw [e2 _ fun h=>by have:=(hms _ h).2; rw [hj] at this; injection this with this; subst this; cases hp]
     exact hj
   refine E.seq (E.reg hr0 (by simp; rfl) ?_)
   refine E.ret ?_
   rw [hz2,hPL]
   refine outM.ret H2 e1 (vs:=[outS o k,iv 0]) (by simp [resultsA,resultA,Tryz.results73]) ⟨outS o k,rfl,fun j b hj=>hkeep j b (hpm0.plain _ _ hj) (hSx _ _ (hT2 _ _ hj)),hH2n,by dsimp only; omega,fun h G=>?_,fun G _ hG=>?_⟩
   · by_cases hk0:k=0
     · subst hk0; rfl
     · rw [outS_ne hk0] at h; cases h
   · have:=rea_view (G:=G) (o:=o) (bs:=stkL ts l rl st e k) (fun h0=>hG _ _ (by omega) rfl (hkeep _ _ rfl (ho fun e=>h0 (by subst e; rfl)))) (by rw [stkL_len]; omega)
     rw [stkL_len] at this
     exact this
end Go.Proofs.YtkongcnmkiihjaaGreatDoor
