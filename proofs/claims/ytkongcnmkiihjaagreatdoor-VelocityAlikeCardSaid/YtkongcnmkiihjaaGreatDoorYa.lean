/-
One piece of the run of awake, reckoned by the kernel between two printed states (no condition).
-/
import Derived.Test.YtkongcnmkiihjaaGreatDoorTa
import Derived.Test.YtkongcnmkiihjaaGreatDoorAg
namespace Go.Proofs.YtkongcnmkiihjaaGreatDoor
open Go Go.Ab Go.Proofs
def whenV (b:Bool) (e:Int):Int:=if b then e else 0
theorem w96 (b:Bool) (e:Int):AC Tryz.prog 96 [.bool b,.int .i64 e] [] 9 (.int .i64 (whenV b e)) [] 9:=by
 have hr:=recT_ok (P:=Tryz.prog) (l:=[]) (by simp)
 refine AC.pure Tryz.func96 rfl (by kernel_rfl) rfl [] rfl ?_
 refine E.seq (E.reg hr (by simp [argsFr,Tryz.f96]; rfl) ?_)
 refine E.seq (E.seq (E.reg hr (by simp; rfl) ?_))
 refine E.cond (by rfl) (fun h=>?_) (fun h=>?_)
 · try simp at h
   refine E.seq (E.reg hr (by simp; rfl) ?_)
   refine E.ret ?_
   exact pureK.ret rfl rfl (by simp [one,whenV,h]) (sub_refl _)
 · try simp at h
   refine E.skip (E.seq (E.reg hr (by simp; rfl) ?_))
   refine E.ret ?_
   exact pureK.ret rfl rfl (by simp [one,whenV,h]) (sub_refl _)
def g96 (args:List Value) (H:Heap) (n:Nat):R:=match args with
 | [.bool b,.int .i64 e]=>some (.int .i64 (whenV b e),H,n)
 | _=>none
theorem ok96:EntOk Tryz.prog (96,g96):=by
 intro args H n v H' n' h
 simp only [g96] at h
 split at h
 · rename_i b e
   injection h with h; injection h with e1 e2; injection e2 with e2 e3; subst e1 e2 e3
   exact AC.liftP rfl (Part.plain (by simp) [] (by simp [Seen]) gsz ⟨_,_,w96 b e⟩)
 · cases h
def withinV (a lo hi:Int):Int:=if a < lo ∨ hi < a then 3 else 0
theorem w91 (a lo hi:Int):AC Tryz.prog 91 [.int .i64 a,.int .i64 lo,.int .i64 hi] [] 9 (.int .i64 (withinV a lo hi)) [] 9:=by
 have hr:=recT_ok (P:=Tryz.prog) (l:=[(96,g96)]) (by simp [ok96])
 refine AC.pure Tryz.func91 rfl (by kernel_rfl) rfl [] rfl ?_
 refine E.seq (E.reg hr (by simp [argsFr,Tryz.f91]; rfl) ?_)
 refine E.seq ?_
 by_cases h1:a < lo
 · refine E.reg hr (by simp [h1,oneF_guard,yieldedA,g96]; rfl) ?_
   refine E.ret ?_
   exact pureK.ret rfl rfl (by simp [one,withinV,whenV,h1]) (sub_refl _)
 · refine E.reg hr (by simp [h1,oneF_guard,yieldedA,g96]; rfl) ?_
   refine E.ret ?_
   exact pureK.ret rfl rfl (by simp [one,withinV,whenV,h1]) (sub_refl _)
def firstV:List Int → Int
 | []=>0
 | e :: l=>if e=0 then firstV l else e
theorem w90 (l:List Int) (o c:Nat) (hl:l.length < 2 ^ 31):AC Tryz.prog 90 [.slice (some ⟨9,o,none⟩) l.length c] [(9,.inp o (l.map iv))] 10 (iv (firstV l)) [(9,.inp o (l.map iv))] 10:=by
 have hr:=recT_ok (P:=Tryz.prog) (l:=[]) (by simp)
 refine AC.pure Tryz.func90 rfl (by kernel_rfl) rfl [5,6,7] rfl ?_
 refine E.seq (E.reg hr (by simp [argsFr,Tryz.f90]; rfl) ?_)
 refine E.seq (E.seq (E.reg hr (by simp [opBuiltin,builtinA]; rfl) ?_))
 refine E.block (E.loop ?_)
 refine EL.ind (fun i:Nat=>{ fr:=[(5,.slice (some ⟨9,o,none⟩) l.length c),(6,iv l.length),(7,iv i)],sz:=15,H:=[(9,.inp o (l.map iv))],n:=10,marks:=[],vs:=[5,6,7] }) (fun i=>l.length - i) (fun i=>i ≤ l.length ∧ firstV (l.drop i)=firstV l) 0 (.less rfl rfl rfl (by simp) (by simp)) ⟨Nat.zero_le _,rfl⟩ (fun _=>rfl) ?_
 intro i ⟨hi,hg⟩
 refine E.seq (E.reg hr (by simp; rfl) ?_)
 refine E.seq ?_
 refine E.cond (by rfl) (fun h=>?_) (fun h=>?_)
 · simp at h
   refine E.skip (E.seq ?_)
   refine E.block (E.seq (E.reg hr (by simp [opIndexaddr,Tryz.underlying170,flat,h,loadA,cellA]; rfl) ?_))
   refine E.seq (E.reg hr (by simp; rfl) ?_)
   refine E.cond (by rfl) (fun h2=>?_) (fun h2=>?_)
   · simp at h2
     refine E.seq (E.reg hr (by simp; rfl) ?_)
     refine E.ret ?_
     refine pureK.ret rfl rfl ?_ (sub_refl _)
     rw [List.drop_eq_getElem_cons h] at hg
     simp [one,← hg,firstV,h2]
   · simp at h2
     refine E.skip ?_
     have hw:IntKind.i64.wrap ((i:Int) + 1)=(i:Int) + 1:=W_in (by omega) (by omega)
     refine E.reg hr (by simp [hw]; rfl) ?_
     rw [List.drop_eq_getElem_cons h] at hg
     exact ⟨i + 1,.less rfl rfl rfl (by simp) (by simp),⟨h,by rw [← hg]; simp [firstV,h2]⟩,by dsimp only; omega⟩
 · simp at h
   refine E.exit ?_
   refine E.seq (E.reg hr (by simp; rfl) ?_)
   refine E.ret ?_
   have:l.drop i=[]:=by simp; omega
   refine pureK.ret rfl rfl ?_ (sub_refl _)
   simp [one,← hg,this,firstV]
def g91 (args:List Value) (H:Heap) (n:Nat):R:=match args with
 | [.int .i64 a,.int .i64 b,.int .i64 c]=>some (.int .i64 (withinV a b c),H,n)
 | _=>none
theorem ok91:EntOk Tryz.prog (91,g91):=by
 intro args H n v H' n' h
 simp only [g91] at h
 split at h
 · injection h with h; injection h with e1 e2; injection e2 with e2 e3; subst e1 e2 e3
   exact AC.liftP rfl (Part.plain (by simp) [] (by simp [Seen]) gsz ⟨_,_,w91 _ _ _⟩)
 · cases h
def intsOf:List Value → Option (List Int)
 | []=>some []
 | .int .i64 n :: vs=>(intsOf vs).map (n :: ·)
 | _=>none
theorem intsOf_ok:∀ (cs:List Value) (l:List Int),intsOf cs=some l → cs=l.map iv
 | [],l,h=>by simp [intsOf] at h; subst h; rfl
 | c :: cs,l,h=>by
   unfold intsOf at h
   split at h
   · rename_i h1; cases h1
   · rename_i n vs h1
     injection h1 with h1 h2; subst h1 h2
     rw [Option.map_eq_some_iff] at h
     obtain ⟨l',h2,h3⟩:=h
     subst h3
     rw [intsOf_ok _ _ h2]; rfl
   · cases h
def intsAt (H:Heap) (a:Addr) (len:Nat):Option (List Int):=if flat a && Nat.blt len 2147483648 then (cellsA H a.block a.off len).bind intsOf else none
theorem intsAt_ok {H:Heap} {a:Addr} {len:Nat} {l:List Int} (h:intsAt H a len=some l):flat a=true ∧ cellsA H a.block a.off len=some (l.map iv) ∧ l.length=len ∧ l.length < 2 ^ 31:=by
 unfold intsAt at h
 split at h
 · rename_i hf
   rw [Bool.and_eq_true] at hf
   rw [Option.bind_eq_some_iff] at h
   obtain ⟨cs,h1,h2⟩:=h
   have h3:=intsOf_ok _ _ h2
   subst h3
   have h4:=(cellsA_at h1).1
   rw [List.length_map] at h4
   exact ⟨hf.1,h1,h4,by have:=(blt_iff _ _).1 hf.2; omega⟩
 · cases h
def g90 (args:List Value) (H:Heap) (n:Nat):R:=match args with
 | [.slice (some a) len _]=>(intsAt H a len).map fun l=>(iv (firstV l),H,n)
 | _=>none
theorem ok90:EntOk Tryz.prog (90,g90):=by
 intro args H n v H' n' h
 simp only [g90] at h
 split at h
 · rename_i a len c
   rw [Option.map_eq_some_iff] at h
   obtain ⟨l,h1,h⟩:=h
   injection h with e1 e2; injection e2 with e2 e3; subst e1 e2 e3
   obtain ⟨hf,hc,hlen,hlt⟩:=intsAt_ok h1
   subst hlen
   exact AC.liftP rfl (Part.one (fun s=>[s]) (by intro φ φ0 s s0 h; simp [denL,h]) (by intro p s h; exact ⟨h,trivial⟩) hf hc (afL_iv l) [] (by simp [Seen]) gsz fun c=>⟨_,_,w90 l _ c hlt⟩)
 · cases h
def velV (v:Int):Int:=withinV v 1 1000000000
theorem w92 (v:Int):AC Tryz.prog 92 [iv v] [] 9 (iv (velV v)) [] 9:=by
 have hr:=recT_ok (P:=Tryz.prog) (l:=[(91,g91)]) (by simp [ok91])
 refine AC.pure Tryz.func92 rfl (by kernel_rfl) rfl [] rfl ?_
 refine E.seq (E.reg hr (by simp [argsFr,Tryz.f92]; rfl) ?_)
 refine E.seq (E.reg hr (by simp [g91]; rfl) ?_)
 refine E.ret ?_
 exact pureK.ret rfl rfl (by simp [one,velV]) (sub_refl _)
def g92 (args:List Value) (H:Heap) (n:Nat):R:=match args with
 | [.int .i64 a]=>some (.int .i64 (velV a),H,n)
 | _=>none
theorem ok92:EntOk Tryz.prog (92,g92):=by
 intro args H n v H' n' h
 simp only [g92] at h
 split at h
 · injection h with h; injection h with e1 e2; injection e2 with e2 e3; subst e1 e2 e3
   exact AC.liftP rfl (Part.plain (by simp) [] (by simp [Seen]) gsz ⟨_,_,w92 _⟩)
 · cases h
theorem w160 (n:Nat) (hn:n < 2 ^ 40):AC Tryz.prog 160 [iv n] [] 9 (iv (isq n)) [] 9:=by
 have hr:=recT_ok (P:=Tryz.prog) (l:=[]) (by simp)
 refine AC.pure Tryz.func160 rfl (by kernel_rfl) rfl [0,3,4] rfl ?_
 refine E.seq (E.reg hr (by simp [argsFr,Tryz.f160]; rfl) ?_)
 refine E.seq (E.reg hr (by simp; rfl) ?_)
 refine E.seq (E.block ?_)
 refine E.loop ?_
 refine EL.ind (fun x:Nat × Nat=>{ fr:=[(0,iv n),(3,iv x.1),(4,iv x.2)],sz:=23,H:=[],n:=9,marks:=[],vs:=[0,3,4] }) (fun x=>x.2 - x.1) (fun x=>x.1 ≤ x.2 ∧ x.2 < 2 ^ 31 ∧ x.1 * x.1 ≤ n ∧ n < (x.2 + 1) * (x.2 + 1)) (0,2147483647) (.less rfl rfl rfl (by simp) (by simp)) ⟨by omega,by omega,by omega,by omega⟩ (fun _=>rfl) ?_
 rintro ⟨lo,hi⟩ ⟨h1,h2,h3,h4⟩
 dsimp only at h1 h2 h3 h4
 refine E.seq (E.seq (E.reg hr (by simp; rfl) ?_))
 refine E.cond (by rfl) (fun h=>?_) (fun h=>?_)
 · simp at h
   refine E.skip (E.block ?_)
   refine E.seq ?_
   have hw1:IntKind.i64.wrap ((lo:Int) + hi)=(lo:Int) + hi:=W_in (by omega) (by omega)
   have hw2:IntKind.i64.wrap ((lo:Int) + hi + 1)=(lo:Int) + hi + 1:=W_in (by omega) (by omega)
   obtain ⟨mid,hmid⟩:∃ mid,(lo + hi + 1) / 2=mid:=⟨_,rfl⟩
   have hq:((lo:Int) + hi + 1).tdiv 2=(mid:Int):=by rw [Int.tdiv_eq_ediv_of_nonneg (by omega)]; omega
   have hw3:IntKind.i64.wrap (mid:Int)=mid:=W_in (by omega) (by omega)
   refine E.reg hr (by simp [bin_quo,hw1,hw2,hq,hw3]; rfl) ?_
   have hm1:lo < mid:=by omega
   have hm2:mid ≤ hi:=by omega
   have hmm:mid * mid ≤ 2147483647 * 2147483647:=Nat.mul_le_mul (by omega) (by omega)
   obtain ⟨mm,hmm2⟩:∃ mm,mid * mid=mm:=⟨_,rfl⟩
   have hw4:IntKind.i64.wrap ((mid:Int) * mid)=(mm:Int):=by rw [← hmm2,← Int.natCast_mul,W_in (by omega) (by omega)]
   refine E.seq (E.reg hr (by simp [hw4]; rfl) ?_)
   refine E.cond (by rfl) (fun h=>?_) (fun h=>?_)
   · simp at h
     refine E.reg hr (by simp; rfl) ?_
     exact ⟨(mid,hi),.less rfl rfl rfl (by simp) (by simp),⟨hm2,h2,by dsimp only; omega,h4⟩,by dsimp only; omega⟩
   · simp at h
     have hw5:IntKind.i64.wrap ((mid:Int) - 1)=((mid - 1:Nat):Int):=by rw [W_in (by omega) (by omega)]; omega
     refine E.reg hr (by simp [hw5]; rfl) ?_
     exact ⟨(lo,mid - 1),.less rfl rfl rfl (by simp) (by simp),⟨by dsimp only; omega,by dsimp only; omega,h3,by dsimp only; rw [show mid - 1 + 1=mid by omega]; omega⟩,by dsimp only; omega⟩
 · simp at h
   refine E.exit ?_
   refine E.seq (E.reg hr (by simp; rfl) ?_)
   refine E.ret ?_
   have hlh:lo=hi:=by omega
   subst hlh
   exact pureK.ret rfl rfl (by simp [one,isq_eq hn ⟨h3,h4⟩]) (sub_refl _)
def g160 (args:List Value) (H:Heap) (n:Nat):R:=match args with
 | [.int .i64 a]=>if 0 ≤ a ∧ a < 1099511627776 then some (.int .i64 (isq a.toNat),H,n) else none
 | _=>none
theorem ok160:EntOk Tryz.prog (160,g160):=by
 intro args H n v H' n' h
 simp only [g160] at h
 split at h
 · split at h
   · rename_i a hc
     injection h with h; injection h with e1 e2; injection e2 with e2 e3; subst e1 e2 e3
     have:=w160 a.toNat (by omega)
     rw [show ((a.toNat:Nat):Int)=a by omega] at this
     exact AC.liftP rfl (Part.plain (by simp) [] (by simp [Seen]) gsz ⟨_,_,this⟩)
   · cases h
 · cases h
def movV (t q v:Int):Int:=isq (t * t + q / v).toNat
def MvIn (t q v:Int):Prop:=0 ≤ t ∧ t ≤ 1024 ∧ 0 ≤ q ∧ q ≤ 80000000000 ∧ 1 ≤ v ∧ v ≤ 1000000000
instance (t q v:Int):Decidable (MvIn t q v):=by unfold MvIn; infer_instance
theorem mv_in {t q v:Int} (h:MvIn t q v):0 ≤ t * t ∧ t * t ≤ 1048576 ∧ 0 ≤ q / v ∧ q / v ≤ 80000000000:=by
 obtain ⟨h1,h2,h3,h4,h5,h6⟩:=h
 refine ⟨Int.mul_nonneg h1 h1,?_,Int.ediv_nonneg h3 (by omega),?_⟩
 · exact Int.le_trans (Int.mul_le_mul h2 h2 h1 (by omega)) (by omega)
 · exact Int.le_trans (Int.ediv_le_self _ h3) h4
theorem w93 (t q v:Int) (h:MvIn t q v):AC Tryz.prog 93 [iv t,iv q,iv v] [] 9 (iv (movV t q v)) [] 9:=by
 have hr:=recT_ok (P:=Tryz.prog) (l:=[(160,g160)]) (by simp [ok160])
 refine AC.pure Tryz.func93 rfl (by kernel_rfl) rfl [] rfl ?_
 refine E.seq (E.reg hr (by simp [argsFr,Tryz.f93]; rfl) ?_)
 refine E.seq ?_
 obtain ⟨h1,h2,h3,h4⟩:=mv_in h
 have hv:v ≠ 0:=by have:=h.2.2.2.2.1; omega
 have hw1:IntKind.i64.wrap (t * t)=t * t:=W_in (by omega) (by omega)
 have hq:q.tdiv v=q / v:=Int.tdiv_eq_ediv_of_nonneg h.2.2.1
 have hw2:IntKind.i64.wrap (q / v)=q / v:=W_in (by omega) (by omega)
 have hw3:IntKind.i64.wrap (t * t + q / v)=t * t + q / v:=W_in (by omega) (by omega)
 have hc:0 ≤ t * t + q / v ∧ t * t + q / v < 1099511627776:=⟨by omega,by omega⟩
 refine E.reg hr (by simp [bin_quo,hv,hw1,hq,hw2,hw3,g160,hc]; rfl) ?_
 refine E.ret ?_
 exact pureK.ret rfl rfl (by simp [one,movV]) (sub_refl _)
def g93 (args:List Value) (H:Heap) (n:Nat):R:=match args with
 | [.int .i64 a,.int .i64 b,.int .i64 c]=>if MvIn a b c then some (.int .i64 (movV a b c),H,n) else none
 | _=>none
theorem ok93:EntOk Tryz.prog (93,g93):=by
 intro args H n v H' n' h
 simp only [g93] at h
 split at h
 · split at h
   · rename_i hc
     injection h with h; injection h with e1 e2; injection e2 with e2 e3; subst e1 e2 e3
     exact AC.liftP rfl (Part.plain (by simp) [] (by simp [Seen]) gsz ⟨_,_,w93 _ _ _ hc⟩)
   · cases h
 · cases h
end Go.Proofs.YtkongcnmkiihjaaGreatDoor
