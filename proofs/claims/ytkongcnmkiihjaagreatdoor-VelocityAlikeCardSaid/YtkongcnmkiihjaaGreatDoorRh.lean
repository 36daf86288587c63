/-
The law VelocityAlike holds for whatever it is handed (no condition but the row's own).
-/
import Derived.Test.YtkongcnmkiihjaaGreatDoorRg
import Derived.Test.YtkongcnmkiihjaaGreatDoorRd
import Derived.Test.YtkongcnmkiihjaaGreatDoorRa
import Derived.Test.YtkongcnmkiihjaaGreatDoorFa
import Derived.Test.YtkongcnmkiihjaaGreatDoorRb
import Derived.Test.YtkongcnmkiihjaaGreatDoorQa
namespace Go.Ab
open Go Go.ChangeShapes Go.WideShapes
structure TD where
 pre:List Value
 row:RD
def TD.val (t:TD):List Value:=t.pre ++ [t.row.val]
def TD.ok (sz:Nat) (w:World) (t:TD):Prop:=t.pre.length + 1=sz ∧ afL t.pre=true ∧ t.row.ok w
def HandS (sz:Nat) (w:World) (v:Value) (tds:List TD):Prop:=(v = .slice none 0 0 ∧ tds=[]) ∨ ∃ b o c,v = .slice (some ⟨b,o,none⟩) tds.length c ∧ tds.length ≤ maxLen ∧ (∃ k t fz,w.heap[b]? = some (.cells k t fz) ∧ ∀ j,j < tds.length * sz → k[o + j]? = (tds.flatMap TD.val)[j]?) ∧ ∀ r ∈ tds,TD.ok sz w r
def absT:Nat → Nat → List TD → List Value
 | vn,dn,t :: ts=>t.pre ++ t.row.abs vn dn :: absT (vn + 1) (dn + 1) ts
 | _,_,[]=>[]
def outT (v:Value) (tds:List TD) (vn dn:Nat):WV:=match v with
 | .slice (some a) _ _=>⟨a.block,a.off,absT vn dn tds⟩
 | _=>⟨0,0,[]⟩
def absS (v:Value) (tds:List TD) (on:Nat):Value:=match v with
 | .slice (some a) _ c=>.slice (some ⟨on,a.off,none⟩) tds.length c
 | _=>.slice none 0 0
section
variable {w:World} {v:Value} {sz:Nat}
theorem absT_len:∀ (tds:List TD) (vn dn:Nat),(∀ t ∈ tds,t.ok sz w) → (absT vn dn tds).length=tds.length * sz
 | [],_,_,_=>by simp [absT]
 | t :: ts,vn,dn,h=>by
   have h1:=(h t (List.mem_cons_self ..)).1
   rw [absT,List.length_append,List.length_cons,absT_len ts _ _ fun x hx=>h x (List.mem_cons_of_mem _ hx),List.length_cons,Nat.succ_mul]
   omega
theorem absT_den {φ:Vl} (hc:∀ k,φ.cap k=0):∀ (tds:List TD) (vn dn:Nat),(∀ t ∈ tds,t.ok sz w) → (∀ (i:Nat) t,tds[i]? = some t → φ.loc (vn + i)=t.row.view.blk ∧ φ.loc (dn + i)=t.row.dead) → denL φ (absT vn dn tds)=tds.flatMap TD.val
 | [],_,_,_,_=>rfl
 | t :: ts,vn,dn,hok,h=>by
   obtain ⟨_,h2,h3⟩:=hok t (List.mem_cons_self ..)
   obtain ⟨g1,g2⟩:=h 0 t rfl
   rw [Nat.add_zero] at g1 g2
   rw [absT,denL_append,denL_af _ _ h2]
   show t.pre ++ (Ab.den φ (t.row.abs vn dn) :: denL φ (absT (vn + 1) (dn + 1) ts))=_
   rw [RD.den h3 g1 g2 (hc _),absT_den hc ts _ _ (fun x hx=>hok x (List.mem_cons_of_mem _ hx)) fun i x hx=>by
     have:=h (i + 1) x (by rw [List.getElem?_cons_succ]; exact hx)
     rw [show vn + 1 + i=vn + (i + 1) by omega,show dn + 1 + i=dn + (i + 1) by omega]
     exact this,List.flatMap_cons]
   simp [TD.val]
theorem absT_sc {p:Nat → Prop}:∀ (tds:List TD) (vn dn:Nat),(∀ t ∈ tds,t.ok sz w) → (∀ i,i < tds.length → p (vn + i) ∧ p (dn + i)) → scL p (absT vn dn tds)
 | [],_,_,_,_=>trivial
 | t :: ts,vn,dn,hok,h=>by
   obtain ⟨_,h2,_⟩:=hok t (List.mem_cons_self ..)
   rw [absT,scL_append]
   refine ⟨scL_af _ _ h2,RD.sc (h 0 (by simp)).1 (h 0 (by simp)).2,absT_sc ts (vn + 1) (dn + 1) (fun x hx=>hok x (List.mem_cons_of_mem _ hx)) fun i hi=>?_⟩
   have:=h (i + 1) (by simpa using hi)
   rw [show vn + 1 + i=vn + (i + 1) by omega,show dn + 1 + i=dn + (i + 1) by omega]
   exact this
variable {tds:List TD}
theorem outT_ok (hN : HandS sz w v tds) (hz : ∃ c t fz, w.heap[0]? = some (.cells c t fz)) {φ : Vl} {p : Nat → Prop} {vn dn : Nat} (h : ∀ (i : Nat) r, tds[i]? = some r → φ.loc (vn + i) = r.row.view.blk ∧ φ.loc (dn + i) = r.row.dead) (hc : ∀ k, φ.cap k = 0) (hp : ∀ i, i < tds.length → p (vn + i) ∧ p (dn + i)) :
   scL p (outT v tds vn dn).cs ∧ ∃ c t fz,w.heap[(outT v tds vn dn).blk]? = some (.cells c t fz) ∧ ∀ i,i < (outT v tds vn dn).cs.length → c[(outT v tds vn dn).off + i]? = (denL φ (outT v tds vn dn).cs)[i]?:=by
 rcases hN with ⟨rfl,rfl⟩ | ⟨b,o,c,rfl,hlt,⟨k,t,fz,hw,hk⟩,hok⟩
 · obtain ⟨c,t,fz,e⟩:=hz
   exact ⟨trivial,c,t,fz,e,fun i hi=>by simp [outT] at hi⟩
 · refine ⟨absT_sc _ _ _ hok hp,k,t,fz,hw,fun i hi=>?_⟩
   simp only [outT] at hi ⊢
   rw [absT_len _ _ _ hok] at hi
   rw [absT_den hc _ _ _ hok h,hk i hi]
theorem absS_den (hN:HandS sz w v tds) {φ:Vl} {on:Nat} (h:φ.loc on=(outT v tds 0 0).blk):Ab.den φ (absS v tds on)=v:=by
 rcases hN with ⟨rfl,rfl⟩ | ⟨b,o,c,rfl,hlt,_,hok⟩
 · rfl
 · simp [absS,Ab.den,h,outT]
theorem absS_sc {p:Nat → Prop} {on:Nat} (h:p on):Ab.sc p (absS v tds on):=by
 unfold absS
 split
 · exact h
 · trivial
theorem absS_cells (hN:HandS sz w v tds) {H:Heap} {on vn dn:Nat} (ho:hget H on=some (.inp (outT v tds vn dn).off (outT v tds vn dn).cs)):(v = .slice none 0 0 ∧ tds=[]) ∨ ∃ o c,absS v tds on = .slice (some ⟨on,o,none⟩) tds.length c ∧ cellsA H on o (tds.length * sz)=some (absT vn dn tds):=by
 rcases hN with h | ⟨b,o,c,rfl,hlt,_,hok⟩
 · exact .inl h
 · refine .inr ⟨o,c,rfl,?_⟩
   rw [cellsA_eq,ho]
   have:=absT_len tds vn dn hok
   simp [cellsB,outT,this]
   exact List.take_of_length_le (by omega)
end
section
variable {Hy:Type} {enc:TypeId × Value → Hy} {P:Program} {w:World} {base:Nat} {held:Bool}
def flatF (P:Program) (d:Nat) (fl:List Field):Option (List Leaf):=fl.foldlM (fun acc f=>if f.offset=acc.length then (leafs P d f.type).bind fun l=>if l.length=P.cellsOf f.type then some (acc ++ l) else none else none) []
theorem flat_ok {spare : Nat → Bool} {d m : Nat} {cs : List Value} : ∀ (fl : List Field) (acc res : List Leaf), fl.foldlM (fun acc f => if f.offset = acc.length then (leafs P d f.type).bind fun l => if l.length = P.cellsOf f.type then some (acc ++ l) else none else none) acc = some res →
   fitsL acc (cs.take acc.length) → (∀ f ∈ fl,∃ y,DataW.trod enc P w base spare held m f.type ((cs.drop f.offset).take (P.cellsOf f.type))=some y) → fitsL res (cs.take res.length)
 | [],acc,res,h1,h2,_=>by injection h1 with h1; subst h1; exact h2
 | f :: fl,acc,res,h1,h2,h3=>by
   rw [List.foldlM_cons] at h1
   simp only [Option.bind_eq_bind,Option.bind_eq_some_iff] at h1
   obtain ⟨acc',h1,h4⟩:=h1
   split at h1
   · rename_i ho
     rw [Option.bind_eq_some_iff] at h1
     obtain ⟨l',h5,h6⟩:=h1
     split at h6
     · rename_i hc'
       injection h6 with h6; subst h6
       obtain ⟨y,hy⟩:=h3 f (List.mem_cons_self ..)
       have:=leafs_ok d f.type l' m _ y h5 hy
       rw [← hc',ho] at this
       refine flat_ok fl _ _ h4 ?_ fun g hg=>h3 g (List.mem_cons_of_mem _ hg)
       rw [List.length_append,List.take_add]
       exact fitsL_append h2 this
     · cases h6
   · cases h1
theorem fitsL_af:∀ {ls:List Leaf} {vs:List Value},fitsL ls vs → afL vs=true
 | [],[],_=>rfl
 | _ :: _,_ :: _,⟨h1,h2⟩=>by
   simp only [afL,Bool.and_eq_true]
   exact ⟨leaf_af h1,fitsL_af h2⟩
 | [],_ :: _,h=>h.elim
 | _ :: _,[],h=>h.elim
theorem open_el {e q qe : TypeId} {d fuel : Nat} {fs : Array Field} {fl : List Field} {g : Field} {ls : List Leaf} {lf : Leaf} {cs : List Value} {x : DataW Hy × List MemPlace} (he : P.underlying e = some (.struct fs)) (hfs : fs.toList = fl ++ [g]) (hfl : flatF P d fl = some ls) (hg : g.offset = ls.length ∧ g.type = q) (hce : P.cellsOf e = ls.length + 1)
   (hq:P.underlying q=some (.slice qe)) (hcq:P.cellsOf q=1) (hl:leafs P d qe=some [lf]) (hcqe:P.cellsOf qe=1) (h:DataW.trod enc P w base (fun _=>true) held fuel e cs=some x) :
   ∃ t:TD,cs=t.val ∧ fitsL ls t.pre ∧ t.ok (ls.length + 1) w ∧ t.row.C ≤ maxLen ∧ ∀ z ∈ t.row.Z,lf.fits z:=by
 obtain ⟨xs,m,rfl,_,hlen,hxl,hel⟩:=DataW.trod_struct he h
 have each:∀ f ∈ fs.toList,∃ y,DataW.trod enc P w base (fun _=>true) held m f.type ((cs.drop f.offset).take (P.cellsOf f.type))=some y:=fun f hf=>by
   obtain ⟨i,hi,rfl⟩:=List.getElem_of_mem hf
   have h1:=hel i fs[i] (by simp)
   obtain ⟨y,hy⟩:∃ y,xs[i]? = some y:=⟨xs[i]'(by rw [hxl]; simpa using hi),by simp⟩
   rw [hy] at h1
   exact ⟨y,by simpa using h1⟩
 have hpre:=flat_ok (cs:=cs) fl [] ls hfl (by simp [fitsL]) fun f hf=>each f (by rw [hfs]; exact List.mem_append_left _ hf)
 obtain ⟨y,hy⟩:=each g (by rw [hfs]; exact List.mem_append_right _ (List.mem_singleton_self g))
 rw [hg.1,hg.2,hcq] at hy
 rw [hce] at hlen
 have hd:cs.drop ls.length=[cs[ls.length]'(by omega)]:=by
   rw [List.drop_eq_getElem_cons (by omega),List.drop_of_length_le (by omega)]
 rw [hd] at hy
 obtain ⟨r,h1,h2,h3,h4⟩:=open_row hq hl hcqe (v:=cs[ls.length]'(by omega)) hy
 have hpl:=fitsL_length hpre
 refine ⟨⟨cs.take ls.length,r⟩,?_,hpre,⟨by rw [hpl],fitsL_af hpre,h2⟩,h3,h4⟩
 show cs=cs.take ls.length ++ [r.val]
 rw [← h1,← hd,List.take_append_drop]
theorem open_els {t e q qe : TypeId} {d fuel : Nat} {fs : Array Field} {fl : List Field} {g : Field} {ls : List Leaf} {lf : Leaf} {v : Value} {x : DataW Hy × List MemPlace} {rr : Reach} {b0 : Nat} (ht : P.underlying t = some (.slice e)) (he : P.underlying e = some (.struct fs)) (hfs : fs.toList = fl ++ [g]) (hfl : flatF P d fl = some ls) (hg : g.offset = ls.length ∧ g.type = q) (hce : P.cellsOf e = ls.length + 1)
   (hq:P.underlying q=some (.slice qe)) (hcq:P.cellsOf q=1) (hl:leafs P d qe=some [lf]) (hcqe:P.cellsOf qe=1) (hok:Cell.okWide P w rr b0 t v) (h:DataW.trod enc P w base (fun _=>true) held fuel t [v]=some x) :
   ∃ tds,HandS (ls.length + 1) w v tds ∧ ∀ t ∈ tds,fitsL ls t.pre ∧ t.row.C ≤ maxLen ∧ ∀ z ∈ t.row.Z,lf.fits z:=by
 rcases Deep.open_slice ht h with ⟨h0,_⟩ | ⟨a,len,cap,m,n,D,Pl,e0,_,hlc,hm,hmm,_,hx⟩
 · exact ⟨[],.inl ⟨by simpa using h0,rfl⟩,fun r hr=>by cases hr⟩
 · simp only [if_true] at hmm
   subst hmm
   have e0:v = .slice (some a) len m:=by simpa using e0
   subst e0
   obtain ⟨hs,k,t',fz,hw⟩:=okWide_addr ht hok
   obtain ⟨b,o,s⟩:=a
   dsimp only at hs hw
   subst hs
   have each:∀ i,i < m → ∃ r:TD,w.cells? base ((⟨b,o,none⟩:Addr).add (i * P.cellsOf e)) (P.cellsOf e)=some r.val ∧ fitsL ls r.pre ∧ r.ok (ls.length + 1) w ∧ r.row.C ≤ maxLen ∧ ∀ z ∈ r.row.Z,lf.fits z:=fun i hi=>by
     obtain ⟨cs',h1,h2⟩:=hx i hi
     obtain ⟨r,g1,g2⟩:=open_el he hfs hfl hg hce hq hcq hl hcqe h2
     exact ⟨r,by rw [h1,g1],g2⟩
   have:Inhabited TD:=⟨⟨[],⟨none,0,0,[]⟩⟩⟩
   obtain ⟨R,hR⟩:=Deep.choose_lt each
   have hokR:∀ r ∈ (List.range len).map R,r.ok (ls.length + 1) w:=fun r hr=>by
     obtain ⟨i,hi,rfl⟩:=List.mem_map.1 hr
     rw [List.mem_range] at hi
     exact (hR i (by omega)).2.2.1
   refine ⟨(List.range len).map R,.inr ⟨b,o,m,by simp,by simp; omega,⟨k,t',fz,hw,fun j hj=>?_⟩,hokR⟩,fun r hr=>?_⟩
   · rw [List.length_map,List.length_range] at hj
     have hf:((List.range len).map R).flatMap TD.val=(((List.range len).map R).map TD.val).flatten:=List.flatMap_def ..
     rw [hf,flatten_get (m:=ls.length + 1) (Nat.succ_pos _) _ j fun r hr=>by
       obtain ⟨t,ht,rfl⟩:=List.mem_map.1 hr
       have:=(hokR t ht).1
       simp only [TD.val,List.length_append,List.length_singleton]
       omega]
     have hi:j / (ls.length + 1) < len:=by
       rw [Nat.div_lt_iff_lt_mul (Nat.succ_pos _)]
       exact hj
     rw [List.getElem?_map,List.getElem?_map,List.getElem?_range hi]
     have h4:=(World.cells?_some (hR _ (by omega:j / (ls.length + 1) < m)).1).2.2 (j % (ls.length + 1)) (by rw [hce]; exact Nat.mod_lt _ (Nat.succ_pos _))
     show k[o + j]? = (R (j / (ls.length + 1))).val[j % (ls.length + 1)]?
     rw [← h4,hce,add_none,Addr.add]
     have hmod:=Nat.div_add_mod j (ls.length + 1)
     rw [Nat.mul_comm] at hmod
     split
     · rename_i h0
       rw [cell_get hw]
       congr 1
       omega
     · rw [cell_get hw]
       congr 1
       show o + j=o + _ + _
       omega
   · obtain ⟨i,hi,rfl⟩:=List.mem_map.1 hr
     rw [List.mem_range] at hi
     obtain ⟨_,g1,_,g2⟩:=hR i (by omega)
     exact ⟨g1,g2⟩
end
end Go.Ab
namespace Go.Proofs.YtkongcnmkiihjaaGreatDoor
section
open Go Go.Ab Go.Proofs
theorem absT_at {sz:Nat}:∀ (tds:List TD) (vn dn i:Nat) (t:TD),(∀ t ∈ tds,t.pre.length + 1=sz) → tds[i]? = some t → ((absT vn dn tds).drop (i * sz)).take sz=t.pre ++ [t.row.abs (vn + i) (dn + i)]
 | [],_,_,_,_,_,h=>by simp at h
 | x :: tds,vn,dn,0,t,h,hi=>by
   simp at hi
   subst hi
   have:=h x (List.mem_cons_self ..)
   rw [Nat.zero_mul,List.drop_zero]
   show (x.pre ++ x.row.abs vn dn :: absT (vn + 1) (dn + 1) tds).take sz=_
   rw [show x.pre ++ x.row.abs vn dn :: absT (vn + 1) (dn + 1) tds=(x.pre ++ [x.row.abs vn dn]) ++ absT (vn + 1) (dn + 1) tds by simp]
   exact List.take_left' (by simp; omega)
 | x :: tds,vn,dn,i + 1,t,h,hi=>by
   have hx:=h x (List.mem_cons_self ..)
   have ih:=absT_at tds (vn + 1) (dn + 1) i t (fun y hy=>h y (List.mem_cons_of_mem _ hy)) (by simpa using hi)
   rw [Nat.succ_mul,Nat.add_comm,← List.drop_drop]
   show (((x.pre ++ x.row.abs vn dn :: absT (vn + 1) (dn + 1) tds).drop sz).drop (i * sz)).take sz=_
   rw [show x.pre ++ x.row.abs vn dn :: absT (vn + 1) (dn + 1) tds=(x.pre ++ [x.row.abs vn dn]) ++ absT (vn + 1) (dn + 1) tds by simp,List.drop_left' (by simp; omega),ih,show vn + 1 + i=vn + (i + 1) by omega,show dn + 1 + i=dn + (i + 1) by omega]
abbrev ls144:List Leaf:=[.int .i64,.int .i64,.int .i64,.int .i64,.int .i64,.int .i64,.int .i64,.int .i64,.bool]
theorem fits_rv:∀ (zs:List Value),(∀ z ∈ zs,(Leaf.flt .f32).fits z) → ∃ bs:List Nat,zs=bs.map rv
 | [],_=>⟨[],rfl⟩
 | z :: zs,h=>by
   obtain ⟨b,rfl⟩:=h z (List.mem_cons_self ..)
   obtain ⟨bs,rfl⟩:=fits_rv zs fun x hx=>h x (List.mem_cons_of_mem _ hx)
   exact ⟨b :: bs,rfl⟩
theorem fitsC {l:Leaf} {ls:List Leaf} {r:List Value} (h:fitsL (l :: ls) r):∃ v vs,r=v :: vs ∧ l.fits v ∧ fitsL ls vs:=by
 cases r with
 | nil=>exact h.elim
 | cons v vs=>exact ⟨v,vs,rfl,h.1,h.2⟩
def isTrc (t:TD) (x:Trc):Prop:=t.pre=x.hd.map iv ++ [.bool x.hole] ∧ x.hd.length=8 ∧ t.row.Z.take t.row.L=x.smp.map rv ∧ x.smp.length=t.row.L
theorem trc_one {w:World} {t:TD} (h1:fitsL ls144 t.pre) (h2:t.ok 10 w) (h3:∀ z ∈ t.row.Z,(Leaf.flt .f32).fits z):∃ x,isTrc t x:=by
 obtain ⟨_,_,e0,⟨a0,rfl,_⟩,k0⟩:=fitsC h1
 obtain ⟨_,_,rfl,⟨a1,rfl,_⟩,k1⟩:=fitsC k0
 obtain ⟨_,_,rfl,⟨a2,rfl,_⟩,k2⟩:=fitsC k1
 obtain ⟨_,_,rfl,⟨a3,rfl,_⟩,k3⟩:=fitsC k2
 obtain ⟨_,_,rfl,⟨a4,rfl,_⟩,k4⟩:=fitsC k3
 obtain ⟨_,_,rfl,⟨a5,rfl,_⟩,k5⟩:=fitsC k4
 obtain ⟨_,_,rfl,⟨a6,rfl,_⟩,k6⟩:=fitsC k5
 obtain ⟨_,_,rfl,⟨a7,rfl,_⟩,k7⟩:=fitsC k6
 obtain ⟨_,vs,rfl,⟨b,rfl⟩,k8⟩:=fitsC k7
 obtain rfl:vs=[]:=by
   cases vs with
   | nil=>rfl
   | cons=>exact k8.elim
 obtain ⟨bs,hbs⟩:=fits_rv (t.row.Z.take t.row.L) fun z hz=>h3 z (List.mem_of_mem_take hz)
 refine ⟨⟨[a0,a1,a2,a3,a4,a5,a6,a7],b,bs⟩,by rw [e0]; rfl,rfl,hbs,?_⟩
 have hl:(t.row.Z.take t.row.L).length=bs.length:=by rw [hbs,List.length_map]
 have hr:=h2.2.2
 rw [List.length_take,hr.2.1] at hl
 have:=hr.1
 dsimp only
 omega
theorem trcs_all {w:World}:∀ (tds:List TD),(∀ t ∈ tds,fitsL ls144 t.pre ∧ t.ok 10 w ∧ ∀ z ∈ t.row.Z,(Leaf.flt .f32).fits z) → ∃ ts:List Trc,ts.length=tds.length ∧ ∀ (i:Nat) t x,tds[i]? = some t → ts[i]? = some x → isTrc t x
 | [],_=>⟨[],rfl,fun i t x h=>by simp at h⟩
 | t :: tds,h=>by
   obtain ⟨h1,h2,h3⟩:=h t (List.mem_cons_self ..)
   obtain ⟨x,hx⟩:=trc_one h1 h2 h3
   obtain ⟨ts,e,hts⟩:=trcs_all tds fun y hy=>h y (List.mem_cons_of_mem _ hy)
   refine ⟨x :: ts,by simp [e],fun i t' x' ht hx'=>?_⟩
   cases i with
   | zero=>simp at ht hx'; subst ht hx'; exact hx
   | succ i=>exact hts i t' x' (by simpa using ht) (by simpa using hx')
theorem absS_seen {w : World} {v : Value} {tds : List TD} (hN : HandS 10 w v tds) (hf : ∀ t ∈ tds, fitsL ls144 t.pre ∧ t.row.C ≤ maxLen ∧ ∀ z ∈ t.row.Z, (Leaf.flt .f32).fits z) {H : Heap} {on vn dn : Nat} (ho : hget H on = some (.inp (outT v tds vn dn).off (outT v tds vn dn).cs)) (hr : ∀ (i : Nat) t, tds[i]? = some t → hget H (vn + i) = some (.inp t.row.view.off t.row.view.cs)) :
   ∃ oa c,absS v tds on = .slice oa tds.length c ∧ (tds.length < 2147483648 → ∃ Ls:List Nat,Ls.length=tds.length ∧ listV 10 decTL H (.slice oa tds.length c)=some Ls ∧ ((∀ x ∈ Ls,x < 2147483648) → ∃ ts,trcV H (.slice oa tds.length c)=some ts ∧ ts.map (·.smp.length)=Ls)):=by
 have hokT:∀ t ∈ tds,t.ok 10 w:=by
   rcases hN with ⟨_,rfl⟩ | ⟨_,_,_,_,_,_,h⟩
   · intro t ht; cases ht
   · exact h
 rcases absS_cells hN ho with ⟨rfl,rfl⟩ | ⟨o,c,e,hcs⟩
 · exact ⟨none,0,rfl,fun _=>⟨[],rfl,rfl,fun _=>⟨[],rfl,rfl⟩⟩⟩
 · refine ⟨_,_,e,fun hl=>?_⟩
   obtain ⟨ts,hts,hx⟩:=trcs_all (w:=w) tds fun t ht=>⟨(hf t ht).1,hokT t ht,(hf t ht).2.2⟩
   have hat:=fun i t h=>absT_at tds vn dn i t (fun t ht=>(hokT t ht).1) h
   have hmax:maxLen < 9223372036854775808:=by decide
   refine ⟨tds.map (·.row.L),by simp,?_,fun hsm=>⟨ts,?_,?_⟩⟩
   · have:=listV_mkN (sz:=10) (dec:=decTL) (H:=H) (a:=⟨on,o,none⟩) (cap:=c) (cs:=absT vn dn tds) (l:=tds.map (·.row.L)) rfl (by rw [List.length_map]; exact hcs) (fun i hi=>?_) (by rw [List.length_map]; exact hl)
     · rw [List.length_map] at this; exact this
     · rw [List.length_map] at hi
       rw [hat i _ (List.getElem?_eq_getElem hi),List.getElem_map]
       obtain ⟨a,c',e'⟩:=RD.form (vn:=vn + i) (dn:=dn + i) (hokT _ (List.getElem_mem hi)).2.2
       rw [e']
       have h9:tds[i].pre.length=9:=by have:=(hokT _ (List.getElem_mem hi)).1; omega
       unfold decTL
       rw [List.getElem?_append_right (by omega),h9]
       have:=(hf _ (List.getElem_mem hi)).2.1
       have:=(hokT _ (List.getElem_mem hi)).2.2.1
       show (if tds[i].row.L < 9223372036854775808 then some tds[i].row.L else none)=_
       rw [if_pos (by omega)]
   · have:=listV_mkN (sz:=10) (dec:=decT) (H:=H) (a:=⟨on,o,none⟩) (cap:=c) (cs:=absT vn dn tds) (l:=ts) rfl (by rw [hts]; exact hcs) (fun i hi=>?_) (by rw [hts]; exact hl)
     · rw [hts] at this; exact this
     · have hi':i < tds.length:=by omega
       obtain ⟨x1,x2,x3,x4⟩:=hx i _ _ (List.getElem?_eq_getElem hi') (List.getElem?_eq_getElem hi)
       rw [hat i _ (List.getElem?_eq_getElem hi'),x1,List.append_assoc]
       refine decT_mk x2 (RD.seen (hokT _ (List.getElem_mem hi')).2.2 (hr i _ (List.getElem?_eq_getElem hi')) (hsm _ (List.mem_map_of_mem (f:=fun t:TD=>t.row.L) (List.getElem_mem hi'))) x4 fun j v hj=>?_)
       rw [x3] at hj
       exact rv_dec j v hj
   · apply List.ext_getElem?
     intro i
     rw [List.getElem?_map,List.getElem?_map]
     by_cases hi:i < tds.length
     · rw [List.getElem?_eq_getElem hi,List.getElem?_eq_getElem (by omega)]
       have:=(hx i _ _ (List.getElem?_eq_getElem hi) (List.getElem?_eq_getElem (by omega))).2.2.2
       simp [this]
     · rw [List.getElem?_eq_none (by omega),List.getElem?_eq_none (by omega)]
       rfl
end
section
open Go Go.Ab Go.Proofs Go.ChangeShapes Go.WideShapes Go.ChangeAt Go.RowKit
set_option maxRecDepth 100000 in
theorem open_nat {H : Type} {enc : TypeId × Value → H} {W : World} {base : Nat} {t : TypeId} {k : IntKind} {v : Value} {d : DataW H} {p : List MemPlace} (ht : Tryz.prog.underlying t = some (.int k)) (hk : k.min = 0) (hv : Value.okWide Tryz.prog W .any base t v)
   (h:DataW.Trod enc Tryz.prog W 0 (fun _=>true) true t v d p):∃ n:Nat,v = .int k (n:Int) ∧ (n:Int) ≤ k.max:=by
 obtain ⟨n,rfl⟩:=okWide_int (P:=Tryz.prog) ht hv
 obtain ⟨fuel,hf⟩:=h
 obtain ⟨m,hc,_,hw⟩:=DataW.trod_int ht hf
 simp only [Value.cells,List.cons.injEq,Value.int.injEq,true_and,and_true] at hc
 subst hc
 simp only [Lit.wf,Bool.and_eq_true,decide_eq_true_eq,hk] at hw
 exact ⟨n.toNat,by rw [Int.toNat_of_nonneg hw.1],by rw [Int.toNat_of_nonneg hw.1]; exact hw.2⟩
theorem tysize:Tryz.prog.types.size=353:=by kernel_rfl
namespace velocityHyperbolas
end velocityHyperbolas
namespace velocityMoved
end velocityMoved
theorem leafs9:leafs Tryz.prog 6 9=some [.str]:=by kernel_rfl
theorem leafs145:leafs Tryz.prog 6 145=some [.flt .f32]:=by kernel_rfl
noncomputable def flds (t:TypeId):List Field:=match Tryz.prog.underlying t with
 | some (.struct fs)=>fs.toList
 | _=>[]
theorem flat144:flatF Tryz.prog 6 ((flds 144).take 2)=some ls144:=by kernel_rfl
set_option maxRecDepth 100000 in
theorem open_shot {H : Type} {enc : TypeId × Value → H} {W : World} {base : Nat} {v : Value} {d : DataW H} {p : List MemPlace} (hv : Value.okWide Tryz.prog W .any base 103 v) (h : DataW.Trod enc Tryz.prog W 0 (fun _ => true) true 103 v d p) :
   ∃ (s:ByteArray) (l:Value) (tds:List TD),v = .agg ⟨[.string s,l]⟩ ∧ HandS 10 W l tds ∧ ∀ t ∈ tds,fitsL ls144 t.pre ∧ t.row.C ≤ maxLen ∧ ∀ z ∈ t.row.Z,(Leaf.flt .f32).fits z:=by
 unfold Value.okWide at hv
 rw [Tryz.underlying103] at hv
 obtain ⟨cs,rfl,hsz,ts,hts,_,hrow⟩:=hv
 rw [show Tryz.prog.cellTypes Tryz.prog.depth 103=some [9,101] by kernel_rfl] at hts
 injection hts with hts; subst hts
 rw [show Tryz.prog.cellsOf 103=2 by kernel_rfl] at hsz
 obtain ⟨l⟩:=cs
 match l,hsz with
 | [v0,v1],_=>
   obtain ⟨u',h2,h3⟩:=hrow 1 v1 rfl
   obtain rfl:101=u':=by simpa using h2
   obtain ⟨fuel,h⟩:=h
   obtain ⟨xs,m,rfl,_,hlen,hxl,hel⟩:=DataW.trod_struct Tryz.underlying103 h
   have key:∀ j (f:Field),(match Tryz.prog.underlying 103 with | some (.struct fs)=>fs[j]? | _=>none)=some f → ∃ y,DataW.trod enc Tryz.prog W 0 (fun _=>true) true m f.type (([v0,v1].drop f.offset).take (Tryz.prog.cellsOf f.type))=some y:=fun j f hf=>by
     rw [Tryz.underlying103] at hf
     have h4:=hel j f hf
     have hpos:=(Array.getElem?_eq_some_iff.1 hf).1
     obtain ⟨y,hy⟩:∃ y,xs[j]? = some y:=⟨xs[j]'(by omega),by simp⟩
     rw [hy] at h4
     exact ⟨y,by simpa [Value.cells] using h4⟩
   obtain ⟨y0,k0⟩:=key 0 _ (by rw [Tryz.underlying103]; rfl)
   obtain ⟨y1,k1⟩:=key 1 _ (by rw [Tryz.underlying103]; rfl)
   have e0:(([v0,v1].drop 0).take (Tryz.prog.cellsOf 9))=[v0]:=by kernel_rfl
   have e1:(([v0,v1].drop 1).take (Tryz.prog.cellsOf 101))=[v1]:=by kernel_rfl
   have l0:fitsL [.str] [v0]:=by rw [← e0]; exact leafs_ok 6 9 _ m _ y0 leafs9 k0
   have k1':DataW.trod enc Tryz.prog W 0 (fun _=>true) true m 101 [v1]=some y1:=by rw [← e1]; exact k1
   obtain ⟨⟨s,rfl,_⟩,_⟩:=l0
   obtain ⟨tds,g1,g2⟩:=open_els (d:=6) (lf:=.flt .f32) (qe:=145) (q:=126) (fl:=(flds 144).take 2) (ls:=ls144) (g:={ name := "Samples",type:=126,offset:=9,embedded:=false,tag := "",pkgPath := "",byteOffset:=72 }) Tryz.underlying101 Tryz.underlying144 (by kernel_rfl) flat144 ⟨by kernel_rfl,by kernel_rfl⟩ (by kernel_rfl) Tryz.underlying126 (by kernel_rfl) leafs145 (by kernel_rfl) h3 k1'
   exact ⟨s,v1,tds,rfl,g1,g2⟩
def ShotL (H:Heap) (oa:Option Addr) (L c:Nat):Prop:=L < 2147483648 → ∃ Ls:List Nat,Ls.length=L ∧ listV 10 decTL H (.slice oa L c)=some Ls ∧ ((∀ x ∈ Ls,x < 2147483648) → ∃ ts,trcV H (.slice oa L c)=some ts ∧ ts.map (·.smp.length)=Ls)
theorem lawSht {f : FuncId} (he : enterable Tryz.prog f = true) {W : World} (h0 : Lies W 0 freeV) (h1x : Lies W 1 rangesV) {s : ByteArray} {l : Value} {tds : List TD} (hN : HandS 10 W l tds) (hf : ∀ t ∈ tds, fitsL ls144 t.pre ∧ t.row.C ≤ maxLen ∧ ∀ z ∈ t.row.Z, (Leaf.flt .f32).fits z) {rest : List Value} (hrest : afL rest = true)
   (wk:∀ (H:Heap) (n:Nat) (oa:Option Addr) (c:Nat),hget H 0=some (.inp 0 freeV) → dR H → ShotL H oa tds.length c → AC Tryz.prog f (.agg ⟨[.string s,.slice oa tds.length c]⟩ :: rest) H n (.bool true) H n) :
   Calls Tryz.prog f (Value.agg ⟨[.string s,l]⟩ :: rest).toArray W fun e W'=>e = .returned (.bool true) ∧ Below W.heap.size W W':=by
 have hz:∃ c t fz,W.heap[0]? = some (.cells c t fz):=by
   obtain ⟨c,t,fz,e,_⟩:=h0
   exact ⟨c,t,fz,e⟩
 have hokT:∀ t ∈ tds,t.ok 10 W:=by
   rcases hN with ⟨_,rfl⟩ | ⟨_,_,_,_,_,_,h⟩
   · intro t ht; cases ht
   · exact h
 obtain ⟨vs,hvs⟩:∃ vs,outT l tds 10 (10 + tds.length) :: tds.map (·.row.view)=vs:=⟨_,rfl⟩
 obtain ⟨ds,hds⟩:∃ ds,tds.map (·.row.dead)=ds:=⟨_,rfl⟩
 have hvl:vs.length=tds.length + 1:=by rw [← hvs]; simp
 have hdl:ds.length=tds.length:=by rw [← hds]; simp
 have hv0:vs[0]? = some (outT l tds 10 (10 + tds.length)):=by rw [← hvs]; rfl
 have hvP:∀ (i:Nat) t,tds[i]? = some t → vs[1 + i]? = some t.row.view:=fun i t h=>by
   rw [← hvs,show 1 + i=i + 1 by omega,List.getElem?_cons_succ,List.getElem?_map,h]
   rfl
 have hdP:∀ (i:Nat) t,tds[i]? = some t → ds[i]? = some t.row.dead:=fun i t h=>by
   rw [← hds,List.getElem?_map,h]
   rfl
 have hlocP:∀ (i:Nat) t,tds[i]? = some t → (wvLoc 9 vs ds).loc (10 + i)=t.row.view.blk ∧ (wvLoc 9 vs ds).loc (10 + tds.length + i)=t.row.dead:=fun i t h=>by
   refine ⟨?_,?_⟩
   · have:=wvLoc_view (N:=9) (ds:=ds) (hvP i t h)
     rwa [show 9 + (1 + i)=10 + i by omega] at this
   · have:=wvLoc_dead (N:=9) (vs:=vs) (hdP i t h)
     rwa [hvl,show 9 + (tds.length + 1) + i=10 + tds.length + i by omega] at this
 have hcap:∀ k,(wvLoc 9 vs ds).cap k=0:=fun _=>rfl
 have hbase:=baseN (P:=Tryz.prog) (w:=W) gsz (G:=G0) (fun k b hk=>by
   rw [hget_cons,hget_cons] at hk
   by_cases e1:1=k
   · rw [if_pos e1] at hk
     injection hk with hk
     subst e1 hk
     refine ⟨by omega,scL_af _ _ af_rangesV,rfl,fun φ _=>?_⟩
     obtain ⟨c,t,fz,e1,e2⟩:=h1x
     refine ⟨c,t,fz,e1,fun i hi=>?_⟩
     rw [Nat.zero_add,denL_af _ _ af_rangesV]; exact e2 i hi
   · rw [if_neg e1] at hk
     by_cases e0:0=k
     · rw [if_pos e0] at hk
       injection hk with hk
       subst e0 hk
       refine ⟨by omega,scL_af _ _ af_freeV,rfl,fun φ _=>?_⟩
       obtain ⟨c,t,fz,e1,e2⟩:=h0
       refine ⟨c,t,fz,e1,fun i hi=>?_⟩
       rw [Nat.zero_add,denL_af _ _ af_freeV]; exact e2 i hi
     · rw [if_neg e0] at hk
       simp [hget] at hk) vs ds (fun u hu=>by
   rw [← hvs] at hu
   rcases List.mem_cons.1 hu with rfl | hu
   · exact outT_ok hN hz hlocP hcap fun i hi=>⟨by omega,by omega⟩
   · obtain ⟨t,ht,rfl⟩:=List.mem_map.1 hu
     exact view_ok hz (hokT t ht).2.2)
 obtain ⟨hB,hown⟩:=hbase
 have hG1:hget G0 1=some (.inp 0 rangesV):=rfl
 have hG0:hget G0 0=some (.inp 0 freeV):=rfl
 have q0:=wvH_low vs 9 G0 0 _ (by omega) hG0
 have q1:=wvH_low vs 9 G0 1 _ (by omega) hG1
 obtain ⟨oa,c,e,hS⟩:=absS_seen hN hf (H:=wvH 9 vs G0) (on:=9) (vn:=10) (dn:=10 + tds.length) (by have:=wvH_at (N:=9) vs G0 0 _ hv0; simpa using this) (fun i t h=>by
   have:=wvH_at (N:=9) vs G0 (1 + i) _ (hvP i t h)
   rwa [show 9 + (1 + i)=10 + i by omega] at this)
 have e1:=absS_den hN (φ:=wvLoc 9 vs ds) (on:=9) (by
   have:=wvLoc_view (N:=9) (ds:=ds) hv0
   rw [show 9 + 0=9 by omega] at this
   rw [this]
   unfold outT
   split <;> rfl)
 rw [e] at e1
 have hargs:(Value.agg ⟨[.string s,l]⟩ :: rest).toArray=(denL (wvLoc 9 vs ds) (.agg ⟨[.string s,.slice oa tds.length c]⟩ :: rest)).toArray:=by
   show _=(Ab.den _ _ :: denL _ rest).toArray
   rw [denL_af _ _ hrest]
   show _=(Value.agg ⟨denL (wvLoc 9 vs ds) [.string s,.slice oa tds.length c]⟩ :: rest).toArray
   simp only [denL,e1]
   rfl
 have hsc:sc (· < 9 + vs.length + ds.length) (Value.slice oa tds.length c):=by rw [← e]; exact absS_sc (by omega)
 rw [hargs]
 exact (wk _ _ _ _ q0 q1 hS).calls he rfl hB ⟨⟨trivial,hsc,trivial⟩,scL_af _ _ hrest⟩ hown
namespace velocityGathers
end velocityGathers
theorem params12:Tryz.f12.params=#[103,55,5]:=by kernel_rfl
namespace velocityAlike
set_option maxRecDepth 100000 in
theorem contract (H : Type) (enc : TypeId × Value → H) (W : World) (base : Nat) (args : Array Value) (ds gs : List (DataW H)) (before : List MemPlace)
   (hval:∀ (j:Nat) t v,Tryz.f12.params[j]? = some t → args[j]? = some v → Value.okWide Tryz.prog W .any base t v)
   (hW:DataW.Whole enc Tryz.prog Tryz.f12.params.toList Rows.velocityAlikeSpec.vars false W args.toList ds gs before) (hL:laidMetH Tryz.prog Rows.velocityAlikeRow.laid W) :
   Calls Tryz.prog 12 args W fun e W'=>∃ v,e = .returned v ∧ Rows.velocityAlikeSpec.post enc Tryz.prog Tryz.f12 false true false false W args v W':=by
 have hW':=hW
 obtain ⟨p,q,hA0,hV,rfl,hfz,hnd⟩:=hW
 have hA:DataW.TrodAll enc Tryz.prog W 0 (fun _=>true) true Tryz.f12.params.toList args.toList ds p:=hA0
 rw [params12] at hA hval
 obtain ⟨v0,vs0,d0,ds0,p0,q0,hargs,rfl,rfl,h0,r0⟩:=trodAll_cons hA
 obtain ⟨v1,vs1,d1,ds1,p1,q1,rfl,rfl,rfl,h1,r1⟩:=trodAll_cons r0
 obtain ⟨v2,vs2,d2,ds2,p2,q2,rfl,rfl,rfl,h2,r2⟩:=trodAll_cons r1
 obtain ⟨rfl,rfl,rfl⟩:=trodAll_nil r2
 obtain rfl:args=#[v0,v1,v2]:=by cases args; simp_all
 obtain ⟨s,l,tds,rfl,hN,hf⟩:=open_shot (hval 0 103 v0 rfl rfl) h0
 obtain ⟨a,rfl,ha⟩:=open_nat Tryz.underlying55 rfl (hval 1 55 v1 rfl rfl) h1
 obtain ⟨b,rfl,hb⟩:=open_nat Tryz.underlying5 rfl (hval 2 5 v2 rfl rfl) h2
 have ha':(a:Int) ≤ 65535:=ha
 have hb':(b:Int) ≤ 255:=hb
 have hc:Calls Tryz.prog 12 #[.agg ⟨[.string s,l]⟩,.int .u16 a,.int .u8 b] W fun e W'=>e = .returned (.bool true) ∧ Below W.heap.size W W':=
   lawSht (by kernel_rfl) (lies0 hL) (lies1 hL) hN hf (rest:=[.int .u16 a,.int .u8 b]) rfl fun H n oa c g0 g1 hS=>w12 g0 g1 ⟨by omega,ha'⟩ ⟨by omega,hb'⟩ hS
 refine hc.mono fun e W' ⟨he,hb⟩=>⟨_,he,?_⟩
 refine lawPost ?_ rfl rfl rfl hW' hb
 intro t ht
 rw [params12] at ht
 simp at ht
 rw [tysize]
 rcases ht with rfl | rfl | rfl
 · exact ⟨by kernel_rfl,by decide⟩
 · exact ⟨by kernel_rfl,by decide⟩
 · exact ⟨by kernel_rfl,by decide⟩
abbrev witS:Value:=.agg ⟨[.string ⟨#[]⟩,.slice none 0 0]⟩
abbrev witA:Value:=.int .u16 0
abbrev witB:Value:=.int .u8 0
theorem reads (os:Os) {H:Type} (enc:TypeId × Value → H):∃ places,DataW.whole enc Tryz.prog ((laidWorld os).forCall (fun _ _=>0) ⟨#[],#[witS,witA,witB],[]⟩).memory Tryz.f12.params.toList Rows.velocityAlikeSpec.vars false #[witS,witA,witB].toList 8=some ([.agg [.lit (.string []),.nil],.lit (.int .u16 0),.lit (.int .u8 0)],[],places):=
 ⟨[],by kernel_rfl⟩
set_option maxRecDepth 100000 in
theorem lifted (os : Os) (started : os.Started) (H : Type) (enc : TypeId × Value → H) (F : Stop.Interp) :
   ReturnsInHanded {} Tryz.checked os 12 .any ((OpenSpec.ofChange Rows.velocityAlikeSpec).preRow enc Tryz.prog Tryz.f12 Rows.velocityAlikeRow.domain false Rows.velocityAlikeRow.laid) (((OpenSpec.ofChange Rows.velocityAlikeSpec).at F).post enc Tryz.prog Tryz.f12 false true false false):=by
 obtain ⟨places,hx⟩:=reads os enc
 refine returnsInHanded_of_row (C:=Tryz.checked) (s:=OpenSpec.ofChange Rows.velocityAlikeSpec) own started (by kernel_rfl) Tryz.func12
   (witness_row_at (enc:=enc) (C:=Tryz.checked) false (laidWorld os) #[witS,witA,witB] rfl (by kernel_rfl) (by kernel_rfl) (by kernel_rfl)
     (OpenSpec.preRow_of_cond 8 hx (by kernel_rfl) (fun k hk=>by cases hk) (by kernel_rfl) (laid_met3 os _ _ _))) ?_
 intro W base args ds gs before hval hW _ _ _ hL _ _
 exact contract H enc W base args ds gs before hval hW hL
end velocityAlike
namespace velocityAlike
theorem fnum:Tryz.prog.funcNamed "moveout/moveoutlaw06.VelocityAlike" = some 12:=by kernel_rfl
theorem inst:Tryz.f12.isInstance Tryz.prog Rows.velocityAlikeRow.origin Rows.velocityAlikeRow.targs:=of_decide_eq_true (by kernel_rfl)
theorem wrapper:Tryz.f12.isWrapper Tryz.prog Rows.velocityAlikeRow.wrapper Rows.velocityAlikeRow.mainSum:=by unfold Func.isWrapper; first | (rw [if_pos (by decide +kernel)]; kernel_rfl) | (rw [if_neg (by decide +kernel)]; exact ⟨rfl,rfl⟩)
set_option maxRecDepth 100000 in
theorem said:Rows.VelocityAlikeSaid:=
 OpenClaim.holds_of_cond 12 Tryz.f12 rfl rfl rfl rfl rfl rfl rfl ⟨rfl,rfl,rfl,rfl,rfl⟩ rfl rfl rfl rfl rfl fnum Tryz.func12 facts inst wrapper
   (fun os started H enc _ F=>by rw [OpenClaim.pre_eq_preRow]; exact lifted os started H enc F)
theorem looks:false=Tryz.prog.looks []:=by kernel_rfl
theorem standIn:∀ t,t=103 ∨ t=55 ∨ t=5 → Tryz.prog.wantsStandIn t=false:=by
 rintro t (rfl | rfl | rfl) <;> kernel_rfl
theorem plain (f : FuncId) (fn : Func) (hf : Tryz.pinned.checked.prog.funcNamed "moveout/moveoutlaw06.VelocityAlike" = some f) (hfn : Tryz.pinned.checked.prog.funcs[f]? = some fn) :
   false=Tryz.pinned.checked.prog.looks [] ∧ ∀ (j:Nat) t,fn.params[j]? = some t → Tryz.pinned.checked.prog.wantsStandIn t=false:=by
 obtain rfl:f=12:=Option.some.inj (fnum.symm.trans hf) |>.symm
 obtain rfl:fn=Tryz.f12:=(Option.some.inj (Tryz.func12.symm.trans hfn)).symm
 refine ⟨looks,fun j t ht=>?_⟩
 rw [params12] at ht
 have h:=Array.mem_of_getElem? ht
 simp at h
 exact standIn t (by rcases h with rfl | rfl | rfl <;> simp)
theorem wf:OpenClaim.wfByText (OpenSpec.ofChange Rows.velocityAlikeSpec) Rows.velocityAlikeRow=true:=by kernel_rfl
theorem main:Tryz.prog.mainIs=some ("a1a323c512223edc39f4736b19c83dbf0e7abd5a77a6adfc6f65b5272966d8f1" |> fun s=>(true,s.toList)):=by kernel_rfl
theorem goes:false=Rows.velocityAlikeRow.goesBy Tryz.prog:=by kernel_rfl
set_option maxRecDepth 100000 in
theorem card:Rows.VelocityAlikeCardSaid:=
 Claim7.holds_tied_plain_at .later [] _ _ _ _ said (fun _ h=>by cases h) wf (fun _ h=>by cases h) velocityAlike_row_tie rfl ⟨rfl,rfl⟩ main rfl plain goes
end velocityAlike
end
end Go.Proofs.YtkongcnmkiihjaaGreatDoor
