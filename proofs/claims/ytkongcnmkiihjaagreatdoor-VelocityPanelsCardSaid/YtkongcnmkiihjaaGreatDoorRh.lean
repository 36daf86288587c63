/-
The law VelocityPanels holds for whatever it is handed (no condition but the row's own).
-/
import Derived.Deep.Slices
import Derived.Test.YtkongcnmkiihjaaGreatDoorRa
import Derived.Test.YtkongcnmkiihjaaGreatDoorRb
import Derived.Test.YtkongcnmkiihjaaGreatDoorRg
import Derived.Test.YtkongcnmkiihjaaGreatDoorRd
import Derived.Test.YtkongcnmkiihjaaGreatDoorFa
import Derived.Test.YtkongcnmkiihjaaGreatDoorQa
namespace Go.Ab
open Go Go.ChangeShapes Go.WideShapes
structure WV where
 blk:Nat
 off:Nat
 cs:List Value
def wvH (N:Nat):List WV → Heap → Heap
 | [],G=>G
 | v :: vs,G=>wvH (N + 1) vs ((N,.inp v.off v.cs) :: G)
def wvLoc (N:Nat) (vs:List WV) (ds:List Nat):Vl:=⟨fun k=>if k < N then k else match (vs.map (·.blk) ++ ds)[k - N]? with | some b=>b | none=>0,fun _=>0⟩
theorem wvLoc_low {N:Nat} {vs:List WV} {ds:List Nat} {k:Nat} (h:k < N):(wvLoc N vs ds).loc k=k:=by simp only [wvLoc]; rw [if_pos h]
theorem wvLoc_at {N:Nat} {vs:List WV} {ds:List Nat} {i b:Nat} (h:(vs.map (·.blk) ++ ds)[i]? = some b):(wvLoc N vs ds).loc (N + i)=b:=by
 simp only [wvLoc]
 rw [if_neg (by omega),show N + i - N=i by omega,h]
theorem wvLoc_view {N:Nat} {vs:List WV} {ds:List Nat} {i:Nat} {v:WV} (h:vs[i]? = some v):(wvLoc N vs ds).loc (N + i)=v.blk:=by
 have hi:=(List.getElem?_eq_some_iff.1 h).1
 exact wvLoc_at (by rw [List.getElem?_append_left (by simpa using hi),List.getElem?_map,h]; rfl)
theorem wvLoc_dead {N:Nat} {vs:List WV} {ds:List Nat} {i b:Nat} (h:ds[i]? = some b):(wvLoc N vs ds).loc (N + vs.length + i)=b:=by
 rw [Nat.add_assoc]
 exact wvLoc_at (by rw [List.getElem?_append_right (by rw [List.length_map]; omega),List.length_map,show vs.length + i - vs.length=i by omega,h])
theorem wvH_low:∀ (vs:List WV) (M:Nat) (G:Heap) (k:Nat) (b:Blk),k < M → hget G k=some b → hget (wvH M vs G) k=some b
 | [],_,_,_,_,_,h=>h
 | _ :: xs,M,G,k,b,hk,h=>wvH_low xs (M + 1) _ k b (by omega) (by rw [hget_cons,if_neg (by omega)]; exact h)
theorem wvH_at {N:Nat}:∀ (vs:List WV) (G:Heap) (i:Nat) (v:WV),vs[i]? = some v → hget (wvH N vs G) (N + i)=some (.inp v.off v.cs)
 | [],_,i,v,h=>by simp at h
 | u :: vs,G,0,v,h=>by
   simp at h; subst h
   exact wvH_low vs (N + 1) _ (N + 0) _ (by omega) (by rw [hget_cons,if_pos (by omega)])
 | u :: vs,G,i + 1,v,h=>by
   rw [show N + (i + 1)=N + 1 + i by omega]
   exact wvH_at vs _ i v (by simpa using h)
theorem hget_wvH {N:Nat}:∀ (vs:List WV) (G:Heap) (k:Nat) (b:Blk),(∀ k b,hget G k=some b → k < N) → hget (wvH N vs G) k=some b → hget G k=some b ∨ ∃ v,vs[k - N]? = some v ∧ N ≤ k ∧ b = .inp v.off v.cs
 | [],_,_,_,_,h=>.inl h
 | v :: vs,G,k,b,hG,h=>by
   have:=hget_wvH (N:=N + 1) vs ((N,.inp v.off v.cs) :: G) k b (fun j c hj=>by
     rw [hget_cons] at hj
     split at hj
     · omega
     · have:=hG j c hj
       omega) h
   rcases this with h2 | ⟨u,h1,h2,h3⟩
   · rw [hget_cons] at h2
     by_cases hk:N=k
     · rw [if_pos hk] at h2; injection h2 with h2; subst hk
       exact .inr ⟨v,by simp,Nat.le_refl _,h2.symm⟩
     · rw [if_neg hk] at h2
       exact .inl h2
   · refine .inr ⟨u,?_,by omega,h3⟩
     rw [show k - N=(k - (N + 1)) + 1 by omega]
     simpa using h1
theorem baseN {P : Program} {w : World} {N : Nat} (hgl : P.globals.size = N) {G : Heap} (hG : ∀ k b, hget G k = some b → k < N ∧ scB (· < N) b ∧ b.own = false ∧ ∀ φ : Vl, (∀ k, k < N → φ.loc k = k) → BRel P φ k b w.heap[k]?) (vs : List WV) (ds : List Nat)
   (hv:∀ v ∈ vs,scL (· < N + vs.length + ds.length) v.cs ∧ ∃ c t fz,w.heap[v.blk]? = some (.cells c t fz) ∧ ∀ i,i < v.cs.length → c[v.off + i]? = (denL (wvLoc N vs ds) v.cs)[i]?) :
   Base P (· < N + vs.length + ds.length) (wvLoc N vs ds) (N + vs.length + ds.length) (hget (wvH N vs G)) w [] act0 ∧ ∀ k b,hget (wvH N vs G) k=some b → b.own=false:=by
 have hH:∀ k b,hget (wvH N vs G) k=some b → hget G k=some b ∨ ∃ v,vs[k - N]? = some v ∧ N ≤ k ∧ b = .inp v.off v.cs:=fun k b hk=>hget_wvH vs G k b (fun k b h=>(hG k b h).1) hk
 have hown:∀ k b,hget (wvH N vs G) k=some b → b.own=false:=fun k b hk=>by
   rcases hH k b hk with h | ⟨v,_,_,rfl⟩
   · exact (hG k b h).2.2.1
   · rfl
 refine ⟨⟨⟨fun k b hk=>?_,fun k b k' b' h1 _ _ ho=>(by rw [hown k b h1] at ho; cases ho),fun g hg=>?_⟩,fun _ h=>h,fun g hg=>?_,?_,fun k b hk=>?_,fun t v hv=>by simp [lk] at hv,fun t v hv=>by simp [lk] at hv⟩,hown⟩
 · rcases hH k b hk with h | ⟨v,h1,h2,rfl⟩
   · obtain ⟨g1,_,_,g4⟩:=hG k b h
     rw [wvLoc_low g1]
     exact g4 _ fun j hj=>wvLoc_low hj
   · obtain ⟨_,c,t,fz,e1,e2⟩:=hv v (List.mem_of_getElem? h1)
     have:(wvLoc N vs ds).loc k=v.blk:=by
       have:=wvLoc_view (N:=N) (ds:=ds) h1
       rwa [show N + (k - N)=k by omega] at this
     rw [this]
     exact ⟨c,t,fz,e1,e2⟩
 · rw [hgl] at hg; exact wvLoc_low hg
 · rw [hgl] at hg; omega
 · rw [hgl]; omega
 · rcases hH k b hk with h | ⟨v,h1,h2,rfl⟩
   · obtain ⟨g1,g2,_,_⟩:=hG k b h
     exact ⟨by omega,scB_mono (fun j hj=>by show j < _; have hj:j < N:=hj; omega) _ g2⟩
   · have:=(List.getElem?_eq_some_iff.1 h1).1
     exact ⟨by omega,(hv v (List.mem_of_getElem? h1)).1⟩
structure RD where
 A:Option Addr
 L:Nat
 C:Nat
 Z:List Value
def RD.val (r:RD):Value:=.slice r.A r.L r.C
def RD.ok (w:World) (r:RD):Prop:=r.L ≤ r.C ∧ r.Z.length=r.C ∧ (r.A=none → r.C=0) ∧ afL r.Z=true ∧ ∀ a,r.A=some a → ∀ (c:Nat) v,r.Z[c]? = some v → w.cell? (a.add c)=some v
def RD.view (r:RD):WV:=match r.A with
 | some a=>if 0 < r.C then ⟨a.block,a.off,r.Z.take r.L⟩ else ⟨0,0,[]⟩
 | none=>⟨0,0,[]⟩
def RD.dead (r:RD):Nat:=match r.A with
 | some a=>a.block
 | none=>0
def RD.abs (vn dn:Nat) (r:RD):Value:=match r.A with
 | none=>.slice none 0 0
 | some a=>if 0 < r.C then .slice (some ⟨vn,a.off,none⟩) r.L r.C else match a.spot with
   | none=>.slice (some ⟨dn,a.off,none⟩) 0 0
   | some s=>.slice (some ⟨dn,a.off,some (a.off + 1 + s)⟩) 0 1
theorem afL_take:∀ (k:Nat) (vs:List Value),afL vs=true → afL (vs.take k)=true
 | 0,_,_=>by rw [List.take_zero]; rfl
 | _ + 1,[],_=>rfl
 | k + 1,v :: vs,h=>by
   simp only [afL,Bool.and_eq_true] at h
   simp only [List.take_succ_cons,afL,Bool.and_eq_true]
   exact ⟨h.1,afL_take k vs h.2⟩
section
variable {w:World} {r:RD}
theorem RD.spot (h:r.ok w) {a:Addr} (ha:r.A=some a) (hc:0 < r.C):a.spot=none ∧ ∃ c t fz,w.heap[a.block]? = some (.cells c t fz) ∧ ∀ (i:Nat) v,r.Z[i]? = some v → c[a.off + i]? = some v:=by
 obtain ⟨_,h2,_,_,h4⟩:=h
 have h0:=h4 a ha 0 r.Z[0] (List.getElem?_eq_getElem (by omega))
 have ha0:a.add 0=a:=by simp [Addr.add]
 rw [ha0] at h0
 unfold World.cell? at h0
 split at h0
 · rename_i c t fz hw
   split at h0
   · cases h0
   · rename_i hs
     have hs:a.spot=none:=by simpa using hs
     refine ⟨hs,c,t,fz,hw,fun i v hi=>?_⟩
     have:=h4 a ha i v hi
     obtain ⟨b,o,s⟩:=a
     dsimp only at hs hw
     subst hs
     rw [add_none,cell_get hw] at this
     exact this
 · cases h0
theorem RD.den {φ:Vl} {vn dn:Nat} (h:r.ok w) (hv:φ.loc vn=r.view.blk) (hd:φ.loc dn=r.dead) (hc:φ.cap dn=0):Ab.den φ (r.abs vn dn)=r.val:=by
 have h0:=h
 obtain ⟨h1,h2,h3,_⟩:=h0
 unfold RD.abs RD.val
 unfold RD.view at hv
 unfold RD.dead at hd
 cases hA:r.A with
 | none=>
   have:=h3 hA
   have hL:r.L=0:=by omega
   rw [hL,this]
   rfl
 | some a=>
   rw [hA] at hv hd
   dsimp only at hv hd ⊢
   by_cases hC:0 < r.C
   · obtain ⟨hs,_⟩:=RD.spot h hA hC
     rw [if_pos hC] at hv ⊢
     obtain ⟨b,o,s⟩:=a
     dsimp only at hs hv
     subst hs
     simp [Ab.den,hv]
   · have hC0:r.C=0:=by omega
     have hL:r.L=0:=by omega
     rw [if_neg hC,hL,hC0]
     obtain ⟨b,o,s⟩:=a
     dsimp only at hd
     cases s with
     | none=>simp [Ab.den,hd]
     | some s=>
       have h5:o < o + 1 + s:=by omega
       have h6:o + 1 + s - o - 1=s:=by omega
       simp [Ab.den,hd,hc,h5,h6]
theorem RD.sc {p:Nat → Prop} {vn dn:Nat} (h1:p vn) (h2:p dn):Ab.sc p (r.abs vn dn):=by
 unfold RD.abs
 split
 · trivial
 · split
   · exact h1
   · split
     · exact h2
     · exact h2
theorem RD.form {vn dn:Nat} (h:r.ok w):∃ a c,r.abs vn dn = .slice a r.L c:=by
 obtain ⟨h1,h2,h3,_⟩:=h
 unfold RD.abs
 cases hA:r.A with
 | none=>
   have hL:r.L=0:=by have:=h3 hA; omega
   exact ⟨_,_,by rw [hL]⟩
 | some a=>
   dsimp only
   split
   · exact ⟨_,_,rfl⟩
   · have hL:r.L=0:=by omega
     split <;> exact ⟨_,_,by rw [hL]⟩
theorem RD.seen {α:Type} {dec:Dec α} {H:Heap} {vn dn:Nat} {xs:List α} (h:r.ok w) (hv:hget H vn=some (.inp r.view.off r.view.cs)) (hl:r.L < 2147483648) (hlen:xs.length=r.L) (hd:∀ (i:Nat) v,(r.Z.take r.L)[i]? = some v → dec H [v]=xs[i]?):listV 1 dec H (r.abs vn dn)=some xs:=by
 have h0:=h
 obtain ⟨h1,h2,h3,_⟩:=h0
 have hnil:r.L=0 → xs=[]:=fun e=>List.length_eq_zero_iff.1 (by rw [hlen,e])
 unfold RD.abs
 unfold RD.view at hv
 cases hA:r.A with
 | none=>
   rw [hnil (by have:=h3 hA; omega)]
   rfl
 | some a=>
   rw [hA] at hv
   dsimp only at hv ⊢
   by_cases hC:0 < r.C
   · rw [if_pos hC] at hv ⊢
     have hz:(r.Z.take r.L).length=r.L:=by rw [List.length_take]; omega
     rw [← hlen]
     refine listV_mk (cs:=r.Z.take r.L) rfl ?_ (by rw [hz,hlen]) (by omega) hd
     rw [cellsA_eq,hv]
     simp [cellsB]
     exact List.take_of_length_le (by rw [List.length_take]; omega)
   · rw [if_neg hC,hnil (by omega)]
     split <;> rfl
theorem view_ok (hz:∃ c t fz,w.heap[0]? = some (.cells c t fz)) {φ:Vl} {p:Nat → Prop} (h:r.ok w):scL p r.view.cs ∧ ∃ c t fz,w.heap[r.view.blk]? = some (.cells c t fz) ∧ ∀ i,i < r.view.cs.length → c[r.view.off + i]? = (denL φ r.view.cs)[i]?:=by
 have h0:=h
 obtain ⟨h1,h2,h3,haf,_⟩:=h0
 have hdum:scL p ([]:List Value) ∧ ∃ c t fz,w.heap[0]? = some (.cells c t fz) ∧ ∀ i,i < ([]:List Value).length → c[0 + i]? = (denL φ [])[i]?:=by
   obtain ⟨c,t,fz,e⟩:=hz
   exact ⟨trivial,c,t,fz,e,fun i hi=>by simp at hi⟩
 unfold RD.view
 cases hA:r.A with
 | none=>exact hdum
 | some a=>
   dsimp only
   by_cases hC:0 < r.C
   · obtain ⟨hs,c,t,fz,hw,hc⟩:=RD.spot h hA hC
     rw [if_pos hC]
     refine ⟨scL_af _ _ (afL_take _ _ haf),c,t,fz,hw,fun i hi=>?_⟩
     dsimp only at hi ⊢
     rw [denL_af _ _ (afL_take _ _ haf),List.getElem?_eq_getElem hi]
     rw [List.length_take] at hi
     exact hc i _ (by rw [List.getElem_take,List.getElem?_eq_getElem (by omega)])
   · rw [if_neg hC]
     exact hdum
end
theorem leaf_af {l:Leaf} {v:Value} (h:l.fits v):af v=true:=by
 cases l with
 | int k=>obtain ⟨n,rfl,_⟩:=h; rfl
 | str=>obtain ⟨s,rfl,_⟩:=h; rfl
 | bool=>obtain ⟨b,rfl⟩:=h; rfl
 | flt k=>obtain ⟨b,rfl⟩:=h; rfl
section
variable {Hy:Type} {enc:TypeId × Value → Hy} {P:Program} {w:World} {base:Nat} {held:Bool}
theorem open_row {t e:TypeId} {d fuel:Nat} {lf:Leaf} {v:Value} {x:DataW Hy × List MemPlace} (ht:P.underlying t=some (.slice e)) (hl:leafs P d e=some [lf]) (hc:P.cellsOf e=1) (h:DataW.trod enc P w base (fun _=>true) held fuel t [v]=some x):∃ r:RD,v=r.val ∧ r.ok w ∧ r.C ≤ maxLen ∧ ∀ z ∈ r.Z,lf.fits z:=by
 rcases Deep.open_slice1 ht hc h with ⟨h0,_⟩ | ⟨a,len,cap,m,n,V,D,Pl,e0,_,hlc,hm,hmm,_,hx⟩
 · have h0:v = .slice none 0 0:=by simpa using h0
   refine ⟨⟨none,0,0,[]⟩,h0,⟨Nat.le_refl _,rfl,fun _=>rfl,rfl,fun a ha=>by cases ha⟩,Nat.zero_le _,fun z hz=>by cases hz⟩
 · simp only [if_true] at hmm
   subst hmm
   have hfit:∀ i,i < m → lf.fits (V i):=fun i hi=>(leafs_ok d e [lf] n [V i] _ hl (hx i hi).2).1
   have e0:v = .slice (some a) len m:=by simpa using e0
   refine ⟨⟨some a,len,m,(List.range m).map V⟩,e0,⟨hlc,by simp,(fun h=>by cases h),?_,fun a' ha c v hv=>?_⟩,hm,fun z hz=>?_⟩
   · have key:∀ l:List Nat,(∀ i ∈ l,i < m) → afL (l.map V)=true:=by
       intro l
       induction l with
       | nil=>intro _; rfl
       | cons i l ih=>
         intro hi
         rw [List.map_cons,afL,leaf_af (hfit i (hi i (List.mem_cons_self ..))),ih fun j hj=>hi j (List.mem_cons_of_mem _ hj)]
         rfl
     exact key _ fun i hi=>List.mem_range.1 hi
   · injection ha with ha
     subst ha
     rw [List.getElem?_map] at hv
     by_cases hi:c < m
     · rw [List.getElem?_range hi] at hv
       injection hv with hv
       rw [← hv]
       exact (hx c hi).1
     · rw [List.getElem?_eq_none (by simp; omega)] at hv
       cases hv
   · obtain ⟨i,hi,rfl⟩:=List.mem_map.1 hz
     exact hfit i (List.mem_range.1 hi)
end
structure TD where
 pre:List Value
 row:RD
def TD.val (t:TD):List Value:=t.pre ++ [t.row.val]
def TD.ok (sz:Nat) (w:World) (t:TD):Prop:=t.pre.length + 1=sz ∧ afL t.pre=true ∧ t.row.ok w
def HandS (sz:Nat) (w:World) (v:Value) (tds:List TD):Prop:=(v = .slice none 0 0 ∧ tds=[]) ∨ ∃ b o c,v = .slice (some ⟨b,o,none⟩) tds.length c ∧ tds.length ≤ maxLen ∧ (∃ k t fz,w.heap[b]? = some (.cells k t fz) ∧ ∀ j,j < tds.length * sz → k[o + j]? = (tds.flatMap TD.val)[j]?) ∧ ∀ r ∈ tds,TD.ok sz w r
def absT:Nat → Nat → List TD → List Value
 | vn,dn,t :: ts=>t.pre ++ t.row.abs vn dn :: absT (vn + 1) (dn + 1) ts
 | _,_,[]=>[]
def outT (v:Value) (tds:List TD) (vn dn:Nat):WV:=match v with
 | .slice (some a) _ _=>⟨a.block,a.off,absT vn dn tds⟩
 | _=>⟨0,0,[]⟩
def absS (v:Value) (tds:List TD) (on:Nat):Value:=match v with
 | .slice (some a) _ c=>.slice (some ⟨on,a.off,none⟩) tds.length c
 | _=>.slice none 0 0
section
variable {w:World} {v:Value} {sz:Nat}
theorem absT_len:∀ (tds:List TD) (vn dn:Nat),(∀ t ∈ tds,t.ok sz w) → (absT vn dn tds).length=tds.length * sz
 | [],_,_,_=>by simp [absT]
 | t :: ts,vn,dn,h=>by
   have h1:=(h t (List.mem_cons_self ..)).1
   rw [absT,List.length_append,List.length_cons,absT_len ts _ _ fun x hx=>h x (List.mem_cons_of_mem _ hx),List.length_cons,Nat.succ_mul]
   omega
theorem absT_den {φ:Vl} (hc:∀ k,φ.cap k=0):∀ (tds:List TD) (vn dn:Nat),(∀ t ∈ tds,t.ok sz w) → (∀ (i:Nat) t,tds[i]? = some t → φ.loc (vn + i)=t.row.view.blk ∧ φ.loc (dn + i)=t.row.dead) → denL φ (absT vn dn tds)=tds.flatMap TD.val
 | [],_,_,_,_=>rfl
 | t :: ts,vn,dn,hok,h=>by
   obtain ⟨_,h2,h3⟩:=hok t (List.mem_cons_self ..)
   obtain ⟨g1,g2⟩:=h 0 t rfl
   rw [Nat.add_zero] at g1 g2
   rw [absT,denL_append,denL_af _ _ h2]
   show t.pre ++ (Ab.den φ (t.row.abs vn dn) :: denL φ (absT (vn + 1) (dn + 1) ts))=_
   rw [RD.den h3 g1 g2 (hc _),absT_den hc ts _ _ (fun x hx=>hok x (List.mem_cons_of_mem _ hx)) fun i x hx=>by
     have:=h (i + 1) x (by rw [List.getElem?_cons_succ]; exact hx)
     rw [show vn + 1 + i=vn + (i + 1) by omega,show dn + 1 + i=dn + (i + 1) by omega]
     exact this,List.flatMap_cons]
   simp [TD.val]
theorem absT_sc {p:Nat → Prop}:∀ (tds:List TD) (vn dn:Nat),(∀ t ∈ tds,t.ok sz w) → (∀ i,i < tds.length → p (vn + i) ∧ p (dn + i)) → scL p (absT vn dn tds)
 | [],_,_,_,_=>trivial
 | t :: ts,vn,dn,hok,h=>by
   obtain ⟨_,h2,_⟩:=hok t (List.mem_cons_self ..)
   rw [absT,scL_append]
   refine ⟨scL_af _ _ h2,RD.sc (h 0 (by simp)).1 (h 0 (by simp)).2,absT_sc ts (vn + 1) (dn + 1) (fun x hx=>hok x (List.mem_cons_of_mem _ hx)) fun i hi=>?_⟩
   have:=h (i + 1) (by simpa using hi)
   rw [show vn + 1 + i=vn + (i + 1) by omega,show dn + 1 + i=dn + (i + 1) by omega]
   exact this
variable {tds:List TD}
theorem outT_ok (hN : HandS sz w v tds) (hz : ∃ c t fz, w.heap[0]? = some (.cells c t fz)) {φ : Vl} {p : Nat → Prop} {vn dn : Nat} (h : ∀ (i : Nat) r, tds[i]? = some r → φ.loc (vn + i) = r.row.view.blk ∧ φ.loc (dn + i) = r.row.dead) (hc : ∀ k, φ.cap k = 0) (hp : ∀ i, i < tds.length → p (vn + i) ∧ p (dn + i)) :
   scL p (outT v tds vn dn).cs ∧ ∃ c t fz,w.heap[(outT v tds vn dn).blk]? = some (.cells c t fz) ∧ ∀ i,i < (outT v tds vn dn).cs.length → c[(outT v tds vn dn).off + i]? = (denL φ (outT v tds vn dn).cs)[i]?:=by
 rcases hN with ⟨rfl,rfl⟩ | ⟨b,o,c,rfl,hlt,⟨k,t,fz,hw,hk⟩,hok⟩
 · obtain ⟨c,t,fz,e⟩:=hz
   exact ⟨trivial,c,t,fz,e,fun i hi=>by simp [outT] at hi⟩
 · refine ⟨absT_sc _ _ _ hok hp,k,t,fz,hw,fun i hi=>?_⟩
   simp only [outT] at hi ⊢
   rw [absT_len _ _ _ hok] at hi
   rw [absT_den hc _ _ _ hok h,hk i hi]
theorem absS_den (hN:HandS sz w v tds) {φ:Vl} {on:Nat} (h:φ.loc on=(outT v tds 0 0).blk):Ab.den φ (absS v tds on)=v:=by
 rcases hN with ⟨rfl,rfl⟩ | ⟨b,o,c,rfl,hlt,_,hok⟩
 · rfl
 · simp [absS,Ab.den,h,outT]
theorem absS_sc {p:Nat → Prop} {on:Nat} (h:p on):Ab.sc p (absS v tds on):=by
 unfold absS
 split
 · exact h
 · trivial
theorem absS_cells (hN:HandS sz w v tds) {H:Heap} {on vn dn:Nat} (ho:hget H on=some (.inp (outT v tds vn dn).off (outT v tds vn dn).cs)):(v = .slice none 0 0 ∧ tds=[]) ∨ ∃ o c,absS v tds on = .slice (some ⟨on,o,none⟩) tds.length c ∧ cellsA H on o (tds.length * sz)=some (absT vn dn tds):=by
 rcases hN with h | ⟨b,o,c,rfl,hlt,_,hok⟩
 · exact .inl h
 · refine .inr ⟨o,c,rfl,?_⟩
   rw [cellsA_eq,ho]
   have:=absT_len tds vn dn hok
   simp [cellsB,outT,this]
   exact List.take_of_length_le (by omega)
end
section
variable {Hy:Type} {enc:TypeId × Value → Hy} {P:Program} {w:World} {base:Nat} {held:Bool}
def flatF (P:Program) (d:Nat) (fl:List Field):Option (List Leaf):=fl.foldlM (fun acc f=>if f.offset=acc.length then (leafs P d f.type).bind fun l=>if l.length=P.cellsOf f.type then some (acc ++ l) else none else none) []
theorem flat_ok {spare : Nat → Bool} {d m : Nat} {cs : List Value} : ∀ (fl : List Field) (acc res : List Leaf), fl.foldlM (fun acc f => if f.offset = acc.length then (leafs P d f.type).bind fun l => if l.length = P.cellsOf f.type then some (acc ++ l) else none else none) acc = some res →
   fitsL acc (cs.take acc.length) → (∀ f ∈ fl,∃ y,DataW.trod enc P w base spare held m f.type ((cs.drop f.offset).take (P.cellsOf f.type))=some y) → fitsL res (cs.take res.length)
 | [],acc,res,h1,h2,_=>by injection h1 with h1; subst h1; exact h2
 | f :: fl,acc,res,h1,h2,h3=>by
   rw [List.foldlM_cons] at h1
   simp only [Option.bind_eq_bind,Option.bind_eq_some_iff] at h1
   obtain ⟨acc',h1,h4⟩:=h1
   split at h1
   · rename_i ho
     rw [Option.bind_eq_some_iff] at h1
     obtain ⟨l',h5,h6⟩:=h1
     split at h6
     · rename_i hc'
       injection h6 with h6; subst h6
       obtain ⟨y,hy⟩:=h3 f (List.mem_cons_self ..)
       have:=leafs_ok d f.type l' m _ y h5 hy
       rw [← hc',ho] at this
       refine flat_ok fl _ _ h4 ?_ fun g hg=>h3 g (List.mem_cons_of_mem _ hg)
       rw [List.length_append,List.take_add]
       exact fitsL_append h2 this
     · cases h6
   · cases h1
theorem fitsL_af:∀ {ls:List Leaf} {vs:List Value},fitsL ls vs → afL vs=true
 | [],[],_=>rfl
 | _ :: _,_ :: _,⟨h1,h2⟩=>by
   simp only [afL,Bool.and_eq_true]
   exact ⟨leaf_af h1,fitsL_af h2⟩
 | [],_ :: _,h=>h.elim
 | _ :: _,[],h=>h.elim
theorem open_el {e q qe : TypeId} {d fuel : Nat} {fs : Array Field} {fl : List Field} {g : Field} {ls : List Leaf} {lf : Leaf} {cs : List Value} {x : DataW Hy × List MemPlace} (he : P.underlying e = some (.struct fs)) (hfs : fs.toList = fl ++ [g]) (hfl : flatF P d fl = some ls) (hg : g.offset = ls.length ∧ g.type = q) (hce : P.cellsOf e = ls.length + 1)
   (hq:P.underlying q=some (.slice qe)) (hcq:P.cellsOf q=1) (hl:leafs P d qe=some [lf]) (hcqe:P.cellsOf qe=1) (h:DataW.trod enc P w base (fun _=>true) held fuel e cs=some x) :
   ∃ t:TD,cs=t.val ∧ fitsL ls t.pre ∧ t.ok (ls.length + 1) w ∧ t.row.C ≤ maxLen ∧ ∀ z ∈ t.row.Z,lf.fits z:=by
 obtain ⟨xs,m,rfl,_,hlen,hxl,hel⟩:=DataW.trod_struct he h
 have each:∀ f ∈ fs.toList,∃ y,DataW.trod enc P w base (fun _=>true) held m f.type ((cs.drop f.offset).take (P.cellsOf f.type))=some y:=fun f hf=>by
   obtain ⟨i,hi,rfl⟩:=List.getElem_of_mem hf
   have h1:=hel i fs[i] (by simp)
   obtain ⟨y,hy⟩:∃ y,xs[i]? = some y:=⟨xs[i]'(by rw [hxl]; simpa using hi),by simp⟩
   rw [hy] at h1
   exact ⟨y,by simpa using h1⟩
 have hpre:=flat_ok (cs:=cs) fl [] ls hfl (by simp [fitsL]) fun f hf=>each f (by rw [hfs]; exact List.mem_append_left _ hf)
 obtain ⟨y,hy⟩:=each g (by rw [hfs]; exact List.mem_append_right _ (List.mem_singleton_self g))
 rw [hg.1,hg.2,hcq] at hy
 rw [hce] at hlen
 have hd:cs.drop ls.length=[cs[ls.length]'(by omega)]:=by
   rw [List.drop_eq_getElem_cons (by omega),List.drop_of_length_le (by omega)]
 rw [hd] at hy
 obtain ⟨r,h1,h2,h3,h4⟩:=open_row hq hl hcqe (v:=cs[ls.length]'(by omega)) hy
 have hpl:=fitsL_length hpre
 refine ⟨⟨cs.take ls.length,r⟩,?_,hpre,⟨by rw [hpl],fitsL_af hpre,h2⟩,h3,h4⟩
 show cs=cs.take ls.length ++ [r.val]
 rw [← h1,← hd,List.take_append_drop]
theorem open_els {t e q qe : TypeId} {d fuel : Nat} {fs : Array Field} {fl : List Field} {g : Field} {ls : List Leaf} {lf : Leaf} {v : Value} {x : DataW Hy × List MemPlace} {rr : Reach} {b0 : Nat} (ht : P.underlying t = some (.slice e)) (he : P.underlying e = some (.struct fs)) (hfs : fs.toList = fl ++ [g]) (hfl : flatF P d fl = some ls) (hg : g.offset = ls.length ∧ g.type = q) (hce : P.cellsOf e = ls.length + 1)
   (hq:P.underlying q=some (.slice qe)) (hcq:P.cellsOf q=1) (hl:leafs P d qe=some [lf]) (hcqe:P.cellsOf qe=1) (hok:Cell.okWide P w rr b0 t v) (h:DataW.trod enc P w base (fun _=>true) held fuel t [v]=some x) :
   ∃ tds,HandS (ls.length + 1) w v tds ∧ ∀ t ∈ tds,fitsL ls t.pre ∧ t.row.C ≤ maxLen ∧ ∀ z ∈ t.row.Z,lf.fits z:=by
 rcases Deep.open_slice ht h with ⟨h0,_⟩ | ⟨a,len,cap,m,n,D,Pl,e0,_,hlc,hm,hmm,_,hx⟩
 · exact ⟨[],.inl ⟨by simpa using h0,rfl⟩,fun r hr=>by cases hr⟩
 · simp only [if_true] at hmm
   subst hmm
   have e0:v = .slice (some a) len m:=by simpa using e0
   subst e0
   obtain ⟨hs,k,t',fz,hw⟩:=okWide_addr ht hok
   obtain ⟨b,o,s⟩:=a
   dsimp only at hs hw
   subst hs
   have each:∀ i,i < m → ∃ r:TD,w.cells? base ((⟨b,o,none⟩:Addr).add (i * P.cellsOf e)) (P.cellsOf e)=some r.val ∧ fitsL ls r.pre ∧ r.ok (ls.length + 1) w ∧ r.row.C ≤ maxLen ∧ ∀ z ∈ r.row.Z,lf.fits z:=fun i hi=>by
     obtain ⟨cs',h1,h2⟩:=hx i hi
     obtain ⟨r,g1,g2⟩:=open_el he hfs hfl hg hce hq hcq hl hcqe h2
     exact ⟨r,by rw [h1,g1],g2⟩
   have:Inhabited TD:=⟨⟨[],⟨none,0,0,[]⟩⟩⟩
   obtain ⟨R,hR⟩:=Deep.choose_lt each
   have hokR:∀ r ∈ (List.range len).map R,r.ok (ls.length + 1) w:=fun r hr=>by
     obtain ⟨i,hi,rfl⟩:=List.mem_map.1 hr
     rw [List.mem_range] at hi
     exact (hR i (by omega)).2.2.1
   refine ⟨(List.range len).map R,.inr ⟨b,o,m,by simp,by simp; omega,⟨k,t',fz,hw,fun j hj=>?_⟩,hokR⟩,fun r hr=>?_⟩
   · rw [List.length_map,List.length_range] at hj
     have hf:((List.range len).map R).flatMap TD.val=(((List.range len).map R).map TD.val).flatten:=List.flatMap_def ..
     rw [hf,flatten_get (m:=ls.length + 1) (Nat.succ_pos _) _ j fun r hr=>by
       obtain ⟨t,ht,rfl⟩:=List.mem_map.1 hr
       have:=(hokR t ht).1
       simp only [TD.val,List.length_append,List.length_singleton]
       omega]
     have hi:j / (ls.length + 1) < len:=by
       rw [Nat.div_lt_iff_lt_mul (Nat.succ_pos _)]
       exact hj
     rw [List.getElem?_map,List.getElem?_map,List.getElem?_range hi]
     have h4:=(World.cells?_some (hR _ (by omega:j / (ls.length + 1) < m)).1).2.2 (j % (ls.length + 1)) (by rw [hce]; exact Nat.mod_lt _ (Nat.succ_pos _))
     show k[o + j]? = (R (j / (ls.length + 1))).val[j % (ls.length + 1)]?
     rw [← h4,hce,add_none,Addr.add]
     have hmod:=Nat.div_add_mod j (ls.length + 1)
     rw [Nat.mul_comm] at hmod
     split
     · rename_i h0
       rw [cell_get hw]
       congr 1
       omega
     · rw [cell_get hw]
       congr 1
       show o + j=o + _ + _
       omega
   · obtain ⟨i,hi,rfl⟩:=List.mem_map.1 hr
     rw [List.mem_range] at hi
     obtain ⟨_,g1,_,g2⟩:=hR i (by omega)
     exact ⟨g1,g2⟩
end
end Go.Ab
namespace Go.Proofs.YtkongcnmkiihjaaGreatDoor
section
open Go Go.Ab Go.Proofs
theorem absT_at {sz:Nat}:∀ (tds:List TD) (vn dn i:Nat) (t:TD),(∀ t ∈ tds,t.pre.length + 1=sz) → tds[i]? = some t → ((absT vn dn tds).drop (i * sz)).take sz=t.pre ++ [t.row.abs (vn + i) (dn + i)]
 | [],_,_,_,_,_,h=>by simp at h
 | x :: tds,vn,dn,0,t,h,hi=>by
   simp at hi
   subst hi
   have:=h x (List.mem_cons_self ..)
   rw [Nat.zero_mul,List.drop_zero]
   show (x.pre ++ x.row.abs vn dn :: absT (vn + 1) (dn + 1) tds).take sz=_
   rw [show x.pre ++ x.row.abs vn dn :: absT (vn + 1) (dn + 1) tds=(x.pre ++ [x.row.abs vn dn]) ++ absT (vn + 1) (dn + 1) tds by simp]
   exact List.take_left' (by simp; omega)
 | x :: tds,vn,dn,i + 1,t,h,hi=>by
   have hx:=h x (List.mem_cons_self ..)
   have ih:=absT_at tds (vn + 1) (dn + 1) i t (fun y hy=>h y (List.mem_cons_of_mem _ hy)) (by simpa using hi)
   rw [Nat.succ_mul,Nat.add_comm,← List.drop_drop]
   show (((x.pre ++ x.row.abs vn dn :: absT (vn + 1) (dn + 1) tds).drop sz).drop (i * sz)).take sz=_
   rw [show x.pre ++ x.row.abs vn dn :: absT (vn + 1) (dn + 1) tds=(x.pre ++ [x.row.abs vn dn]) ++ absT (vn + 1) (dn + 1) tds by simp,List.drop_left' (by simp; omega),ih,show vn + 1 + i=vn + (i + 1) by omega,show dn + 1 + i=dn + (i + 1) by omega]
abbrev ls144:List Leaf:=[.int .i64,.int .i64,.int .i64,.int .i64,.int .i64,.int .i64,.int .i64,.int .i64,.bool]
theorem fits_rv:∀ (zs:List Value),(∀ z ∈ zs,(Leaf.flt .f32).fits z) → ∃ bs:List Nat,zs=bs.map rv
 | [],_=>⟨[],rfl⟩
 | z :: zs,h=>by
   obtain ⟨b,rfl⟩:=h z (List.mem_cons_self ..)
   obtain ⟨bs,rfl⟩:=fits_rv zs fun x hx=>h x (List.mem_cons_of_mem _ hx)
   exact ⟨b :: bs,rfl⟩
theorem fitsC {l:Leaf} {ls:List Leaf} {r:List Value} (h:fitsL (l :: ls) r):∃ v vs,r=v :: vs ∧ l.fits v ∧ fitsL ls vs:=by
 cases r with
 | nil=>exact h.elim
 | cons v vs=>exact ⟨v,vs,rfl,h.1,h.2⟩
def isTrc (t:TD) (x:Trc):Prop:=t.pre=x.hd.map iv ++ [.bool x.hole] ∧ x.hd.length=8 ∧ t.row.Z.take t.row.L=x.smp.map rv ∧ x.smp.length=t.row.L
theorem trc_one {w:World} {t:TD} (h1:fitsL ls144 t.pre) (h2:t.ok 10 w) (h3:∀ z ∈ t.row.Z,(Leaf.flt .f32).fits z):∃ x,isTrc t x:=by
 obtain ⟨_,_,e0,⟨a0,rfl,_⟩,k0⟩:=fitsC h1
 obtain ⟨_,_,rfl,⟨a1,rfl,_⟩,k1⟩:=fitsC k0
 obtain ⟨_,_,rfl,⟨a2,rfl,_⟩,k2⟩:=fitsC k1
 obtain ⟨_,_,rfl,⟨a3,rfl,_⟩,k3⟩:=fitsC k2
 obtain ⟨_,_,rfl,⟨a4,rfl,_⟩,k4⟩:=fitsC k3
 obtain ⟨_,_,rfl,⟨a5,rfl,_⟩,k5⟩:=fitsC k4
 obtain ⟨_,_,rfl,⟨a6,rfl,_⟩,k6⟩:=fitsC k5
 obtain ⟨_,_,rfl,⟨a7,rfl,_⟩,k7⟩:=fitsC k6
 obtain ⟨_,vs,rfl,⟨b,rfl⟩,k8⟩:=fitsC k7
 obtain rfl:vs=[]:=by
   cases vs with
   | nil=>rfl
   | cons=>exact k8.elim
 obtain ⟨bs,hbs⟩:=fits_rv (t.row.Z.take t.row.L) fun z hz=>h3 z (List.mem_of_mem_take hz)
 refine ⟨⟨[a0,a1,a2,a3,a4,a5,a6,a7],b,bs⟩,by rw [e0]; rfl,rfl,hbs,?_⟩
 have hl:(t.row.Z.take t.row.L).length=bs.length:=by rw [hbs,List.length_map]
 have hr:=h2.2.2
 rw [List.length_take,hr.2.1] at hl
 have:=hr.1
 dsimp only
 omega
theorem trcs_all {w:World}:∀ (tds:List TD),(∀ t ∈ tds,fitsL ls144 t.pre ∧ t.ok 10 w ∧ ∀ z ∈ t.row.Z,(Leaf.flt .f32).fits z) → ∃ ts:List Trc,ts.length=tds.length ∧ ∀ (i:Nat) t x,tds[i]? = some t → ts[i]? = some x → isTrc t x
 | [],_=>⟨[],rfl,fun i t x h=>by simp at h⟩
 | t :: tds,h=>by
   obtain ⟨h1,h2,h3⟩:=h t (List.mem_cons_self ..)
   obtain ⟨x,hx⟩:=trc_one h1 h2 h3
   obtain ⟨ts,e,hts⟩:=trcs_all tds fun y hy=>h y (List.mem_cons_of_mem _ hy)
   refine ⟨x :: ts,by simp [e],fun i t' x' ht hx'=>?_⟩
   cases i with
   | zero=>simp at ht hx'; subst ht hx'; exact hx
   | succ i=>exact hts i t' x' (by simpa using ht) (by simpa using hx')
theorem absS_seen {w : World} {v : Value} {tds : List TD} (hN : HandS 10 w v tds) (hf : ∀ t ∈ tds, fitsL ls144 t.pre ∧ t.row.C ≤ maxLen ∧ ∀ z ∈ t.row.Z, (Leaf.flt .f32).fits z) {H : Heap} {on vn dn : Nat} (ho : hget H on = some (.inp (outT v tds vn dn).off (outT v tds vn dn).cs)) (hr : ∀ (i : Nat) t, tds[i]? = some t → hget H (vn + i) = some (.inp t.row.view.off t.row.view.cs)) :
   ∃ oa c,absS v tds on = .slice oa tds.length c ∧ (tds.length < 2147483648 → ∃ Ls:List Nat,Ls.length=tds.length ∧ listV 10 decTL H (.slice oa tds.length c)=some Ls ∧ ((∀ x ∈ Ls,x < 2147483648) → ∃ ts,trcV H (.slice oa tds.length c)=some ts ∧ ts.map (·.smp.length)=Ls)):=by
 have hokT:∀ t ∈ tds,t.ok 10 w:=by
   rcases hN with ⟨_,rfl⟩ | ⟨_,_,_,_,_,_,h⟩
   · intro t ht; cases ht
   · exact h
 rcases absS_cells hN ho with ⟨rfl,rfl⟩ | ⟨o,c,e,hcs⟩
 · exact ⟨none,0,rfl,fun _=>⟨[],rfl,rfl,fun _=>⟨[],rfl,rfl⟩⟩⟩
 · refine ⟨_,_,e,fun hl=>?_⟩
   obtain ⟨ts,hts,hx⟩:=trcs_all (w:=w) tds fun t ht=>⟨(hf t ht).1,hokT t ht,(hf t ht).2.2⟩
   have hat:=fun i t h=>absT_at tds vn dn i t (fun t ht=>(hokT t ht).1) h
   have hmax:maxLen < 9223372036854775808:=by decide
   refine ⟨tds.map (·.row.L),by simp,?_,fun hsm=>⟨ts,?_,?_⟩⟩
   · have:=listV_mkN (sz:=10) (dec:=decTL) (H:=H) (a:=⟨on,o,none⟩) (cap:=c) (cs:=absT vn dn tds) (l:=tds.map (·.row.L)) rfl (by rw [List.length_map]; exact hcs) (fun i hi=>?_) (by rw [List.length_map]; exact hl)
     · rw [List.length_map] at this; exact this
     · rw [List.length_map] at hi
       rw [hat i _ (List.getElem?_eq_getElem hi),List.getElem_map]
       obtain ⟨a,c',e'⟩:=RD.form (vn:=vn + i) (dn:=dn + i) (hokT _ (List.getElem_mem hi)).2.2
       rw [e']
       have h9:tds[i].pre.length=9:=by have:=(hokT _ (List.getElem_mem hi)).1; omega
       unfold decTL
       rw [List.getElem?_append_right (by omega),h9]
       have:=(hf _ (List.getElem_mem hi)).2.1
       have:=(hokT _ (List.getElem_mem hi)).2.2.1
       show (if tds[i].row.L < 9223372036854775808 then some tds[i].row.L else none)=_
       rw [if_pos (by omega)]
   · have:=listV_mkN (sz:=10) (dec:=decT) (H:=H) (a:=⟨on,o,none⟩) (cap:=c) (cs:=absT vn dn tds) (l:=ts) rfl (by rw [hts]; exact hcs) (fun i hi=>?_) (by rw [hts]; exact hl)
     · rw [hts] at this; exact this
     · have hi':i < tds.length:=by omega
       obtain ⟨x1,x2,x3,x4⟩:=hx i _ _ (List.getElem?_eq_getElem hi') (List.getElem?_eq_getElem hi)
       rw [hat i _ (List.getElem?_eq_getElem hi'),x1,List.append_assoc]
       refine decT_mk x2 (RD.seen (hokT _ (List.getElem_mem hi')).2.2 (hr i _ (List.getElem?_eq_getElem hi')) (hsm _ (List.mem_map_of_mem (f:=fun t:TD=>t.row.L) (List.getElem_mem hi'))) x4 fun j v hj=>?_)
       rw [x3] at hj
       exact rv_dec j v hj
   · apply List.ext_getElem?
     intro i
     rw [List.getElem?_map,List.getElem?_map]
     by_cases hi:i < tds.length
     · rw [List.getElem?_eq_getElem hi,List.getElem?_eq_getElem (by omega)]
       have:=(hx i _ _ (List.getElem?_eq_getElem hi) (List.getElem?_eq_getElem (by omega))).2.2.2
       simp [this]
     · rw [List.getElem?_eq_none (by omega),List.getElem?_eq_none (by omega)]
       rfl
end
section
open Go Go.Ab Go.Proofs Go.ChangeShapes Go.WideShapes Go.ChangeAt Go.RowKit
theorem tysize:Tryz.prog.types.size=353:=by kernel_rfl
namespace velocityHyperbolas
end velocityHyperbolas
theorem fits_cons {l:Leaf} {ls:List Leaf} {r:List Value} (h:fitsL (l :: ls) r):∃ v vs,r=v :: vs ∧ l.fits v ∧ fitsL ls vs:=by
 cases r with
 | nil=>exact h.elim
 | cons v vs=>exact ⟨v,vs,rfl,h.1,h.2⟩
theorem fits_nil {r:List Value} (h:fitsL [] r):r=[]:=by
 cases r with
 | nil=>rfl
 | cons v vs=>exact h.elim
theorem leafs3:leafs Tryz.prog 6 3=some [.int .i64]:=by kernel_rfl
theorem fits_ints:∀ rows:List (List Value),(∀ r ∈ rows,fitsL [.int .i64] r) → ∃ ns:List Int,rows.flatten=ns.map iv ∧ ns.length=rows.length
 | [],_=>⟨[],rfl,rfl⟩
 | r :: rows,h=>by
   obtain ⟨_,_,e1,⟨n,rfl,hn⟩,h1⟩:=fits_cons (h r (List.mem_cons_self ..))
   obtain rfl:=fits_nil h1
   obtain ⟨ns,h2,h3⟩:=fits_ints rows fun r hr=>h r (List.mem_cons_of_mem _ hr)
   exact ⟨n :: ns,by rw [List.flatten_cons,h2,e1]; rfl,by simp [h3]⟩
set_option maxRecDepth 100000 in
theorem open_set {H : Type} {enc : TypeId × Value → H} {W : World} {base : Nat} {v : Value} {d : DataW H} {p : List MemPlace} (hv : Value.okWide Tryz.prog W .any base 26 v) (h : DataW.Trod enc Tryz.prog W 0 (fun _ => true) true 26 v d p) :
   ∃ (sl:Value) (w s e:Int),v=setA sl w s e ∧
     (sl = .slice none 0 0 ∨ ∃ (b o c:Nat) (ns:List Int),sl = .slice (some ⟨b,o,none⟩) ns.length c ∧ ns.length ≤ maxLen ∧ ∃ cs t fz,W.heap[b]? = some (.cells cs t fz) ∧ ∀ i,i < (ns.map iv).length → cs[o + i]? = (ns.map iv)[i]?):=by
 unfold Value.okWide at hv
 rw [Tryz.underlying26] at hv
 obtain ⟨cs,rfl,hsz,ts,hts,_,hrow⟩:=hv
 rw [show Tryz.prog.cellTypes Tryz.prog.depth 26=some [24,3,3,3] by kernel_rfl] at hts
 injection hts with hts; subst hts
 rw [show Tryz.prog.cellsOf 26=4 by kernel_rfl] at hsz
 obtain ⟨l⟩:=cs
 match l,hsz with
 | [v0,v1,v2,v3],_=>
   obtain ⟨u',h2,h3⟩:=hrow 0 v0 rfl
   obtain rfl:24=u':=by simpa using h2
   obtain ⟨fuel,h⟩:=h
   obtain ⟨xs,m,rfl,_,hlen,hxl,hel⟩:=DataW.trod_struct Tryz.underlying26 h
   have key:∀ j (f:Field),(match Tryz.prog.underlying 26 with | some (.struct fs)=>fs[j]? | _=>none)=some f → ∃ y,DataW.trod enc Tryz.prog W 0 (fun _=>true) true m f.type (([v0,v1,v2,v3].drop f.offset).take (Tryz.prog.cellsOf f.type))=some y:=fun j f hf=>by
     rw [Tryz.underlying26] at hf
     have h4:=hel j f hf
     have hpos:=(Array.getElem?_eq_some_iff.1 hf).1
     obtain ⟨y,hy⟩:∃ y,xs[j]? = some y:=⟨xs[j]'(by omega),by simp⟩
     rw [hy] at h4
     exact ⟨y,by simpa [Value.cells] using h4⟩
   obtain ⟨y0,k0⟩:=key 0 _ (by rw [Tryz.underlying26]; rfl)
   obtain ⟨y1,k1⟩:=key 1 _ (by rw [Tryz.underlying26]; rfl)
   obtain ⟨y2,k2⟩:=key 2 _ (by rw [Tryz.underlying26]; rfl)
   obtain ⟨y3,k3⟩:=key 3 _ (by rw [Tryz.underlying26]; rfl)
   have e0:(([v0,v1,v2,v3].drop 0).take (Tryz.prog.cellsOf 24))=[v0]:=by kernel_rfl
   have e1:(([v0,v1,v2,v3].drop 1).take (Tryz.prog.cellsOf 3))=[v1]:=by kernel_rfl
   have e2:(([v0,v1,v2,v3].drop 2).take (Tryz.prog.cellsOf 3))=[v2]:=by kernel_rfl
   have e3:(([v0,v1,v2,v3].drop 3).take (Tryz.prog.cellsOf 3))=[v3]:=by kernel_rfl
   have k0':DataW.trod enc Tryz.prog W 0 (fun _=>true) true m 24 [v0]=some y0:=by rw [← e0]; exact k0
   have l1:fitsL [.int .i64] [v1]:=by rw [← e1]; exact leafs_ok 6 3 _ m _ y1 leafs3 k1
   have l2:fitsL [.int .i64] [v2]:=by rw [← e2]; exact leafs_ok 6 3 _ m _ y2 leafs3 k2
   have l3:fitsL [.int .i64] [v3]:=by rw [← e3]; exact leafs_ok 6 3 _ m _ y3 leafs3 k3
   obtain ⟨⟨n1,rfl,_⟩,_⟩:=l1
   obtain ⟨⟨n2,rfl,_⟩,_⟩:=l2
   obtain ⟨⟨n3,rfl,_⟩,_⟩:=l3
   refine ⟨v0,n1,n2,n3,rfl,?_⟩
   rcases handed_slice (d:=6) Tryz.underlying24 leafs3 (by kernel_rfl) (by simp) h3 k0' with h0 | ⟨b,o,len,cap,rows,e,h5,h6,h7,h8,cs,t,fz,hw,hc⟩
   · exact .inl h0
   · obtain ⟨ns,f1,f2⟩:=fits_ints rows h8
     have:len=ns.length:=by omega
     subst this
     rw [f1] at hc
     exact .inr ⟨b,o,cap,ns,e,by omega,cs,t,fz,hw,hc⟩
namespace velocityMoved
end velocityMoved
theorem leafs9:leafs Tryz.prog 6 9=some [.str]:=by kernel_rfl
theorem leafs145:leafs Tryz.prog 6 145=some [.flt .f32]:=by kernel_rfl
noncomputable def flds (t:TypeId):List Field:=match Tryz.prog.underlying t with
 | some (.struct fs)=>fs.toList
 | _=>[]
theorem flat144:flatF Tryz.prog 6 ((flds 144).take 2)=some ls144:=by kernel_rfl
set_option maxRecDepth 100000 in
theorem open_shot {H : Type} {enc : TypeId × Value → H} {W : World} {base : Nat} {v : Value} {d : DataW H} {p : List MemPlace} (hv : Value.okWide Tryz.prog W .any base 103 v) (h : DataW.Trod enc Tryz.prog W 0 (fun _ => true) true 103 v d p) :
   ∃ (s:ByteArray) (l:Value) (tds:List TD),v = .agg ⟨[.string s,l]⟩ ∧ HandS 10 W l tds ∧ ∀ t ∈ tds,fitsL ls144 t.pre ∧ t.row.C ≤ maxLen ∧ ∀ z ∈ t.row.Z,(Leaf.flt .f32).fits z:=by
 unfold Value.okWide at hv
 rw [Tryz.underlying103] at hv
 obtain ⟨cs,rfl,hsz,ts,hts,_,hrow⟩:=hv
 rw [show Tryz.prog.cellTypes Tryz.prog.depth 103=some [9,101] by kernel_rfl] at hts
 injection hts with hts; subst hts
 rw [show Tryz.prog.cellsOf 103=2 by kernel_rfl] at hsz
 obtain ⟨l⟩:=cs
 match l,hsz with
 | [v0,v1],_=>
   obtain ⟨u',h2,h3⟩:=hrow 1 v1 rfl
   obtain rfl:101=u':=by simpa using h2
   obtain ⟨fuel,h⟩:=h
   obtain ⟨xs,m,rfl,_,hlen,hxl,hel⟩:=DataW.trod_struct Tryz.underlying103 h
   have key:∀ j (f:Field),(match Tryz.prog.underlying 103 with | some (.struct fs)=>fs[j]? | _=>none)=some f → ∃ y,DataW.trod enc Tryz.prog W 0 (fun _=>true) true m f.type (([v0,v1].drop f.offset).take (Tryz.prog.cellsOf f.type))=some y:=fun j f hf=>by
     rw [Tryz.underlying103] at hf
     have h4:=hel j f hf
     have hpos:=(Array.getElem?_eq_some_iff.1 hf).1
     obtain ⟨y,hy⟩:∃ y,xs[j]? = some y:=⟨xs[j]'(by omega),by simp⟩
     rw [hy] at h4
     exact ⟨y,by simpa [Value.cells] using h4⟩
   obtain ⟨y0,k0⟩:=key 0 _ (by rw [Tryz.underlying103]; rfl)
   obtain ⟨y1,k1⟩:=key 1 _ (by rw [Tryz.underlying103]; rfl)
   have e0:(([v0,v1].drop 0).take (Tryz.prog.cellsOf 9))=[v0]:=by kernel_rfl
   have e1:(([v0,v1].drop 1).take (Tryz.prog.cellsOf 101))=[v1]:=by kernel_rfl
   have l0:fitsL [.str] [v0]:=by rw [← e0]; exact leafs_ok 6 9 _ m _ y0 leafs9 k0
   have k1':DataW.trod enc Tryz.prog W 0 (fun _=>true) true m 101 [v1]=some y1:=by rw [← e1]; exact k1
   obtain ⟨⟨s,rfl,_⟩,_⟩:=l0
   obtain ⟨tds,g1,g2⟩:=open_els (d:=6) (lf:=.flt .f32) (qe:=145) (q:=126) (fl:=(flds 144).take 2) (ls:=ls144) (g:={ name := "Samples",type:=126,offset:=9,embedded:=false,tag := "",pkgPath := "",byteOffset:=72 }) Tryz.underlying101 Tryz.underlying144 (by kernel_rfl) flat144 ⟨by kernel_rfl,by kernel_rfl⟩ (by kernel_rfl) Tryz.underlying126 (by kernel_rfl) leafs145 (by kernel_rfl) h3 k1'
   exact ⟨s,v1,tds,rfl,g1,g2⟩
def ShotL (H:Heap) (oa:Option Addr) (L c:Nat):Prop:=L < 2147483648 → ∃ Ls:List Nat,Ls.length=L ∧ listV 10 decTL H (.slice oa L c)=some Ls ∧ ((∀ x ∈ Ls,x < 2147483648) → ∃ ts,trcV H (.slice oa L c)=some ts ∧ ts.map (·.smp.length)=Ls)
structure IntL (H:Heap) (v:Value) (k:Nat):Prop where
 form:(v = .slice none 0 0 ∧ k=0) ∨ ∃ a c,v = .slice (some a) k c ∧ flat a=true ∧ cellsA H a.block a.off 0=some []
 read:k < 2147483648 → ∃ l:List Int,l.length=k ∧ intsW H v=some l
theorem IntL.len {H:Heap} {v:Value} {k:Nat} (h:IntL H v k):∃ oa c,v = .slice oa k c:=by
 rcases h.form with ⟨rfl,rfl⟩ | ⟨a,c,rfl,_,_⟩
 · exact ⟨_,_,rfl⟩
 · exact ⟨_,_,rfl⟩
def Q57b (b:Bool) (_:List Value) (H:Heap) (n:Nat) (v:Value) (H':Heap) (n':Nat):Prop:=v = .bool b ∧ H'=H ∧ n'=n
set_option maxHeartbeats 1600000 in
set_option maxRecDepth 100000 in
theorem w11s {H:Heap} {n K P:Nat} {b:Bool} {s:ByteArray} {sl fv pv:Value} {w st e:Int} (h0:hget H 0=some (.inp 0 freeV)) (hR:dR H) (hs:∀ (G:Heap) (m:Nat),Sub (tidy n H) G → AC Tryz.prog 57 [.agg ⟨[.string s,sl]⟩] G m (.bool b) G m) (hF:IntL H fv K) (hp:∃ oa c,pv = .slice oa P c) (hbad:b=false ∨ fanK K=false ∨ (40 < P ∧ P ≠ 65)):AC Tryz.prog 11 [.agg ⟨[.string s,sl]⟩,setA fv w st e,pv] H n (.bool true) H n:=by
 refine AC.given fun hold hsc hgn=>AC.tidied (B:=[]) (by simp) ?_
 have h9:9 ≤ n:=gsz ▸ hgn
 have hlt:∀ k b,hget H k=some b → k < n:=fun k b h=>(hold k b h).1
 replace h0:hget (tidy n H) 0=some (.inp 0 freeV):=hget_tidy.2 ⟨h0,by omega,rfl⟩
 replace hR:hget (tidy n H) 1=some (.inp 0 rangesV):=hget_tidy.2 ⟨hR,by omega,rfl⟩
 replace hF:(fv = .slice none 0 0 ∧ K=0) ∨ ∃ a c,fv = .slice (some a) K c ∧ flat a=true ∧ cellsA (tidy n H) a.block a.off 0=some []:=by
   rcases hF.form with h | ⟨a,c,h1,h2,h3⟩
   · exact .inl h
   · exact .inr ⟨a,c,h1,h2,cellsA_tidy hlt h3⟩
 have hpm0:PM n (tidy n H):=PM.tidy
 obtain ⟨T,hT⟩:∃ T,tidy n H=T:=⟨_,rfl⟩
 rw [hT] at h0 hR hpm0 hs hF ⊢
 have hr:=recT_ok (P:=Tryz.prog) (l:=[(15,g15),(57,gEx Tryz.prog 57 (Q57b b)),(16,g16)]) (by simp only [List.forall_mem_cons]; exact ⟨ok15,gEx_ok,ok16,by simp⟩)
 have hr0:=recT_ok (P:=Tryz.prog) (l:=[]) (by simp)
 obtain ⟨pa,pc,rfl⟩:=hp
 obtain ⟨X,hX⟩:∃ X,(n + 1,Blk.cells [fv,iv w,iv st,iv e] 26) :: (n,Blk.cells [.string s,sl] 103) :: T=X:=⟨_,rfl⟩
 have hp1:PM (n + 1) ((n,Blk.cells [.string s,sl] 103) :: T):=hpm0.put rfl
 have hTX:Sub T X:=by rw [← hX]; exact hpm0.sub.trans hp1.sub
 have hb0:hget X n=some (.cells [.string s,sl] 103):=by rw [← hX,hget_cons,if_neg (by omega),hget_cons,if_pos rfl]
 have hb1:hget X (n + 1)=some (.cells [fv,iv w,iv st,iv e] 26):=by rw [← hX,hget_cons,if_pos rfl]
 have hld:=load103 hb0
 have h15:∀ m,g15 [] X m=some (.bool true,X,m):=fun m=>if_pos ⟨rfl,hTX _ _ hR,hTX _ _ h0⟩
 have h57:∀ m,gEx Tryz.prog 57 (Q57b b) [.agg ⟨[.string s,sl]⟩] X m=some (.bool b,X,m):=fun m=>by
   obtain ⟨v,H',n',h1,rfl,rfl,rfl⟩:=gEx_at (Q:=Q57b b) ⟨_,_,_,hs X m hTX,rfl,rfl,rfl⟩
   exact h1
 have h16:∀ m,g16 [fv] X m=some (.bool (fanK K),X,m):=fun m=>by
   rcases hF with ⟨rfl,rfl⟩ | ⟨a,c,rfl,hf,hc⟩
   · rfl
   · have:=hTX.cells hc
     simp only [g16,hf,this]
 have c0:cellA X (n + 1) 0=some fv:=by rw [cellA_eq,hb1]; rfl
 have l24:loadA Tryz.prog 24 X (.pointer (some ⟨n + 1,0,none⟩))=some fv:=by simp [-cellA,c0]
 refine AC.pure Tryz.func11 rfl (by kernel_rfl) rfl vs11 rfl ?_
 refine E.seq (E.reg hr0 (by simp; rfl) ?_)
 rw [hX]
 refine E.seq (E.seq ?_)
 obtain ⟨f,hf⟩:∃ f,fanK K=f:=⟨_,rfl⟩
 rw [hf] at hbad h16
 cases b with
 | false=>
   refine E.reg hr (by simp [-loadA,hld,h15,h57]; rfl) ?_
   refine E.cond (t:=true) (by simp) (fun _=>?_) (fun h=>by cases h)
   refine E.seq (E.reg hr (by simp [h15]; rfl) ?_)
   refine E.ret ?_
   exact pureK.ret rfl rfl (by simp) hTX
 | true=>
   cases f with
   | false=>
     refine E.reg hr (by simp [-loadA,hld,h15,h57,h16,l24]; rfl) ?_
     refine E.cond (t:=true) (by simp) (fun _=>?_) (fun h=>by cases h)
     refine E.seq (E.reg hr (by simp [h15]; rfl) ?_)
     refine E.ret ?_
     exact pureK.ret rfl rfl (by simp) hTX
   | true=>
     have hl:40 < (P:Int) ∧ ¬ (P:Int)=65:=by
       rcases hbad with h | h | h
       · cases h
       · cases h
       · exact ⟨by omega,by omega⟩
     obtain ⟨h40,h65⟩:=hl
     refine E.reg hr (by simp [-loadA,hld,h15,h57,h16,l24,h40,h65]; rfl) ?_
     refine E.cond (t:=true) (by simp) (fun _=>?_) (fun h=>by cases h)
     refine E.seq (E.reg hr (by simp [h15]; rfl) ?_)
     refine E.ret ?_
     exact pureK.ret rfl rfl (by simp) hTX
theorem w11 {H:Heap} {n K P:Nat} {s:ByteArray} {oa:Option Addr} {L c:Nat} {fv pv:Value} {w st e:Int} (h0:hget H 0=some (.inp 0 freeV)) (hR:dR H) (hl:ShotL H oa L c) (hF:IntL H fv K) (hP:IntL H pv P):AC Tryz.prog 11 [.agg ⟨[.string s,.slice oa L c]⟩,setA fv w st e,pv] H n (.bool true) H n:=by
 refine AC.given fun hold hsc hgn=>?_
 by_cases h1:60 < s.size ∨ 6 < L ∧ L ≠ 65
 · exact w11s h0 hR (fun G m _=>w57big h1) hF hP.len (.inl rfl)
 · obtain ⟨Ls,e',hu,hx⟩:=hl (by omega)
   subst e'
   have h57:∀ (G:Heap) (m:Nat),Sub (tidy n H) G → AC Tryz.prog 57 [.agg ⟨[.string s,.slice oa Ls.length c]⟩] G m (.bool (Ls.all shortN)) G m:=fun G m hG=>by
     have h2:=listV_mono (dec:=decTL) (fun _ _ _ _ _ h=>h) hG (listV_tidy (n:=n) decTL_tidy (fun k b h=>(hold k b h).1) hu)
     exact w57 (H:=G) (n:=m) (s:=s) h2 (by omega) (by omega)
   by_cases hb:Ls.all shortN=false ∨ fanK K=false ∨ (40 < P ∧ P ≠ 65)
   · exact w11s h0 hR h57 hF hP.len hb
   · have ha:Ls.all shortN=true:=by
       cases h:Ls.all shortN with
       | true=>rfl
       | false=>exact absurd (.inl h) hb
     have hk:fanK K=true:=by
       cases h:fanK K with
       | true=>rfl
       | false=>exact absurd (.inr (.inl h)) hb
     have hsm:∀ x ∈ Ls,x ≤ 1025:=fun x hx=>by
       have:=List.all_eq_true.1 ha x hx
       unfold shortN at this
       simp only [Bool.or_eq_true,decide_eq_true_eq] at this
       omega
     obtain ⟨ts,ht,hts⟩:=hx fun x hx=>by have:=hsm x hx; omega
     have hk17:=fanK_le hk
     obtain ⟨l,hl1,hl2⟩:=hF.read (by omega)
     obtain ⟨rl,hr1,hr2⟩:=hP.read (by omega)
     refine w11a (ts:=ts) h0 hR (shtV_mk ht) hu (by omega) (by omega) ha (fun x hx=>hsm _ ?_) hl2 (by rw [hl1]; exact hk) hr2 (by omega)
     rw [← hts]
     exact List.mem_map_of_mem (f:=fun x:Trc=>x.smp.length) hx
def HI (W:World) (v:Value) (ns:List Int):Prop:=(v = .slice none 0 0 ∧ ns=[]) ∨ ∃ (b o c:Nat),v = .slice (some ⟨b,o,none⟩) ns.length c ∧ ∃ cs t fz,W.heap[b]? = some (.cells cs t fz) ∧ ∀ i,i < (ns.map iv).length → cs[o + i]? = (ns.map iv)[i]?
noncomputable def HIv (v:Value) (ns:List Int):WV:=match v with
 | .slice (some a) _ _=>⟨a.block,a.off,ns.map iv⟩
 | _=>⟨0,0,[]⟩
def HIa (v:Value) (k:Nat):Value:=match v with
 | .slice (some a) len c=>.slice (some ⟨k,a.off,none⟩) len c
 | v=>v
theorem HI.ok {W:World} {v:Value} {ns:List Int} (h:HI W v ns) (hz:∃ c t fz,W.heap[0]? = some (.cells c t fz)) {φ:Vl} {p:Nat → Prop}:scL p (HIv v ns).cs ∧ ∃ c t fz,W.heap[(HIv v ns).blk]? = some (.cells c t fz) ∧ ∀ i,i < (HIv v ns).cs.length → c[(HIv v ns).off + i]? = (denL φ (HIv v ns).cs)[i]?:=by
 rcases h with ⟨rfl,rfl⟩ | ⟨b,o,c,rfl,cs,t,fz,hw,hc⟩
 · obtain ⟨c,t,fz,e⟩:=hz
   exact ⟨trivial,c,t,fz,e,fun i hi=>by simp [HIv] at hi⟩
 · exact ⟨scL_af _ _ (afL_iv ns),cs,t,fz,hw,fun i hi=>by
     show cs[o + i]? = (denL φ (ns.map iv))[i]?
     rw [denL_af _ _ (afL_iv ns)]; exact hc i hi⟩
theorem HI.seen {W:World} {v:Value} {ns:List Int} (h:HI W v ns) {H:Heap} {k:Nat} (hk:hget H k=some (.inp (HIv v ns).off (HIv v ns).cs)):IntL H (HIa v k) ns.length:=by
 rcases h with ⟨rfl,rfl⟩ | ⟨b,o,c,rfl,_⟩
 · exact ⟨.inl ⟨rfl,rfl⟩,fun _=>⟨[],rfl,rfl⟩⟩
 · have hk:hget H k=some (.inp o (ns.map iv)):=hk
   refine ⟨.inr ⟨_,c,rfl,rfl,?_⟩,fun hl=>⟨ns,rfl,?_⟩⟩
   · rw [cellsA_eq,hk]
     simp [cellsB]
   · show intsAt H ⟨k,o,none⟩ ns.length=some ns
     unfold intsAt
     rw [if_pos (by simp [flat]; omega),cellsA_eq,hk]
     simp only [Option.bind_some,cellsB]
     rw [if_pos (by simp),Nat.sub_self,List.drop_zero,List.take_of_length_le (by simp),Option.bind_some,intsOf_iv]
theorem HI.den {W:World} {v:Value} {ns:List Int} (h:HI W v ns) {φ:Vl} {k:Nat} (hk:φ.loc k=(HIv v ns).blk):Ab.den φ (HIa v k)=v:=by
 rcases h with ⟨rfl,rfl⟩ | ⟨b,o,c,rfl,_⟩
 · rfl
 · have hk:φ.loc k=b:=hk
   simp [HIa,Ab.den,hk]
theorem HI.sc {W:World} {v:Value} {ns:List Int} (h:HI W v ns) {k:Nat} {p:Nat → Prop} (hk:p k):Ab.sc p (HIa v k):=by
 rcases h with ⟨rfl,rfl⟩ | ⟨b,o,c,rfl,_⟩
 · trivial
 · exact hk
namespace velocityGathers
end velocityGathers
theorem lawPan {f : FuncId} (he : enterable Tryz.prog f = true) {W : World} (h0 : Lies W 0 freeV) (h1x : Lies W 1 rangesV) {s : ByteArray} {l fv pv : Value} {tds : List TD} {fs ps : List Int} {w st e : Int} (hN : HandS 10 W l tds) (hf : ∀ t ∈ tds, fitsL ls144 t.pre ∧ t.row.C ≤ maxLen ∧ ∀ z ∈ t.row.Z, (Leaf.flt .f32).fits z) (hF : HI W fv fs) (hP : HI W pv ps)
   (wk:∀ (H:Heap) (n:Nat) (oa:Option Addr) (c:Nat) (fv pv:Value),hget H 0=some (.inp 0 freeV) → dR H → ShotL H oa tds.length c → IntL H fv fs.length → IntL H pv ps.length → AC Tryz.prog f [.agg ⟨[.string s,.slice oa tds.length c]⟩,setA fv w st e,pv] H n (.bool true) H n) :
   Calls Tryz.prog f #[Value.agg ⟨[.string s,l]⟩,setA fv w st e,pv] W fun e W'=>e = .returned (.bool true) ∧ Below W.heap.size W W':=by
 have hz:∃ c t fz,W.heap[0]? = some (.cells c t fz):=by
   obtain ⟨c,t,fz,e,_⟩:=h0
   exact ⟨c,t,fz,e⟩
 have hokT:∀ t ∈ tds,t.ok 10 W:=by
   rcases hN with ⟨_,rfl⟩ | ⟨_,_,_,_,_,_,h⟩
   · intro t ht; cases ht
   · exact h
 obtain ⟨vs,hvs⟩:∃ vs,outT l tds 10 (12 + tds.length) :: (tds.map (·.row.view) ++ [HIv fv fs,HIv pv ps])=vs:=⟨_,rfl⟩
 obtain ⟨ds,hds⟩:∃ ds,tds.map (·.row.dead)=ds:=⟨_,rfl⟩
 have hvl:vs.length=tds.length + 3:=by rw [← hvs]; simp
 have hdl:ds.length=tds.length:=by rw [← hds]; simp
 have hv0:vs[0]? = some (outT l tds 10 (12 + tds.length)):=by rw [← hvs]; rfl
 have hvP:∀ (i:Nat) t,tds[i]? = some t → vs[1 + i]? = some t.row.view:=fun i t h=>by
   have hi:=(List.getElem?_eq_some_iff.1 h).1
   rw [← hvs,show 1 + i=i + 1 by omega,List.getElem?_cons_succ,List.getElem?_append_left (by simpa using hi),List.getElem?_map,h]
   rfl
 have hvF:vs[1 + tds.length]? = some (HIv fv fs):=by
   rw [← hvs,show 1 + tds.length=tds.length + 1 by omega,List.getElem?_cons_succ,List.getElem?_append_right (by simp)]
   simp
 have hvQ:vs[2 + tds.length]? = some (HIv pv ps):=by
   rw [← hvs,show 2 + tds.length=tds.length + 1 + 1 by omega,List.getElem?_cons_succ,List.getElem?_append_right (by simp)]
   simp
 have hdP:∀ (i:Nat) t,tds[i]? = some t → ds[i]? = some t.row.dead:=fun i t h=>by
   rw [← hds,List.getElem?_map,h]
   rfl
 have hlocP:∀ (i:Nat) t,tds[i]? = some t → (wvLoc 9 vs ds).loc (10 + i)=t.row.view.blk ∧ (wvLoc 9 vs ds).loc (12 + tds.length + i)=t.row.dead:=fun i t h=>by
   refine ⟨?_,?_⟩
   · have:=wvLoc_view (N:=9) (ds:=ds) (hvP i t h)
     rwa [show 9 + (1 + i)=10 + i by omega] at this
   · have:=wvLoc_dead (N:=9) (vs:=vs) (hdP i t h)
     rwa [hvl,show 9 + (tds.length + 3) + i=12 + tds.length + i by omega] at this
 have hcap:∀ k,(wvLoc 9 vs ds).cap k=0:=fun _=>rfl
 have hbase:=baseN (P:=Tryz.prog) (w:=W) gsz (G:=G0) (fun k b hk=>by
   rw [hget_cons,hget_cons] at hk
   by_cases e1:1=k
   · rw [if_pos e1] at hk
     injection hk with hk
     subst e1 hk
     refine ⟨by omega,scL_af _ _ af_rangesV,rfl,fun φ _=>?_⟩
     obtain ⟨c,t,fz,e1,e2⟩:=h1x
     refine ⟨c,t,fz,e1,fun i hi=>?_⟩
     rw [Nat.zero_add,denL_af _ _ af_rangesV]; exact e2 i hi
   · rw [if_neg e1] at hk
     by_cases e0:0=k
     · rw [if_pos e0] at hk
       injection hk with hk
       subst e0 hk
       refine ⟨by omega,scL_af _ _ af_freeV,rfl,fun φ _=>?_⟩
       obtain ⟨c,t,fz,e1,e2⟩:=h0
       refine ⟨c,t,fz,e1,fun i hi=>?_⟩
       rw [Nat.zero_add,denL_af _ _ af_freeV]; exact e2 i hi
     · rw [if_neg e0] at hk
       simp [hget] at hk) vs ds (fun u hu=>by
   rw [← hvs] at hu
   rcases List.mem_cons.1 hu with rfl | hu
   · exact outT_ok hN hz hlocP hcap fun i hi=>⟨by omega,by omega⟩
   · rcases List.mem_append.1 hu with hu | hu
     · obtain ⟨t,ht,rfl⟩:=List.mem_map.1 hu
       exact view_ok hz (hokT t ht).2.2
     · rcases List.mem_cons.1 hu with rfl | hu
       · exact hF.ok hz
       · rw [List.mem_singleton] at hu
         subst hu
         exact hP.ok hz)
 obtain ⟨hB,hown⟩:=hbase
 have hG1:hget G0 1=some (.inp 0 rangesV):=rfl
 have hG0:hget G0 0=some (.inp 0 freeV):=rfl
 have q0:=wvH_low vs 9 G0 0 _ (by omega) hG0
 have q1:=wvH_low vs 9 G0 1 _ (by omega) hG1
 obtain ⟨oa,c,e',hS⟩:=absS_seen hN hf (H:=wvH 9 vs G0) (on:=9) (vn:=10) (dn:=12 + tds.length) (by have:=wvH_at (N:=9) vs G0 0 _ hv0; simpa using this) (fun i t h=>by
   have:=wvH_at (N:=9) vs G0 (1 + i) _ (hvP i t h)
   rwa [show 9 + (1 + i)=10 + i by omega] at this)
 have e1:=absS_den hN (φ:=wvLoc 9 vs ds) (on:=9) (by
   have:=wvLoc_view (N:=9) (ds:=ds) hv0
   rw [show 9 + 0=9 by omega] at this
   rw [this]
   unfold outT
   split <;> rfl)
 rw [e'] at e1
 have hS2:=hF.seen (wvH_at (N:=9) vs G0 (1 + tds.length) _ hvF)
 have hS3:=hP.seen (wvH_at (N:=9) vs G0 (2 + tds.length) _ hvQ)
 have d2:=hF.den (φ:=wvLoc 9 vs ds) (wvLoc_view (N:=9) (ds:=ds) hvF)
 have d3:=hP.den (φ:=wvLoc 9 vs ds) (wvLoc_view (N:=9) (ds:=ds) hvQ)
 obtain ⟨fv',hfv'⟩:∃ v,HIa fv (9 + (1 + tds.length))=v:=⟨_,rfl⟩
 obtain ⟨pv',hpv'⟩:∃ v,HIa pv (9 + (2 + tds.length))=v:=⟨_,rfl⟩
 have s2:sc (· < 9 + vs.length + ds.length) fv':=by rw [← hfv']; exact hF.sc (by omega)
 have s3:sc (· < 9 + vs.length + ds.length) pv':=by rw [← hpv']; exact hP.sc (by omega)
 rw [hfv'] at hS2 d2
 rw [hpv'] at hS3 d3
 have hargs:#[Value.agg ⟨[.string s,l]⟩,setA fv w st e,pv]=(denL (wvLoc 9 vs ds) [.agg ⟨[.string s,.slice oa tds.length c]⟩,setA fv' w st e,pv']).toArray:=by
   simp only [denL,Ab.den,e1,d2,d3]
 have hsc:sc (· < 9 + vs.length + ds.length) (Value.slice oa tds.length c):=by rw [← e']; exact absS_sc (by omega)
 rw [hargs]
 exact (wk _ _ _ _ _ _ q0 q1 hS hS2 hS3).calls he rfl hB ⟨⟨trivial,hsc,trivial⟩,⟨s2,trivial,trivial,trivial,trivial⟩,s3,trivial⟩ hown
set_option maxRecDepth 100000 in
theorem open_path {H:Type} {enc:TypeId × Value → H} {W:World} {base:Nat} {v:Value} {d:DataW H} {p:List MemPlace} (hv:Value.okWide Tryz.prog W .any base 24 v) (h:DataW.Trod enc Tryz.prog W 0 (fun _=>true) true 24 v d p):∃ ps,HI W v ps:=by
 simp only [Value.okWide,Tryz.underlying24] at hv
 obtain ⟨a,len,cap,rfl⟩:∃ a len cap,v = .slice a len cap:=okWide_slice (P:=Tryz.prog) (w:=W) (r:=.any) (base:=base) Tryz.underlying24 (by simp only [Value.okWide,Tryz.underlying24]; exact hv)
 obtain ⟨fuel,hf⟩:=h
 rcases handed_slice (d:=6) Tryz.underlying24 leafs3 (by kernel_rfl) (by simp) hv (fuel:=fuel) (x:=(d,p)) hf with h0 | ⟨b,o,len',cap',rows,e,h1,h2,h3,h4,cs,t,fz,hw,hc⟩
 · exact ⟨[],.inl ⟨h0,rfl⟩⟩
 · obtain ⟨l,e1,e2⟩:=fits_ints rows h4
   have:len'=l.length:=by omega
   subst this
   rw [e1] at hc
   exact ⟨l,.inr ⟨b,o,cap',e,cs,t,fz,hw,hc⟩⟩
set_option maxRecDepth 100000 in
theorem open_fan {H : Type} {enc : TypeId × Value → H} {W : World} {base : Nat} {v : Value} {d : DataW H} {p : List MemPlace} (hv : Value.okWide Tryz.prog W .any base 26 v) (h : DataW.Trod enc Tryz.prog W 0 (fun _ => true) true 26 v d p) :
   ∃ (sl:Value) (fs:List Int) (w s e:Int),v=setA sl w s e ∧ HI W sl fs:=by
 obtain ⟨sl,w,s,e,h1,h2⟩:=open_set hv h
 rcases h2 with rfl | ⟨b,o,c,ns,rfl,_,h3⟩
 · exact ⟨_,[],w,s,e,h1,.inl ⟨rfl,rfl⟩⟩
 · exact ⟨_,ns,w,s,e,h1,.inr ⟨b,o,c,rfl,h3⟩⟩
theorem params11:Tryz.f11.params=#[103,26,24]:=by kernel_rfl
namespace velocityPanels
set_option maxRecDepth 100000 in
theorem contract (H : Type) (enc : TypeId × Value → H) (W : World) (base : Nat) (args : Array Value) (ds gs : List (DataW H)) (before : List MemPlace)
   (hval:∀ (j:Nat) t v,Tryz.f11.params[j]? = some t → args[j]? = some v → Value.okWide Tryz.prog W .any base t v)
   (hW:DataW.Whole enc Tryz.prog Tryz.f11.params.toList Rows.velocityPanelsSpec.vars false W args.toList ds gs before) (hL:laidMetH Tryz.prog Rows.velocityPanelsRow.laid W) :
   Calls Tryz.prog 11 args W fun e W'=>∃ v,e = .returned v ∧ Rows.velocityPanelsSpec.post enc Tryz.prog Tryz.f11 false true false false W args v W':=by
 have hW':=hW
 obtain ⟨p,q,hA0,hV,rfl,hfz,hnd⟩:=hW
 have hA:DataW.TrodAll enc Tryz.prog W 0 (fun _=>true) true Tryz.f11.params.toList args.toList ds p:=hA0
 rw [params11] at hA hval
 obtain ⟨v0,vs0,d0,ds0,p0,q0,hargs,rfl,rfl,h0,r0⟩:=trodAll_cons hA
 obtain ⟨v1,vs1,d1,ds1,p1,q1,rfl,rfl,rfl,h1,r1⟩:=trodAll_cons r0
 obtain ⟨v2,vs2,d2,ds2,p2,q2,rfl,rfl,rfl,h2,r2⟩:=trodAll_cons r1
 obtain ⟨rfl,rfl,rfl⟩:=trodAll_nil r2
 obtain rfl:args=#[v0,v1,v2]:=by cases args; simp_all
 obtain ⟨s,l,tds,rfl,hN,hf⟩:=open_shot (hval 0 103 v0 rfl rfl) h0
 obtain ⟨sl,fs,w,st,e,rfl,hF⟩:=open_fan (hval 1 26 v1 rfl rfl) h1
 obtain ⟨ps,hP⟩:=open_path (hval 2 24 v2 rfl rfl) h2
 have hc:Calls Tryz.prog 11 #[.agg ⟨[.string s,l]⟩,setA sl w st e,v2] W fun e W'=>e = .returned (.bool true) ∧ Below W.heap.size W W':=
   lawPan (by kernel_rfl) (lies0 hL) (lies1 hL) hN hf hF hP fun H n oa c fv pv g0 g1 hS k1 k2=>w11 g0 g1 hS k1 k2
 refine hc.mono fun e W' ⟨he,hb⟩=>⟨_,he,?_⟩
 refine lawPost ?_ rfl rfl rfl hW' hb
 intro t ht
 rw [params11] at ht
 simp at ht
 rw [tysize]
 rcases ht with rfl | rfl | rfl
 · exact ⟨by kernel_rfl,by decide⟩
 · exact ⟨by kernel_rfl,by decide⟩
 · exact ⟨by kernel_rfl,by decide⟩
abbrev witS:Value:=.agg ⟨[.string ⟨#[]⟩,.slice none 0 0]⟩
abbrev witA:Value:=.agg #[.slice none 0 0,iv 0,iv 0,iv 0]
abbrev witP:Value:=.slice none 0 0
theorem reads (os:Os) {H:Type} (enc:TypeId × Value → H):∃ places,DataW.whole enc Tryz.prog ((laidWorld os).forCall (fun _ _=>0) ⟨#[],#[witS,witA,witP],[]⟩).memory Tryz.f11.params.toList Rows.velocityPanelsSpec.vars false #[witS,witA,witP].toList 8=some ([.agg [.lit (.string []),.nil],.agg [.nil,.lit (.int .i64 0),.lit (.int .i64 0),.lit (.int .i64 0)],.nil],[],places):=
 ⟨[],by kernel_rfl⟩
set_option maxRecDepth 100000 in
theorem lifted (os : Os) (started : os.Started) (H : Type) (enc : TypeId × Value → H) (F : Stop.Interp) :
   ReturnsInHanded {} Tryz.checked os 11 .any ((OpenSpec.ofChange Rows.velocityPanelsSpec).preRow enc Tryz.prog Tryz.f11 Rows.velocityPanelsRow.domain false Rows.velocityPanelsRow.laid) (((OpenSpec.ofChange Rows.velocityPanelsSpec).at F).post enc Tryz.prog Tryz.f11 false true false false):=by
 obtain ⟨places,hx⟩:=reads os enc
 refine returnsInHanded_of_row (C:=Tryz.checked) (s:=OpenSpec.ofChange Rows.velocityPanelsSpec) own started (by kernel_rfl) Tryz.func11
   (witness_row_at (enc:=enc) (C:=Tryz.checked) false (laidWorld os) #[witS,witA,witP] rfl (by kernel_rfl) (by kernel_rfl) (by kernel_rfl)
     (OpenSpec.preRow_of_cond 8 hx (by kernel_rfl) (fun k hk=>by cases hk) (by kernel_rfl) (laid_met3 os _ _ _))) ?_
 intro W base args ds gs before hval hW _ _ _ hL _ _
 exact contract H enc W base args ds gs before hval hW hL
end velocityPanels
namespace velocityPanels
theorem fnum:Tryz.prog.funcNamed "moveout/moveoutlaw06.VelocityPanels" = some 11:=by kernel_rfl
theorem inst:Tryz.f11.isInstance Tryz.prog Rows.velocityPanelsRow.origin Rows.velocityPanelsRow.targs:=of_decide_eq_true (by kernel_rfl)
theorem wrapper:Tryz.f11.isWrapper Tryz.prog Rows.velocityPanelsRow.wrapper Rows.velocityPanelsRow.mainSum:=by unfold Func.isWrapper; first | (rw [if_pos (by decide +kernel)]; kernel_rfl) | (rw [if_neg (by decide +kernel)]; exact ⟨rfl,rfl⟩)
set_option maxRecDepth 100000 in
theorem said:Rows.VelocityPanelsSaid:=
 OpenClaim.holds_of_cond 11 Tryz.f11 rfl rfl rfl rfl rfl rfl rfl ⟨rfl,rfl,rfl,rfl,rfl⟩ rfl rfl rfl rfl rfl fnum Tryz.func11 facts inst wrapper
   (fun os started H enc _ F=>by rw [OpenClaim.pre_eq_preRow]; exact lifted os started H enc F)
theorem looks:false=Tryz.prog.looks []:=by kernel_rfl
theorem standIn:∀ t,t=103 ∨ t=26 ∨ t=24 → Tryz.prog.wantsStandIn t=false:=by
 rintro t (rfl | rfl | rfl) <;> kernel_rfl
theorem plain (f : FuncId) (fn : Func) (hf : Tryz.pinned.checked.prog.funcNamed "moveout/moveoutlaw06.VelocityPanels" = some f) (hfn : Tryz.pinned.checked.prog.funcs[f]? = some fn) :
   false=Tryz.pinned.checked.prog.looks [] ∧ ∀ (j:Nat) t,fn.params[j]? = some t → Tryz.pinned.checked.prog.wantsStandIn t=false:=by
 obtain rfl:f=11:=Option.some.inj (fnum.symm.trans hf) |>.symm
 obtain rfl:fn=Tryz.f11:=(Option.some.inj (Tryz.func11.symm.trans hfn)).symm
 refine ⟨looks,fun j t ht=>?_⟩
 rw [params11] at ht
 have h:=Array.mem_of_getElem? ht
 simp at h
 exact standIn t (by rcases h with rfl | rfl | rfl <;> simp)
theorem wf:OpenClaim.wfByText (OpenSpec.ofChange Rows.velocityPanelsSpec) Rows.velocityPanelsRow=true:=by kernel_rfl
theorem main:Tryz.prog.mainIs=some ("a1a323c512223edc39f4736b19c83dbf0e7abd5a77a6adfc6f65b5272966d8f1" |> fun s=>(true,s.toList)):=by kernel_rfl
theorem goes:false=Rows.velocityPanelsRow.goesBy Tryz.prog:=by kernel_rfl
set_option maxRecDepth 100000 in
theorem card:Rows.VelocityPanelsCardSaid:=
 Claim7.holds_tied_plain_at .later [] _ _ _ _ said (fun _ h=>by cases h) wf (fun _ h=>by cases h) velocityPanels_row_tie rfl ⟨rfl,rfl⟩ main rfl plain goes
end velocityPanels
end
end Go.Proofs.YtkongcnmkiihjaaGreatDoor
