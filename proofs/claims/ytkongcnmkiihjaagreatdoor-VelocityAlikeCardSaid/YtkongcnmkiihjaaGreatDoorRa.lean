/-
Contracts and plain reckonings behind the law VelocityAlike, part 1 of 8 (each under the conditions in its statement).
-/
import Derived.Laws.FloatBits
import Derived.Test.YtkongcnmkiihjaaGreatDoorAf
import Derived.Test.YtkongcnmkiihjaaGreatDoorAg
import Derived.Test.YtkongcnmkiihjaaGreatDoorTa
import Derived.Test.YtkongcnmkiihjaaGreatDoorYa
import Derived.Test.YtkongcnmkiihjaaGreatDoorFa
namespace Go.Ab
open Go
theorem AC.given {P:Program} {f:FuncId} {args:List Value} {H:Heap} {n:Nat} {v:Value} {H':Heap} {n':Nat} (h:(∀ k b,hget H k=some b → k < n ∧ scB (· < n) b) → scL (· < n) args → P.globals.size ≤ n → AC P f args H n v H' n'):AC P f args H n v H' n':=
 fun p φ w hB hsc=>h (fun k b hk=>⟨hB.lt k (hB.sm k b hk).1,scB_mono hB.lt _ (hB.sm k b hk).2⟩) (scL_mono hB.lt _ hsc) hB.gn p φ w hB hsc
theorem AC.frame {P : Program} {f : FuncId} {args : List Value} {H H0 H1 H2 : Heap} {n n' : Nat} {v : Value} (h : AC P f args H0 n v H1 n') (hsub : ∀ k b, hget H0 k = some b → hget H k = some b)
   (h2:∀ k b,hget H2 k=some b → hget H1 k=some b ∨ (hget H k=some b ∧ hget H0 k=none)):AC P f args H n v H2 n':=by
 intro p φ w hB hsc
 have hB0:Base P p φ n (hget H0) w [] act0:=⟨hB.rel.sub hsub,hB.lt,hB.gl,hB.gn,fun k b hk=>hB.sm k b (hsub k b hk),fun t v hv=>by simp [lk] at hv,fun t v hv=>by simp [lk] at hv⟩
 have key:∀ φ' w',Dn P p φ n (hget H0) w v n' (hget H1) φ' w' → Dn P p φ n (hget H) w v n' (hget H2) φ' w':=by
   intro φ' w' hd
   obtain ⟨hsm,hscv,hst⟩:=hd
   have hagr:Agr p φ φ':=fun k hk=>hst.only k (.inl (hB.lt k hk))
   have hloc:∀ k b,hget H k=some b → φ'.loc k=φ.loc k:=fun k b hk=>(hagr k (hB.sm k b hk).1).1
   have hkeep:∀ k b,hget H k=some b → hget H0 k=none → w'.heap[φ.loc k]? = w.heap[φ.loc k]?:=fun k b hk hn=>hst.frm.keep _ (hB.rel.lt hk) fun j x hj ho=>hB.rel.apart j x k b (hsub j x hj) hk (fun e=>by subst e; rw [hn] at hj; cases hj) ho
   refine ⟨fun k b hk=>?_,hscv,hst.le,hst.only,⟨fun k b hk=>?_,fun k b k' b' g1 g2 hne ho=>?_,hst.rel.glob⟩,fun k b hk ho=>?_,fun k b hk ho=>?_,⟨hst.frm.os,hst.frm.tape,hst.frm.output,hst.frm.size,fun b hb hx=>hst.frm.keep b hb fun k x hk ho=>hx k x (hsub k x hk) ho⟩⟩
   · rcases h2 k b hk with h | ⟨h,_⟩
     · exact hsm k b h
     · exact ⟨.inl (hB.sm k b h).1,scB_mono (fun _ h=>.inl h) _ (hB.sm k b h).2⟩
   · rcases h2 k b hk with h | ⟨h,hn⟩
     · exact hst.rel.blk k b h
     · rw [hloc k b h,hkeep k b h hn]
       exact (hB.rel.blk k b h).congr hagr (hB.sm k b h).1 (hB.sm k b h).2
   · rcases h2 k b g1 with h | ⟨h,hn⟩ <;> rcases h2 k' b' g2 with h' | ⟨h',hn'⟩
     · exact hst.rel.apart k b k' b' h h' hne ho
     · rw [hloc k' b' h']
       rcases hst.new k b h ho with g | ⟨k0,b0,e1,e2,e3⟩
       · have:=hB.rel.lt h'
         omega
       · rw [← e3]
         exact hB.rel.apart k0 b0 k' b' (hsub _ _ e1) h' (fun e=>by subst e; rw [hn'] at e1; cases e1) e2
     · rw [hloc k b h]
       cases hb:b'.own with
       | true=>
         rcases hst.new k' b' h' hb with g | ⟨k0,b0,e1,e2,e3⟩
         · have:=hB.rel.lt h
           omega
         · rw [← e3]
           exact hB.rel.apart k b k0 b0 h (hsub _ _ e1) (fun e=>by subst e; rw [hn] at e1; cases e1) ho
       | false=>
         have e1:=hst.inp k' b' h' hb
         rw [hloc k' b' (hsub _ _ e1)]
         exact hB.rel.apart k b k' b' h (hsub _ _ e1) hne ho
     · rw [hloc k b h,hloc k' b' h']
       exact hB.rel.apart k b k' b' h h' hne ho
   · rcases h2 k b hk with h | ⟨h,_⟩
     · rcases hst.new k b h ho with g | ⟨k0,b0,e1,e2,e3⟩
       · exact .inl g
       · exact .inr ⟨k0,b0,hsub _ _ e1,e2,e3⟩
     · exact .inr ⟨k,b,h,ho,(hloc k b h).symm⟩
   · rcases h2 k b hk with h | ⟨h,_⟩
     · exact hsub _ _ (hst.inp k b h ho)
     · exact h
 rcases h p φ w hB0 hsc with ⟨h1,h3⟩ | ⟨φ',w',h1,h3⟩
 · refine .inl ⟨h1,CallsIn.mono h3 fun e w' hh=>?_⟩
   obtain ⟨φ',he,hd⟩:=hh
   exact ⟨φ',he,key φ' w' hd⟩
 · exact .inr ⟨φ',w',h1,key φ' w' h3⟩
theorem AC.ren {P : Program} {f : FuncId} {args : List Value} {H H1 H2 : Heap} {n n1 n2 : Nat} {u v : Value} (ρ : Nat → Nat) (h : AC P f args H n u H1 n1) (hlow : ∀ k, k < n → ρ k = k) (hle : n ≤ n2) (hv : u = Ab.ren ρ v) (hsv : sc (· < n2) v)
   (hH:∀ k b,hget H2 k=some b → (hget H k=some b ∧ hget H1 k=some b) ∨ (n ≤ k ∧ k < n2 ∧ n ≤ ρ k ∧ hget H1 (ρ k)=some (renB ρ b) ∧ scB (· < n2) b ∧ carried b ∧ b.own=true))
   (hinj:∀ j b k c,n ≤ j → n ≤ k → hget H2 j=some b → hget H2 k=some c → ρ j=ρ k → j=k):AC P f args H n v H2 n2:=by
 intro p φ w hB hsc
 have key:∀ φ' w',Dn P p φ n (hget H) w u n1 (hget H1) φ' w' → ∃ φ2,den φ' u=den φ2 v ∧ Dn P p φ n (hget H) w v n2 (hget H2) φ2 w':=by
   intro φ' w' hd
   obtain ⟨hsm,hscu,hst⟩:=hd
   let φ2:Vl:=⟨fun k=>if n ≤ k ∧ k < n2 then φ'.loc (ρ k) else φ.loc k,fun k=>if n ≤ k ∧ k < n2 then φ'.cap (ρ k) else φ.cap k⟩
   have hoth:∀ k,¬ (n ≤ k ∧ k < n2) → φ2.loc k=φ.loc k ∧ φ2.cap k=φ.cap k:=fun k hk=>by simp only [φ2]; rw [if_neg hk,if_neg hk]; exact ⟨rfl,rfl⟩
   have hmid:∀ k,n ≤ k ∧ k < n2 → φ2.loc k=φ'.loc (ρ k) ∧ φ2.cap k=φ'.cap (ρ k):=fun k hk=>by simp only [φ2]; rw [if_pos hk,if_pos hk]; exact ⟨rfl,rfl⟩
   have hrn:Rn (Nx p n n2) ρ φ' φ2:=fun k hk=>by
     rcases hk with hk | hk
     · have hk0:=hB.lt k hk
       rw [(hoth k (by omega)).1,(hoth k (by omega)).2,hlow k hk0,(hst.only k (.inl hk0)).1,(hst.only k (.inl hk0)).2]
       exact ⟨rfl,rfl⟩
     · exact hmid k hk
   have hnx:∀ k,Nx p n n1 (ρ k) ∧ k < n2 → Nx p n n2 k:=fun k hk=>by
     by_cases h0:k < n
     · have:=hk.1
       rw [hlow k h0] at this
       rcases this with h1 | h1
       · exact .inl h1
       · omega
     · exact .inr ⟨by omega,hk.2⟩
   have hscv:sc (Nx p n n2) v:=sc_mono hnx v (sc_ren v (hv ▸ hscu) hsv)
   have hagr:Agr p φ φ2:=fun k hk=>hoth k (by have:=hB.lt k hk; omega)
   have hagr':Agr p φ' φ2:=fun k hk=>by
     have h1:=hagr k hk
     have h2:=hst.only k (.inl (hB.lt k hk))
     exact ⟨h1.1.trans h2.1.symm,h1.2.trans h2.2.symm⟩
   have hone:∀ k b,hget H2 k=some b → (∃ b',hget H1 (ρ k)=some b' ∧ b'.own=b.own) ∧ φ2.loc k=φ'.loc (ρ k):=fun k b hk=>by
     rcases hH k b hk with ⟨h1,h2⟩ | ⟨h1,h2,h3,h4,h5,h6,h7⟩
     · have hp:=(hB.sm k b h1).1
       have hk0:=hB.lt k hp
       rw [hlow k hk0]
       exact ⟨⟨b,h2,rfl⟩,(hagr' k hp).1⟩
     · exact ⟨⟨_,h4,renB_own _ _⟩,(hmid k ⟨h1,h2⟩).1⟩
   refine ⟨φ2,by rw [hv]; exact den_ren hrn v hscv,fun k b hk=>?_,hscv,hle,fun k hk=>hoth k (by omega),⟨fun k b hk=>?_,fun k b k' b' g1 g2 hne ho=>?_,fun g hg=>?_⟩,fun k b hk ho=>?_,fun k b hk ho=>?_,hst.frm⟩
   · rcases hH k b hk with ⟨h1,h2⟩ | ⟨h1,h2,h3,h4,h5,h6,h7⟩
     · exact ⟨.inl (hB.sm k b h1).1,scB_mono (fun _ h=>.inl h) _ (hB.sm k b h1).2⟩
     · exact ⟨.inr ⟨h1,h2⟩,scB_mono hnx _ (scB_ren b h6 (hsm _ _ h4).2 h5)⟩
   · rw [(hone k b hk).2]
     rcases hH k b hk with ⟨h1,h2⟩ | ⟨h1,h2,h3,h4,h5,h6,h7⟩
     · have hp:=hB.sm k b h1
       rw [hlow k (hB.lt k hp.1)]
       exact (hst.rel.blk k b h2).congr hagr' hp.1 hp.2
     · exact BRel.ren hrn (.inr ⟨h1,h2⟩) h6 (scB_mono hnx _ (scB_ren b h6 (hsm _ _ h4).2 h5)) (hst.rel.blk _ _ h4)
   · obtain ⟨⟨c,c1,c2⟩,c3⟩:=hone k b g1
     obtain ⟨⟨d,d1,d2⟩,d3⟩:=hone k' b' g2
     rw [c3,d3]
     refine hst.rel.apart _ _ _ _ c1 d1 (fun e=>hne ?_) (c2.trans ho)
     rcases hH k b g1 with ⟨h1,_⟩ | ⟨h1,_,h3,_⟩ <;> rcases hH k' b' g2 with ⟨h1',_⟩ | ⟨h1',_,h3',_⟩
     · have hk0:=hB.lt k (hB.sm k b h1).1
       have hk1:=hB.lt k' (hB.sm k' b' h1').1
       rwa [hlow k hk0,hlow k' hk1] at e
     · have hk0:=hB.lt k (hB.sm k b h1).1
       rw [hlow k hk0] at e
       omega
     · have hk1:=hB.lt k' (hB.sm k' b' h1').1
       rw [hlow k' hk1] at e
       omega
     · exact hinj k b k' b' h1 h1' g1 g2 e
   · rw [(hoth g (by have:=hB.gn; omega)).1]; exact hB.rel.glob g hg
   · obtain ⟨⟨c,c1,c2⟩,c3⟩:=hone k b hk
     rw [c3]
     exact hst.new _ _ c1 (c2.trans ho)
   · rcases hH k b hk with ⟨h1,_⟩ | ⟨_,_,_,_,_,_,h7⟩
     · exact h1
     · rw [h7] at ho; cases ho
 rcases h p φ w hB hsc with ⟨h1,h3⟩ | ⟨φ',w',h1,h3⟩
 · refine .inl ⟨h1,CallsIn.mono h3 fun e w' hh=>?_⟩
   obtain ⟨φ',he,hd⟩:=hh
   obtain ⟨φ2,e2,hd2⟩:=key φ' w' hd
   exact ⟨φ2,by rw [he,e2],hd2⟩
 · obtain ⟨φ2,e2,hd2⟩:=key φ' w' h3
   exact .inr ⟨φ2,w',by rw [h1,e2],hd2⟩
def Fresh (n n2:Nat) (H:Heap) (v:Value) (B:Heap) (u:Value) (H1:Heap):Prop:=
 ∃ ρ:Nat → Nat,(∀ k,k < n → ρ k=k) ∧ u=ren ρ v ∧ (∀ k b,hget B k=some b → n ≤ k ∧ k < n2 ∧ n ≤ ρ k ∧ hget H1 (ρ k)=some (renB ρ b) ∧ scB (· < n2) b ∧ carried b ∧ b.own=true) ∧
   (∀ j b k c,hget B j=some b → hget B k=some c → ρ j=ρ k → j=k) ∧ ∀ k b,hget H k=some b → hget H1 k=some b
theorem AC.fresh {P : Program} {f : FuncId} {fn : Func} {c : Code} {args : List Value} {H B : Heap} {n n2 : Nat} {v : Value} (hf : P.funcs[f]? = some fn) (hb : fn.body = some c) (he : enterable P f = true) (hlen : Nat.ble args.length fn.ntmps = true) (vs : List Nat) (hle : n ≤ n2) (hsv : sc (· < n2) v) (hnf : ∀ ρ, af (Ab.ren ρ v) = false)
   (h:E P n none c { fr:=argsFr args 0,sz:=fn.ntmps,H,n,marks:=[],vs } (outK P fn (Fresh n n2 H v B))):AC P f args H n v (B ++ H) n2:=by
 refine AC.given fun hlt _ _=>?_
 obtain ⟨u,H1,n1,H3,hAC,⟨ρ,h1,h2,h3,h4,h5⟩,hh⟩:=AC.out hf hb he hlen vs h
 obtain rfl:=hh (by rw [h2]; exact hnf ρ)
 have happ:∀ k b,hget (B ++ H) k=some b → hget B k=some b ∨ (hget B k=none ∧ hget H k=some b):=by
   clear h3 h4 h
   induction B with
   | nil=>intro k b hk; exact .inr ⟨rfl,hk⟩
   | cons x B ih=>
     intro k b hk
     obtain ⟨j,y⟩:=x
     rw [List.cons_append,hget_cons] at hk
     rw [hget_cons]
     by_cases e:j=k
     · rw [if_pos e] at hk ⊢; exact .inl hk
     · rw [if_neg e] at hk ⊢; exact ih k b hk
 refine hAC.ren ρ h1 hle h2 hsv (fun k b hk=>?_) fun j b k c hj hk hb hc e=>?_
 · rcases happ k b hk with h | ⟨_,h⟩
   · exact .inr (h3 k b h)
   · exact .inl ⟨h,h5 k b h⟩
 · rcases happ j b hb with g | ⟨_,g⟩
   · rcases happ k c hc with g' | ⟨_,g'⟩
     · exact h4 j b k c g g' e
     · have:=(hlt k c g').1
       omega
   · have:=(hlt j b g).1
     omega
def cellB (o:Nat):Blk → Option Value
 | .cells cs _=>cs[o]?
 | .ext cs _ _=>cs[o]?
 | .row cs _=>cs[o]?
 | .inp o' cs=>if o' ≤ o then cs[o - o']? else none
 | _=>none
theorem cellA_eq (H:Heap) (k o:Nat):cellA H k o=(hget H k).bind (cellB o):=by
 unfold cellA
 cases hget H k with
 | none=>rfl
 | some b=>cases b <;> rfl
def cellsB (o n:Nat):Blk → Option (List Value)
 | .cells cs _=>if o + n ≤ cs.length then some ((cs.drop o).take n) else none
 | .ext cs _ _=>if o + n ≤ cs.length then some ((cs.drop o).take n) else none
 | .row cs _=>if o + n ≤ cs.length then some ((cs.drop o).take n) else none
 | .inp o' cs=>if o' ≤ o ∧ o - o' + n ≤ cs.length then some ((cs.drop (o - o')).take n) else none
 | _=>none
theorem cellsA_eq (H:Heap) (k o n:Nat):cellsA H k o n=(hget H k).bind (cellsB o n):=by
 unfold cellsA
 cases hget H k with
 | none=>rfl
 | some b=>cases b <;> rfl
theorem cellsA_cell {H:Heap} {k o n:Nat} {cs:List Value} (h:cellsA H k o n=some cs) {i:Nat} (hi:i < n):cellA H k (o + i)=cs[i]? ∧ cs.length=n:=by
 rw [cellsA_eq] at h
 rw [cellA_eq]
 cases hb:hget H k with
 | none=>rw [hb] at h; cases h
 | some b=>
   rw [hb] at h
   simp only [Option.bind_some] at h ⊢
   cases b <;> simp only [cellsB,cellB] at h ⊢
   all_goals first
     | (split at h
        · rename_i hc
          injection h with h; subst h
          refine ⟨?_,by simp; omega⟩
          first
            | (rw [if_pos (by omega),List.getElem?_take,if_pos hi,List.getElem?_drop]; congr 1; omega)
            | (rw [List.getElem?_take,if_pos hi,List.getElem?_drop])
        · cases h)
     | cases h
theorem cellA_lt {H:Heap} {n k o:Nat} {v:Value} (hl:∀ k b,hget H k=some b → k < n) (h:cellA H k o=some v):k < n:=by
 rw [cellA_eq] at h
 cases hb:hget H k with
 | none=>rw [hb] at h; cases h
 | some b=>exact hl k b hb
def Sub (H H':Heap):Prop:=∀ k b,hget H k=some b → hget H' k=some b
theorem Sub.refl (H:Heap):Sub H H:=fun _ _ h=>h
theorem Sub.cons {H H':Heap} {j:Nat} {b:Blk} (hj:hget H j=none) (h:Sub H H'):Sub H ((j,b) :: H'):=fun k c hk=>by
 rw [hget_cons,if_neg]
 · exact h k c hk
 · intro e; subst e; rw [hj] at hk; cases hk
theorem Sub.app {H H' A:Heap} (hA:∀ x ∈ A,hget H x.1=none) (h:Sub H H'):Sub H (A ++ H'):=by
 induction A with
 | nil=>exact h
 | cons x A ih=>exact Sub.cons (hA x (List.mem_cons_self ..)) (ih fun y hy=>hA y (List.mem_cons_of_mem _ hy))
theorem Sub.trans {H H1 H2:Heap} (h1:Sub H H1) (h2:Sub H1 H2):Sub H H2:=fun k b h=>h2 k b (h1 k b h)
theorem Sub.cell {H H':Heap} (h:Sub H H') {k o:Nat} {v:Value} (hc:cellA H k o=some v):cellA H' k o=some v:=by
 rw [cellA_eq] at hc ⊢
 cases hb:hget H k with
 | none=>rw [hb] at hc; cases hc
 | some b=>rw [hb] at hc; rw [h k b hb]; exact hc
theorem Sub.cells {H H':Heap} (h:Sub H H') {k o n:Nat} {v:List Value} (hc:cellsA H k o n=some v):cellsA H' k o n=some v:=by
 rw [cellsA_eq] at hc ⊢
 cases hb:hget H k with
 | none=>rw [hb] at hc; cases hc
 | some b=>rw [hb] at hc; rw [h k b hb]; exact hc
theorem no_new {H:Heap} {n:Nat} (hl:∀ k b,hget H k=some b → k < n):hget H n=none ∧ ∀ c,hget H (n + c)=none:=by
 have go:∀ c,hget H (n + c)=none:=fun c=>by
   cases hb:hget H (n + c) with
   | none=>rfl
   | some b=>have:=hl _ _ hb; omega
 exact ⟨go 0,go⟩
def plainB2:Blk → Bool
 | .cells _ _ | .ext _ _ _ | .inp _ _ | .row _ _ | .tab _=>true
 | _=>false
def plainH:Heap → Bool
 | []=>true
 | (_,b) :: H=>plainB2 b && plainH H
def tidyL (H:Heap) (n:Nat):List Nat → Heap
 | []=>[]
 | k :: ks=>match hget H k with
   | some b=>if k < n ∧ plainB2 b=true then (k,b) :: tidyL H n ks else tidyL H n ks
   | none=>tidyL H n ks
def tidy (n:Nat) (H:Heap):Heap:=tidyL H n (H.map (·.1))
theorem hget_tidyL {H:Heap} {n:Nat}:∀ (ks:List Nat) (k:Nat) (b:Blk),hget (tidyL H n ks) k=some b ↔ k ∈ ks ∧ hget H k=some b ∧ k < n ∧ plainB2 b=true
 | [],k,b=>by simp [tidyL]
 | j :: ks,k,b=>by
   have ih:=hget_tidyL (H:=H) (n:=n) ks k b
   unfold tidyL
   cases hj:hget H j with
   | none=>
     simp only
     rw [ih]
     constructor
     · rintro ⟨h1,h2⟩; exact ⟨List.mem_cons_of_mem _ h1,h2⟩
     · rintro ⟨h1,h2,h3⟩
       rcases List.mem_cons.1 h1 with rfl | h1
       · rw [hj] at h2; cases h2
       · exact ⟨h1,h2,h3⟩
   | some c=>
     simp only
     by_cases hc:j < n ∧ plainB2 c=true
     · rw [if_pos hc,hget_cons]
       by_cases e:j=k
       · subst e
         rw [if_pos rfl]
         constructor
         · intro h; injection h with h; subst h; exact ⟨List.mem_cons_self ..,hj,hc⟩
         · rintro ⟨_,h2,_⟩; rw [hj] at h2; exact h2
       · rw [if_neg e,ih]
         constructor
         · rintro ⟨h1,h2⟩; exact ⟨List.mem_cons_of_mem _ h1,h2⟩
         · rintro ⟨h1,h2⟩
           rcases List.mem_cons.1 h1 with rfl | h1
           · exact absurd rfl e
           · exact ⟨h1,h2⟩
     · rw [if_neg hc,ih]
       constructor
       · rintro ⟨h1,h2⟩; exact ⟨List.mem_cons_of_mem _ h1,h2⟩
       · rintro ⟨h1,h2,h3⟩
         rcases List.mem_cons.1 h1 with rfl | h1
         · rw [hj] at h2; injection h2 with h2; subst h2; exact absurd h3 hc
         · exact ⟨h1,h2,h3⟩
theorem hget_tidy {H:Heap} {n k:Nat} {b:Blk}:hget (tidy n H) k=some b ↔ hget H k=some b ∧ k < n ∧ plainB2 b=true:=by
 rw [tidy,hget_tidyL]
 constructor
 · exact fun h=>h.2
 · exact fun h=>⟨List.mem_map.2 ⟨(k,b),hget_mem _ _ _ h.1,rfl⟩,h⟩
theorem namesOk_tidyL {H:Heap} {n:Nat}:∀ (ks:List Nat),namesOk n (tidyL H n ks)=true ∧ plainH (tidyL H n ks)=true
 | []=>⟨rfl,rfl⟩
 | k :: ks=>by
   have ih:=namesOk_tidyL (H:=H) (n:=n) ks
   unfold tidyL
   cases hget H k with
   | none=>exact ih
   | some b=>
     simp only
     split
     · rename_i hc
       refine ⟨?_,by simp [plainH,hc.2,ih.2]⟩
       simp only [namesOk]
       rw [(blt_iff _ _).2 hc.1]
       exact ih.1
     · exact ih
theorem namesOk_mono {m n:Nat} (h:n ≤ m):∀ H:Heap,namesOk n H=true → namesOk m H=true
 | [],_=>rfl
 | (k,b) :: H,hk=>by
   simp only [namesOk] at hk ⊢
   split at hk
   · rename_i hb
     have:=(blt_iff _ _).1 hb
     rw [(blt_iff _ _).2 (by omega:k < m)]
     exact namesOk_mono h H hk
   · cases hk
theorem AC.tidied {P:Program} {f:FuncId} {args:List Value} {H B:Heap} {n:Nat} {v:Value} {n':Nat} (hB:∀ x ∈ B,n ≤ x.1) (h:AC P f args (Ab.tidy n H) n v (B ++ Ab.tidy n H) n'):AC P f args H n v (B ++ H) n':=by
 refine AC.given fun hlt _ _=>?_
 refine h.frame (fun k b hk=>(hget_tidy.1 hk).1) fun k b hk=>?_
 have go:∀ (B:Heap),(∀ x ∈ B,n ≤ x.1) → hget (B ++ H) k=some b → hget (B ++ Ab.tidy n H) k=some b ∨ (hget H k=some b ∧ hget (Ab.tidy n H) k=none):=by
   intro B
   induction B with
   | nil=>
     intro _ hk
     cases ht:hget (Ab.tidy n H) k with
     | none=>exact .inr ⟨hk,rfl⟩
     | some c=>
       have h1:=(hget_tidy.1 ht).1
       rw [show hget H k=some b from hk] at h1
       injection h1 with h1; subst h1
       exact .inl ht
   | cons x B ih=>
     intro hB hk
     obtain ⟨j,y⟩:=x
     rw [List.cons_append,hget_cons] at hk ⊢
     by_cases e:j=k
     · rw [if_pos e] at hk ⊢; exact .inl hk
     · rw [if_neg e] at hk ⊢
       exact ih (fun x hx=>hB x (List.mem_cons_of_mem _ hx)) hk
 exact go B hB hk
theorem cellsA_tidy {H:Heap} {n k o m:Nat} (hl:∀ k b,hget H k=some b → k < n) {cs:List Value} (h:cellsA H k o m=some cs):cellsA (tidy n H) k o m=some cs:=by
 rw [cellsA_eq] at h ⊢
 cases hb:hget H k with
 | none=>rw [hb] at h; cases h
 | some b=>
   rw [hb] at h
   have hp:plainB2 b=true:=by
     cases b <;> first | rfl | cases h
   rw [hget_tidy.2 ⟨hb,hl k b hb,hp⟩]
   exact h
def frz:Blk → Blk
 | .cells cs _=>.inp 0 cs
 | .ext cs _ sz=>.row cs sz
 | b=>b
def frzH:Heap → Heap
 | []=>[]
 | (k,b) :: H=>(k,frz b) :: frzH H
theorem hget_frz:∀ (H:Heap) (k:Nat),hget (frzH H) k=(hget H k).map frz
 | [],_=>rfl
 | (j,b) :: H,k=>by
   rw [frzH,hget_cons,hget_cons,hget_frz H k]
   by_cases h:j=k
   · rw [if_pos h,if_pos h]; rfl
   · rw [if_neg h,if_neg h]
theorem cellsA_frz (H:Heap) (k o n:Nat):cellsA (frzH H) k o n=cellsA H k o n:=by
 rw [cellsA_eq,cellsA_eq,hget_frz]
 cases hget H k with
 | none=>rfl
 | some b=>cases b <;> simp [frz,cellsB]
theorem cellA_frz (H:Heap) (k o:Nat):cellA (frzH H) k o=cellA H k o:=by
 rw [cellA_eq,cellA_eq,hget_frz]
 cases hget H k with
 | none=>rfl
 | some b=>cases b <;> simp [frz,cellB]
theorem handA_frz:∀ (H:Heap) (L:List Nat),(∀ x ∈ H,memN L x.1=true) → plainH H=true → handA L [] H=frzH H
 | [],_,_,_=>rfl
 | (k,b) :: H,L,hL,hp=>by
   simp only [plainH,Bool.and_eq_true] at hp
   have ih:=handA_frz H L (fun x hx=>hL x (List.mem_cons_of_mem _ hx)) hp.2
   have hk:=hL (k,b) (List.mem_cons_self ..)
   have hp1:=hp.1
   cases b <;> first | (simp only [handA,memN,hk,ih,frzH,frz]; done) | cases hp1
theorem dnames_plain:∀ (H:Heap),plainH H=true → dnames H=H.map (·.1)
 | [],_=>rfl
 | (k,b) :: H,hp=>by
   simp only [plainH,Bool.and_eq_true] at hp
   have ih:=dnames_plain H hp.2
   have hp1:=hp.1
   cases b <;> first | (simp only [dnames,ih,List.map_cons]; done) | cases hp1
theorem handA_dnames {H:Heap} (h:plainH H=true):handA (dnames H) [] H=frzH H:=
 handA_frz H _ (fun x hx=>(memN_iff _ _).2 (by rw [dnames_plain H h]; exact List.mem_map_of_mem hx)) h
theorem takeNew_frz {H:Heap} {n:Nat} (h:namesOk n H=true):takeNew n (frzH H)=[]:=by
 cases H with
 | nil=>rfl
 | cons x H=>
   obtain ⟨k,b⟩:=x
   have:=namesOk_mem _ _ h (k,b) (List.mem_cons_self ..)
   rw [frzH,takeNew,ble_dec]
   rw [decide_eq_false (by omega)]
def handU (P:Program) (r:Rec) (mk:List Nat) (i:Nat) (o:Oper) (fr:Fr) (st:St):Option St:=
 match runOp P r o { st with fr:=fr,H:=frzH st.H } with
 | some (v,H,k)=>match Nat.ble st.n k && namesOk k (takeNew st.n H) && (Nat.beq k st.n || memN mk i) with
   | true=>some { st with fr:=putA st.fr o.dst v,H:=takeNew st.n H ++ st.H,n:=k }
   | false=>none
 | none=>none
def doneU (P:Program) (r:Rec) (al mk late:List Nat) (n0 i:Nat) (o:Oper) (fr:Fr) (st:St):Option St:=
 match isPure o.op with
 | true=>pureS P o fr st
 | false=>match isRead o.op with
   | true=>match footA P fr o.op with
     | some f=>readT P late n0 i o fr st f.see
     | none=>none
   | false=>match memN al i with
     | true=>aloneT P r mk i o fr st
     | false=>match footA P fr o.op with
       | some f=>match f.put.isEmpty && visT late n0 i st.n f.see with
         | true=>handT P r mk i o f.see fr st
         | false=>none
       | none=>match memN late i && plainH st.H with
         | true=>handU P r mk i o fr st
         | false=>none
def oneU (P:Program) (r:Rec) (ops:Array Oper) (al mk late:List Nat) (n0 i:Nat) (o:Oper) (st:St):Option St:=
 match dstOk st.sz o.dst with
 | false=>none
 | true=>match wantedA ops (trim (lookTmps ops o) st.fr) o with
   | none=>none
   | some false=>some { st with fr:=putA st.fr o.dst undefV }
   | some true=>doneU P r al mk late n0 i o (trim (lookTmps ops o) st.fr) st
def opsU (P:Program) (r:Rec) (ops:Array Oper) (al mk late:List Nat) (n0:Nat):List Oper → Nat → St → Option St
 | [],_,st=>some st
 | o :: os,i,st=>match oneU P r ops al mk late n0 i o st with
   | some st'=>opsU P r ops al mk late n0 os (i + 1) st'
   | none=>none
def runU (P:Program) (r:Rec) (ops:Array Oper) (al mk late:List Nat) (st:St):Option St:=
 match namesOk st.n st.H with
 | true=>opsU P r ops al mk late st.n ops.toList 0 st
 | false=>none
theorem opsU_ok {P:Program} {r:Rec} {ops:Array Oper} {al mk late:List Nat} {n0:Nat}:∀ (os:List Oper) (i:Nat) (st st':St),opsU P r ops al mk late n0 os i st=some st' → opsT P r ops al mk late n0 os i st=some st'
 | [],_,_,_,h=>h
 | o :: os,i,st,st',h=>by
   simp only [opsU] at h
   split at h
   · rename_i st1 h1
     have key:oneT P r ops al mk late n0 i o st=some st1:=by
       unfold oneU at h1
       unfold oneT
       split at h1
       · cases h1
       · rename_i hd
         rw [hd]
         simp only
         split at h1
         · cases h1
         · rename_i hw; rw [hw]; exact h1
         · rename_i hw
           rw [hw]
           simp only
           unfold doneU at h1
           unfold doneT
           split at h1
           · rename_i hp; rw [hp]; exact h1
           · rename_i hp
             rw [hp]
             simp only
             split at h1
             · rename_i hrd; rw [hrd]; exact h1
             · rename_i hrd
               rw [hrd]
               simp only
               split at h1
               · rename_i hm; rw [hm]; exact h1
               · rename_i hm
                 rw [hm]
                 simp only
                 split at h1
                 · rename_i f hf; rw [hf]; exact h1
                 · rename_i hf
                   rw [hf]
                   simp only
                   split at h1
                   · rename_i hc
                     rw [Bool.and_eq_true] at hc
                     rw [hc.1]
                     simp only
                     unfold handT
                     rw [handA_dnames hc.2]
                     exact h1
                   · cases h1
     simp only [opsT,key]
     exact opsU_ok os (i + 1) st1 st' h
   · cases h
section
variable {P:Program} {n0:Nat} {ro:Option Nat} {st st':St} {K:Ex → St → Prop} {r:Rec} {m:Nat}
theorem E.drawU (hm:P.follows .mixedOrders=true) (hr:RecOk P r m) (al mk late:List Nat) {id:Nat} {ops:Array Oper} (hd:drawT ops (Region.before ops) al mk late=true) (h:runU P r ops al mk late st=some st') (k:K .normal st'):E P n0 ro (.region id ops true) st K:=by
 refine E.drawC hm hr al mk late hd ?_ k
 unfold runU at h
 unfold runT
 split at h
 · rename_i hn; rw [hn]; exact opsU_ok _ _ _ _ h
 · cases h
end
attribute [simp] runU opsU oneU doneU handU frz frzH plainH plainB2 cellB cellsB
theorem Leads.keep {P:Program} {n0:Nat} {s s2:St} (hn:s2.n=s.n) (hz:s2.sz=s.sz) (hm:s2.marks=s.marks) (hf:∀ x ∈ s2.fr,lk s.fr x.1=some x.2) (hh:Sub s2.H s.H):Leads P n0 s s2:=by
 intro p φ M w0 hg hp a w φ1 hS hs
 have hf':∀ t v,lk s2.fr t=some v → lk s.fr t=some v:=fun t v h=>hf (t,v) (lk_mem _ _ _ h)
 rw [hn]
 exact ⟨φ1,⟨⟨hS.base.rel.sub hh,hn ▸ hS.base.lt,hS.base.gl,hn ▸ hS.base.gn,fun k b hk=>hS.base.sm k b (hh k b hk),fun t v hv=>hS.base.ar t v (hf' t v hv),fun t v hv=>hS.base.sf t v (hf' t v hv)⟩,hz ▸ hS.size,hm ▸ hS.defs,hm ▸ hS.marks⟩,hs.sub hh⟩
def mapO {α β:Type} (f:β → Option α):List β → Option (List α)
 | []=>some []
 | x :: xs=>match f x,mapO f xs with
   | some y,some ys=>some (y :: ys)
   | _,_=>none
def chunks (sz:Nat):Nat → List Value → List (List Value)
 | 0,_=>[]
 | k + 1,cs=>cs.take sz :: chunks sz k (cs.drop sz)
theorem mapO_get {α β:Type} {f:β → Option α}:∀ {xs:List β} {ys:List α},mapO f xs=some ys → xs.length=ys.length ∧ ∀ (i:Nat) x,xs[i]? = some x → f x=ys[i]?
 | [],ys,h=>by simp only [mapO,Option.some.injEq] at h; subst h; exact ⟨rfl,fun i x hx=>by simp at hx⟩
 | x :: xs,ys,h=>by
   simp only [mapO] at h
   split at h
   · rename_i y ys' h1 h2
     injection h with h; subst h
     obtain ⟨e1,e2⟩:=mapO_get h2
     refine ⟨by simp [e1],fun i z hz=>?_⟩
     cases i with
     | zero=>simp at hz ⊢; subst hz; exact h1
     | succ i=>simp at hz ⊢; exact e2 i z hz
   · cases h
theorem mapO_of {α β:Type} {f:β → Option α}:∀ {xs:List β} {ys:List α},xs.length=ys.length → (∀ (i:Nat) x,xs[i]? = some x → f x=ys[i]?) → mapO f xs=some ys
 | [],ys,h,_=>by cases ys with | nil=>rfl | cons=>simp at h
 | x :: xs,[],h,_=>by simp at h
 | x :: xs,y :: ys,h,hg=>by
   have h0:=hg 0 x rfl
   have ih:=mapO_of (xs:=xs) (ys:=ys) (by simpa using h) fun i z hz=>by simpa using hg (i + 1) z (by simpa using hz)
   simp only [mapO,h0,ih,List.getElem?_cons_zero]
theorem mapO_mono {α β:Type} {f g:β → Option α} (h:∀ x y,f x=some y → g x=some y):∀ {xs:List β} {ys:List α},mapO f xs=some ys → mapO g xs=some ys
 | [],_,e=>e
 | x :: xs,ys,e=>by
   simp only [mapO] at e ⊢
   split at e
   · rename_i y ys' h1 h2
     rw [h x y h1,mapO_mono h h2]; exact e
   · cases e
theorem chunks_len (sz:Nat):∀ (k:Nat) (cs:List Value),(chunks sz k cs).length=k
 | 0,_=>rfl
 | k + 1,cs=>by simp [chunks,chunks_len sz k]
theorem chunks_get (sz:Nat):∀ (k:Nat) (cs:List Value) (i:Nat),i < k → (chunks sz k cs)[i]? = some ((cs.drop (i * sz)).take sz)
 | 0,_,_,h=>by omega
 | k + 1,cs,0,_=>by simp [chunks]
 | k + 1,cs,i + 1,h=>by
   rw [chunks,List.getElem?_cons_succ,chunks_get sz k _ i (by omega),List.drop_drop]
   congr 3
   rw [Nat.add_mul]; omega
abbrev Dec (α:Type):=Heap → List Value → Option α
def listV {α:Type} (sz:Nat) (dec:Dec α) (H:Heap):Value → Option (List α)
 | .slice none 0 0=>some []
 | .slice (some a) len _=>if len < 2147483648 then (if len=0 then some [] else if flat a=true then (cellsA H a.block a.off (len * sz)).bind fun cs=>mapO (dec H) (chunks sz len cs) else none) else none
 | _=>none
theorem cells_part {H:Heap} {k o n sz i:Nat} {cs:List Value} (h:cellsA H k o (n * sz)=some cs) (hi:i < n):cellsA H k (o + i * sz) sz=some ((cs.drop (i * sz)).take sz):=by
 have hm:i * sz + sz ≤ n * sz:=by
   rw [← Nat.succ_mul]; exact Nat.mul_le_mul_right _ hi
 rw [cellsA_eq] at h ⊢
 cases hb:hget H k with
 | none=>rw [hb] at h; cases h
 | some b=>
   rw [hb] at h
   simp only [Option.bind_some] at h ⊢
   have key:∀ (xs:List Value) (p:Nat),p + n * sz ≤ xs.length → ((xs.drop (p + i * sz)).take sz)=((((xs.drop p).take (n * sz)).drop (i * sz)).take sz):=fun xs p hp=>by
     rw [List.drop_take,List.take_take,List.drop_drop,Nat.min_eq_left (by omega)]
   cases b <;> simp only [cellsB] at h ⊢
   all_goals first
     | (split at h
        · injection h with h; subst h
          first
            | (rw [if_pos (by omega),key _ _ (by omega)])
            | (rename_i hc
               rw [if_pos (by omega),← key _ _ (by omega)]
               congr 3
               omega)
        · cases h)
     | cases h
theorem listV_form {α : Type} {sz : Nat} {dec : Dec α} {H : Heap} {v : Value} {l : List α} (h : listV sz dec H v = some l) :
   ∃ oa c,v = .slice oa l.length c ∧ l.length < 2147483648 ∧ (oa=none → c=0) ∧ ∀ i (hi:i < l.length),∃ a r,oa=some a ∧ flat a=true ∧ cellsA H a.block (a.off + i * sz) sz=some r ∧ dec H r=some l[i]:=by
 unfold listV at h
 split at h
 · injection h with h; subst h
   exact ⟨none,0,rfl,by simp,fun _=>rfl,fun i hi=>by simp at hi⟩
 · rename_i a len c
   split at h
   · rename_i hlt
     split at h
     · rename_i h0
       injection h with h; subst h h0
       exact ⟨some a,c,rfl,by simp,fun e=>(by cases e),fun i hi=>by simp at hi⟩
     · split at h
       · rename_i hf
         obtain ⟨cs,hc,hm⟩:=Option.bind_eq_some_iff.1 h
         obtain ⟨e1,e2⟩:=mapO_get hm
         rw [chunks_len] at e1
         subst e1
         refine ⟨some a,c,rfl,hlt,fun e=>(by cases e),fun i hi=>⟨a,_,rfl,hf,cells_part hc hi,?_⟩⟩
         rw [e2 i _ (chunks_get sz _ cs i hi),List.getElem?_eq_getElem hi]
       · cases h
   · cases h
 · cases h
def DecMono {α:Type} (dec:Dec α):Prop:=∀ H H' cs y,Sub H H' → dec H cs=some y → dec H' cs=some y
theorem listV_mono {α:Type} {sz:Nat} {dec:Dec α} (hd:DecMono dec) {H H':Heap} (hs:Sub H H') {v:Value} {l:List α} (h:listV sz dec H v=some l):listV sz dec H' v=some l:=by
 unfold listV at h ⊢
 split at h
 · exact h
 · rename_i a len c
   split at h
   · rename_i hlt
     rw [if_pos hlt]
     split at h
     · rename_i h0; rw [if_pos h0]; exact h
     · rename_i h0
       rw [if_neg h0]
       split at h
       · rename_i hf
         obtain ⟨cs,hc,hm⟩:=Option.bind_eq_some_iff.1 h
         rw [if_pos hf,hs.cells hc]
         exact mapO_mono (fun x y=>hd H H' x y hs) hm
       · cases h
   · cases h
 · cases h
def DecFrz {α:Type} (dec:Dec α):Prop:=∀ H cs,dec (frzH H) cs=dec H cs
theorem listV_frz {α:Type} {sz:Nat} {dec:Dec α} (hd:DecFrz dec) (H:Heap) (v:Value):listV sz dec (frzH H) v=listV sz dec H v:=by
 unfold listV
 split
 · rfl
 · rw [show (dec (frzH H))=dec H from funext (hd H)]
   simp only [cellsA_frz]
 · rfl
def DecTidy {α:Type} (dec:Dec α):Prop:=∀ H n cs y,(∀ k b,hget H k=some b → k < n) → dec H cs=some y → dec (tidy n H) cs=some y
theorem listV_tidy {α:Type} {sz:Nat} {dec:Dec α} (hd:DecTidy dec) {H:Heap} {n:Nat} (hl:∀ k b,hget H k=some b → k < n) {v:Value} {l:List α} (h:listV sz dec H v=some l):listV sz dec (tidy n H) v=some l:=by
 unfold listV at h ⊢
 split at h
 · exact h
 · rename_i a len c
   split at h
   · rename_i hlt
     rw [if_pos hlt]
     split at h
     · rename_i h0; rw [if_pos h0]; exact h
     · rename_i h0
       rw [if_neg h0]
       split at h
       · rename_i hf
         obtain ⟨cs,hc,hm⟩:=Option.bind_eq_some_iff.1 h
         rw [if_pos hf,cellsA_tidy hl hc]
         exact mapO_mono (fun x y=>hd H n x y hl) hm
       · cases h
   · cases h
 · cases h
def decI:Dec Int:=fun _ cs=>match cs with
 | [.int .i64 n]=>some n
 | _=>none
theorem decI_mono:DecMono decI:=fun _ _ _ _ _ h=>h
theorem decI_tidy:DecTidy decI:=fun _ _ _ _ _ h=>h
def decS:Dec ByteArray:=fun _ cs=>match cs with
 | [.string s]=>some s
 | _=>none
abbrev intV (H:Heap) (v:Value):Option (List Int):=listV 1 decI H v
theorem cells_one {H:Heap} {k o:Nat} {r:List Value} (h:cellsA H k o 1=some r):∃ x,r=[x] ∧ cellA H k o=some x:=by
 obtain ⟨h1,h2⟩:=cellsA_cell h (i:=0) (by omega)
 obtain ⟨x,rfl⟩:∃ x,r=[x]:=by
   match r,h2 with
   | [x],_=>exact ⟨x,rfl⟩
 exact ⟨x,rfl,by simpa using h1⟩
theorem intV_form {H : Heap} {v : Value} {l : List Int} (h : intV H v = some l) :
   ∃ oa c,v = .slice oa l.length c ∧ l.length < 2147483648 ∧ (oa=none → c=0) ∧ ∀ i (hi:i < l.length),∃ a,oa=some a ∧ flat a=true ∧ cellA H a.block (a.off + i)=some (.int .i64 l[i]):=by
 obtain ⟨oa,c,e1,e2,e0,e3⟩:=listV_form h
 refine ⟨oa,c,e1,e2,e0,fun i hi=>?_⟩
 obtain ⟨a,r,f1,f2,f3,f4⟩:=e3 i hi
 obtain ⟨x,rfl,hx⟩:=cells_one f3
 rw [Nat.mul_one] at hx
 unfold decI at f4
 split at f4
 · rename_i n hn
   injection hn with hn
   injection f4 with f4
   subst hn f4
   exact ⟨a,f1,f2,hx⟩
 · cases f4
theorem chunks_one:∀ (cs:List Value),chunks 1 cs.length cs=cs.map fun v=>[v]
 | []=>rfl
 | v :: cs=>by simp [chunks,chunks_one cs]
theorem listV_mk {α:Type} {dec:Dec α} {H:Heap} {a:Addr} {c:Nat} {cs:List Value} {l:List α} (hf:flat a=true) (hc:cellsA H a.block a.off cs.length=some cs) (hl:cs.length=l.length) (hlt:l.length < 2147483648) (hd:∀ (i:Nat) v,cs[i]? = some v → dec H [v]=l[i]?):listV 1 dec H (.slice (some a) l.length c)=some l:=by
 unfold listV
 simp only
 rw [if_pos hlt]
 split
 · rename_i h0
   rw [List.length_eq_zero_iff] at h0
   rw [h0]
 · try rw [if_pos hf]
   rw [← hl,Nat.mul_one,hc]
   simp only [Option.bind_some]
   rw [chunks_one]
   refine mapO_of (by simp [hl]) fun i x hx=>?_
   simp only [List.getElem?_map,Option.map_eq_some_iff] at hx
   obtain ⟨v,hv,rfl⟩:=hx
   exact hd i v hv
theorem dec_iv {H:Heap} {l:List Int} (i:Nat) (v:Value) (h:(l.map iv)[i]? = some v):decI H [v]=l[i]?:=by
 simp only [List.getElem?_map,Option.map_eq_some_iff] at h
 obtain ⟨n,hn,rfl⟩:=h
 rw [hn]; rfl
theorem dec_sv {H:Heap} {l:List ByteArray} (i:Nat) (v:Value) (h:(l.map sv)[i]? = some v):decS H [v]=l[i]?:=by
 simp only [List.getElem?_map,Option.map_eq_some_iff] at h
 obtain ⟨n,hn,rfl⟩:=h
 rw [hn]; rfl
theorem intV_cells {H:Heap} {k c t:Nat} {l:List Int} (h:hget H k=some (.cells (l.map iv) t)) (hl:l.length < 2147483648):intV H (.slice (some ⟨k,0,none⟩) l.length c)=some l:=
 listV_mk (cs:=l.map iv) rfl (by rw [cellsA_eq,h]; simp [List.take_of_length_le]) (by simp) hl dec_iv
theorem flat_n {b o:Nat}:flat ⟨b,o,none⟩=true:=rfl
section
variable {n:Nat} {H:Heap}
@[simp] theorem namesOk_tidy:namesOk n (tidy n H)=true:=(namesOk_tidyL _).1
@[simp] theorem namesOk_tidy' {c:Nat}:namesOk (n + c) (tidy n H)=true:=namesOk_mono (by omega) _ (namesOk_tidyL _).1
@[simp] theorem plainH_tidy:plainH (tidy n H)=true:=(namesOk_tidyL _).2
@[simp] theorem takeNew_tidy:takeNew n (frzH (tidy n H))=[]:=takeNew_frz namesOk_tidy
theorem tidy_lt:∀ k b,hget (tidy n H) k=some b → k < n:=fun _ _ h=>(hget_tidy.1 h).2.1
@[simp] theorem tidy_new:hget (tidy n H) n=none:=(no_new tidy_lt).1
@[simp] theorem tidy_new' {c:Nat}:hget (tidy n H) (n + c)=none:=(no_new tidy_lt).2 c
end
theorem int_tidy {H:Heap} {n:Nat} (hold:∀ k b,hget H k=some b → k < n ∧ scB (· < n) b) {v:Value} {l:List Int} (h:intV H v=some l):intV (tidy n H) v=some l:=
 listV_tidy decI_tidy (fun k b hk=>(hold k b hk).1) h
theorem tidy_old {H:Heap} {n:Nat} (hold:∀ k b,hget H k=some b → k < n ∧ scB (· < n) b):∀ k b,hget (tidy n H) k=some b → k < n ∧ scB (· < n) b:=fun k b h=>hold k b (hget_tidy.1 h).1
@[simp] theorem sne2 {n:Nat}:(n + 1 + 1=n)=False:=eq_false (by omega)
@[simp] theorem slt2 {n:Nat}:(n < n + 1 + 1)=True:=eq_true (by omega)
@[simp] theorem snm2 {n:Nat} {H:Heap}:namesOk (n + 1 + 1) (tidy n H)=true:=namesOk_mono (by omega) _ (namesOk_tidyL _).1
@[simp] theorem sne3 {n:Nat}:(n + 1 + 1 + 1=n)=False:=eq_false (by omega)
@[simp] theorem slt3 {n:Nat}:(n < n + 1 + 1 + 1)=True:=eq_true (by omega)
@[simp] theorem sne4 {n:Nat}:(n + 1 + 1 + 1 + 1=n)=False:=eq_false (by omega)
@[simp] theorem slt4 {n:Nat}:(n < n + 1 + 1 + 1 + 1)=True:=eq_true (by omega)
@[simp] theorem sle4 {n:Nat}:(n ≤ n + 1 + 1 + 1 + 1)=True:=eq_true (by omega)
@[simp] theorem sne5 {n:Nat}:(n + 1 + 1 + 1 + 1 + 1=n)=False:=eq_false (by omega)
@[simp] theorem slt5 {n:Nat}:(n < n + 1 + 1 + 1 + 1 + 1)=True:=eq_true (by omega)
@[simp] theorem sne6 {n:Nat}:(n + 1 + 1 + 1 + 1 + 1 + 1=n)=False:=eq_false (by omega)
@[simp] theorem slt6 {n:Nat}:(n < n + 1 + 1 + 1 + 1 + 1 + 1)=True:=eq_true (by omega)
@[simp] theorem sne7 {n:Nat}:(n + 1 + 1 + 1 + 1 + 1 + 1 + 1=n)=False:=eq_false (by omega)
@[simp] theorem slt7 {n:Nat}:(n < n + 1 + 1 + 1 + 1 + 1 + 1 + 1)=True:=eq_true (by omega)
@[simp] theorem sne8 {n:Nat}:(n + 1 + 1 + 1 + 1 + 1 + 1 + 1 + 1=n)=False:=eq_false (by omega)
@[simp] theorem slt8 {n:Nat}:(n < n + 1 + 1 + 1 + 1 + 1 + 1 + 1 + 1)=True:=eq_true (by omega)
@[simp] theorem sne9 {n:Nat}:(n + 1 + 1 + 1 + 1 + 1 + 1 + 1 + 1 + 1=n)=False:=eq_false (by omega)
@[simp] theorem slt9 {n:Nat}:(n < n + 1 + 1 + 1 + 1 + 1 + 1 + 1 + 1 + 1)=True:=eq_true (by omega)
theorem put_at {α:Type} {cs:List α} {i:Nat} {v:α} (h:i < cs.length):cs.take i ++ [v] ++ cs.drop (i + 1)=cs.set i v:=by
 rw [List.set_eq_take_append_cons_drop,if_pos h,List.append_assoc]
 rfl
theorem store_at {H:Heap} {b i:Nat} {t:TypeId} {cs:List Value} {v:Value} (h:hget H b=some (.cells cs t)) (hi:i < cs.length):storeA H b i [v]=some (hset H b (.cells (cs.set i v) t)):=by
 unfold storeA
 rw [h]
 simp only [List.length_cons,List.length_nil,putL]
 rw [if_pos (by omega),put_at hi]
theorem namesOk_iff {k:Nat}:∀ {H:Heap},namesOk k H=true ↔ ∀ x ∈ H,x.1 < k
 | []=>by simp [namesOk]
 | (i,b) :: H=>by
   rw [namesOk]
   by_cases h:i < k
   · rw [(blt_iff _ _).2 h]
     simp [namesOk_iff (H:=H),h]
   · have:Nat.blt i k=false:=by rw [← Bool.not_eq_true,blt_iff]; exact h
     rw [this]
     simp [h]
theorem hdel_mem:∀ {H:Heap} {k:Nat} {x:Nat × Blk},x ∈ hdel H k → x ∈ H
 | [],_,_,h=>h
 | (i,b) :: H,k,x,h=>by
   rw [hdel] at h
   split at h
   · exact List.mem_cons_of_mem _ (hdel_mem h)
   · rcases List.mem_cons.1 h with rfl | h
     · exact List.mem_cons_self ..
     · exact List.mem_cons_of_mem _ (hdel_mem h)
theorem hset_mem:∀ {H:Heap} {k:Nat} {c:Blk} {x:Nat × Blk},x ∈ hset H k c → ∃ y ∈ H,y.1=x.1
 | [],_,_,_,h=>by cases h
 | (i,b) :: H,k,c,x,h=>by
   rw [hset] at h
   split at h
   · rcases List.mem_cons.1 h with rfl | h
     · exact ⟨(i,b),List.mem_cons_self ..,rfl⟩
     · first
       | exact ⟨x,List.mem_cons_of_mem _ h,rfl⟩
       | (obtain ⟨y,hy,e⟩:=hset_mem h; exact ⟨y,List.mem_cons_of_mem _ hy,e⟩)
   · rcases List.mem_cons.1 h with rfl | h
     · exact ⟨(i,b),List.mem_cons_self ..,rfl⟩
     · obtain ⟨y,hy,e⟩:=hset_mem h
       exact ⟨y,List.mem_cons_of_mem _ hy,e⟩
theorem namesOk_hdel {H:Heap} {k j:Nat} (h:namesOk k H=true):namesOk k (hdel H j)=true:=namesOk_iff.2 fun x hx=>namesOk_iff.1 h x (hdel_mem hx)
theorem namesOk_hset {H:Heap} {k j:Nat} {c:Blk} (h:namesOk k H=true):namesOk k (hset H j c)=true:=namesOk_iff.2 fun x hx=>by
 obtain ⟨y,hy,e⟩:=hset_mem hx
 have:=namesOk_iff.1 h y hy
 omega
theorem namesOk_put {H:Heap} {k j:Nat} {c:Blk} (hj:j < k) (h:namesOk k H=true):namesOk k ((j,c) :: H)=true:=by
 rw [namesOk,(blt_iff _ _).2 hj]; exact h
theorem takeNew_app {n:Nat} {B:Heap}:∀ {A:Heap},(∀ x ∈ A,n ≤ x.1) → takeNew n (A ++ B)=A ++ takeNew n B
 | [],_=>rfl
 | (k,b) :: A,h=>by
   have:Nat.ble n k=true:=Nat.ble_eq_true_of_le (h (k,b) (List.mem_cons_self ..))
   rw [List.cons_append,takeNew,this]
   simp only
   rw [takeNew_app fun x hx=>h x (List.mem_cons_of_mem _ hx)]
   rfl
theorem plainH_app {B:Heap}:∀ {A:Heap},plainH A=true → plainH B=true → plainH (A ++ B)=true
 | [],_,h=>h
 | (k,b) :: A,h1,h2=>by
   rw [plainH] at h1
   rw [List.cons_append,plainH]
   rw [Bool.and_eq_true] at h1 ⊢
   exact ⟨h1.1,plainH_app h1.2 h2⟩
def names (c:Nat):Nat → List Nat
 | 0=>[]
 | k + 1=>c :: names (c + 1) k
structure LstK where
 val:Nat → Nat → Value
 blk:List Value → Blk
 ren:∀ (ρ:Nat → Nat) m k,Ab.ren ρ (val m k)=val (ρ m) k
 sc:∀ (p:Nat → Prop) m k,p m → Ab.sc p (val m k)
 af:∀ m k,Ab.af (val m k)=false
 fix:∀ (ρ:Nat → Nat) l,renB ρ (blk l)=blk (renL ρ l)
 scB:∀ (p:Nat → Prop) l,scL p l → Ab.scB p (blk l)
 car:∀ l,carried (blk l)
 own:∀ l,(blk l).own=true
 cells:∀ H m l,hget H m=some (blk l) → cellsA H m 0 l.length=some l
 form:∀ m k,∃ s c,val m k = .slice (some ⟨m,0,s⟩) k c ∧ flat ⟨m,0,s⟩=true
def wroteK (P:Program) (fn:Func) (H':Heap) (v:Value) (e:Ex) (st:St):Prop:=
 (e = .normal ∨ e = .ret) ∧ st.marks=[] ∧ (∃ vs,resultsA P st.fr st.H fn.results.toList=some vs ∧ one vs=v) ∧ ∀ k b,hget H' k=some b → hget st.H k=some b
abbrev rv (b:Nat):Value:=.float .f32 b
def decR:Dec Nat:=fun _ cs=>match cs with
 | [.float .f32 b]=>some b
 | _=>none
theorem decR_mono:DecMono decR:=fun _ _ _ _ _ h=>h
theorem decR_frz:DecFrz decR:=fun _ _=>rfl
theorem decR_tidy:DecTidy decR:=fun _ _ _ _ _ h=>h
abbrev reaV (H:Heap) (v:Value):Option (List Nat):=listV 1 decR H v
theorem reaV_form {H : Heap} {v : Value} {l : List Nat} (h : reaV H v = some l) :
   ∃ oa c,v = .slice oa l.length c ∧ l.length < 2147483648 ∧ (oa=none → c=0) ∧ ∀ i (hi:i < l.length),∃ a,oa=some a ∧ flat a=true ∧ cellA H a.block (a.off + i)=some (rv l[i]):=by
 obtain ⟨oa,c,e,h1,h2,h3⟩:=listV_form h
 refine ⟨oa,c,e,h1,h2,fun i hi=>?_⟩
 obtain ⟨a,r,e1,e2,e3,e4⟩:=h3 i hi
 rw [Nat.mul_one] at e3
 obtain ⟨x,rfl,hx⟩:=cells_one e3
 refine ⟨a,e1,e2,?_⟩
 rw [hx]
 unfold decR at e4
 split at e4
 · rename_i b hb
   injection hb with hb
   injection e4 with e4
   rw [hb,e4]
 · cases e4
structure Trc where
 hd:List Int
 hole:Bool
 smp:List Nat
def decT:Dec Trc:=fun H cs=>match cs with
 | [.int .i64 a0,.int .i64 a1,.int .i64 a2,.int .i64 a3,.int .i64 a4,.int .i64 a5,.int .i64 a6,.int .i64 a7,.bool b,s]=>(reaV H s).map fun l=>⟨[a0,a1,a2,a3,a4,a5,a6,a7],b,l⟩
 | _=>none
theorem decT_mono:DecMono decT:=fun H H' cs y hs h=>by
 unfold decT at h ⊢
 split at h
 · rw [Option.map_eq_some_iff] at h ⊢
   obtain ⟨l,h1,h2⟩:=h
   exact ⟨l,listV_mono decR_mono hs h1,h2⟩
 · cases h
theorem decT_frz:DecFrz decT:=fun H cs=>by
 unfold decT
 split
 · rw [show reaV (frzH H) _=reaV H _ from listV_frz decR_frz H _]
 · rfl
theorem decT_tidy:DecTidy decT:=fun H n cs y hl h=>by
 unfold decT at h ⊢
 split at h
 · rw [Option.map_eq_some_iff] at h ⊢
   obtain ⟨l,h1,h2⟩:=h
   exact ⟨l,listV_tidy decR_tidy hl h1,h2⟩
 · cases h
theorem decT_form {H:Heap} {cs:List Value} {t:Trc} (h:decT H cs=some t):∃ s,cs=t.hd.map iv ++ [.bool t.hole,s] ∧ t.hd.length=8 ∧ reaV H s=some t.smp:=by
 unfold decT at h
 split at h
 · rw [Option.map_eq_some_iff] at h
   obtain ⟨l,h1,rfl⟩:=h
   exact ⟨_,rfl,rfl,h1⟩
 · cases h
theorem decT_mk {H:Heap} {t:Trc} {s:Value} (h8:t.hd.length=8) (h:reaV H s=some t.smp):decT H (t.hd.map iv ++ [.bool t.hole,s])=some t:=by
 obtain ⟨hd,b,l⟩:=t
 dsimp only at h8 h
 match hd,h8 with
 | [a0,a1,a2,a3,a4,a5,a6,a7],_=>
   simp only [List.map_cons,List.map_nil,List.cons_append,List.nil_append,decT]
   rw [h]
   rfl
abbrev trcV (H:Heap) (v:Value):Option (List Trc):=listV 10 decT H v
theorem trcV_form {H : Heap} {v : Value} {l : List Trc} (h : trcV H v = some l) :
   ∃ oa c,v = .slice oa l.length c ∧ l.length < 2147483648 ∧ (oa=none → c=0) ∧ ∀ i (hi:i < l.length),∃ a s,oa=some a ∧ flat a=true ∧ cellsA H a.block (a.off + i * 10) 10=some (l[i].hd.map iv ++ [.bool l[i].hole,s]) ∧ l[i].hd.length=8 ∧ reaV H s=some l[i].smp:=by
 obtain ⟨oa,c,e,h1,h2,h3⟩:=listV_form h
 refine ⟨oa,c,e,h1,h2,fun i hi=>?_⟩
 obtain ⟨a,r,e1,e2,e3,e4⟩:=h3 i hi
 obtain ⟨s,rfl,h8,hs⟩:=decT_form e4
 exact ⟨a,s,e1,e2,e3,h8,hs⟩
theorem trc_cells {H : Heap} {k o : Nat} {t : Trc} {s : Value} (h : cellsA H k o 10 = some (t.hd.map iv ++ [.bool t.hole, s])) (h8 : t.hd.length = 8) :
   cellA H k (o + 8)=some (.bool t.hole) ∧ cellA H k (o + 9)=some s ∧ ∀ j (hj:j < 8),cellA H k (o + j)=some (iv (t.hd[j]'(by omega))):=by
 refine ⟨?_,?_,fun j hj=>?_⟩
 · obtain ⟨h1,_⟩:=cellsA_cell h (i:=8) (by omega)
   rw [h1,List.getElem?_append_right (by rw [List.length_map]; omega),List.length_map,h8]
   rfl
 · obtain ⟨h1,_⟩:=cellsA_cell h (i:=9) (by omega)
   rw [h1,List.getElem?_append_right (by rw [List.length_map]; omega),List.length_map,h8]
   rfl
 · obtain ⟨h1,_⟩:=cellsA_cell h (i:=j) (by omega)
   rw [h1,List.getElem?_append_left (by rw [List.length_map]; omega),List.getElem?_map,List.getElem?_eq_getElem (by omega)]
   rfl
def shtV (H:Heap) (v:Value):Option (ByteArray × List Trc):=match v with
 | .agg ⟨[.string s,l]⟩=>(trcV H l).map fun ts=>(s,ts)
 | _=>none
theorem shtV_form {H:Heap} {v:Value} {s:ByteArray} {ts:List Trc} (h:shtV H v=some (s,ts)):∃ l,v = .agg ⟨[.string s,l]⟩ ∧ trcV H l=some ts:=by
 unfold shtV at h
 split at h
 · rw [Option.map_eq_some_iff] at h
   obtain ⟨l,h1,h2⟩:=h
   injection h2 with h2 h3
   subst h2 h3
   exact ⟨_,rfl,h1⟩
 · cases h
theorem shtV_mono {H H':Heap} (hs:Sub H H') {v:Value} {x:ByteArray × List Trc} (h:shtV H v=some x):shtV H' v=some x:=by
 obtain ⟨s,ts⟩:=x
 obtain ⟨l,rfl,h1⟩:=shtV_form h
 show (trcV H' l).map (fun ts=>(s,ts))=_
 rw [show trcV H' l=some ts from listV_mono decT_mono hs h1]
 rfl
theorem shtV_tidy {H:Heap} {n:Nat} (hl:∀ k b,hget H k=some b → k < n) {v:Value} {x:ByteArray × List Trc} (h:shtV H v=some x):shtV (tidy n H) v=some x:=by
 obtain ⟨s,ts⟩:=x
 obtain ⟨l,rfl,h1⟩:=shtV_form h
 show (trcV (tidy n H) l).map (fun ts=>(s,ts))=_
 rw [show trcV (tidy n H) l=some ts from listV_tidy decT_tidy hl h1]
 rfl
theorem shtV_frz (H:Heap) (v:Value):shtV (frzH H) v=shtV H v:=by
 unfold shtV
 split
 · rw [show trcV (frzH H) _=trcV H _ from listV_frz decT_frz H _]
 · rfl
end Go.Ab
namespace Go.Proofs.YtkongcnmkiihjaaGreatDoor
open Go Go.Ab Go.Proofs
theorem cellA_read {L:List Nat} {H:Heap} {a o:Nat}:cellA (readA L H) a o=if memN L a=true then cellA H a o else none:=by
 rw [cellA_eq,cellA_eq,hget_readA]
 split <;> rfl
theorem cellsA_read {L:List Nat} {H:Heap} {a o k:Nat}:cellsA (readA L H) a o k=if memN L a=true then cellsA H a o k else none:=by
 rw [cellsA_eq,cellsA_eq,hget_readA]
 split <;> rfl
theorem load103 {H:Heap} {n:Nat} {s:ByteArray} {u:Value} (h:hget H n=some (.cells [.string s,u] 103)):loadA Tryz.prog 103 H (.pointer (some ⟨n,0,none⟩))=some (.agg ⟨[.string s,u]⟩):=by
 have:cellsA H n 0 2=some [.string s,u]:=by rw [cellsA_eq,h]; rfl
 simp only [loadA,ag103,sz103,this,Option.map_some]
theorem load144 {H:Heap} {k o:Nat} {cs:List Value} (h:cellsA H k o 10=some cs):loadA Tryz.prog 144 H (.pointer (some ⟨k,o,none⟩))=some (.agg ⟨cs⟩):=by
 simp only [loadA,ag144,sz144,h,Option.map_some]
theorem load142 {H:Heap} {k o:Nat} {cs:List Value} (h:cellsA H k o 8=some cs):loadA Tryz.prog 142 H (.pointer (some ⟨k,o,none⟩))=some (.agg ⟨cs⟩):=by
 simp only [loadA,ag142,sz142,h,Option.map_some]
def widF (ts:List Trc):Int × Bool:=match ts.find? fun t=>!t.hole with
 | some t=>(t.smp.length,true)
 | none=>(0,false)
theorem widF_nil:widF []=(0,false):=rfl
theorem widF_drop {ts:List Trc} {i:Nat} (h:i < ts.length):widF (ts.drop i)=if ts[i].hole then widF (ts.drop (i + 1)) else ((ts[i].smp.length:Int),true):=by
 rw [List.drop_eq_getElem_cons h]
 unfold widF
 rw [List.find?_cons]
 cases ts[i].hole <;> rfl
set_option maxHeartbeats 600000 in
set_option maxRecDepth 50000 in
theorem w138 {H:Heap} {n:Nat} {v:Value} {s:ByteArray} {ts:List Trc} (hv:shtV H v=some (s,ts)):AC Tryz.prog 138 [v] H n (.tuple #[iv (widF ts).1,.bool (widF ts).2]) H n:=by
 refine AC.given fun hold hsc hgn=>AC.tidied (B:=[]) (by simp) ?_
 replace hv:=shtV_tidy (fun k b h=>(hold k b h).1) hv
 replace hold:=tidy_old hold
 have hr:=recT_ok (P:=Tryz.prog) (l:=[]) (by simp)
 obtain ⟨u,rfl,ht⟩:=shtV_form hv
 obtain ⟨oa,c,rfl,hlt,_,hrow⟩:=trcV_form ht
 obtain ⟨X,hX⟩:∃ X,(n,Blk.cells [.string s,.slice oa ts.length c] 103) :: tidy n H=X:=⟨_,rfl⟩
 have hS:Sub (tidy n H) X:=by rw [← hX]; exact Sub.cons (by simp) (Sub.refl _)
 have hb:hget X n=some (.cells [.string s,.slice oa ts.length c] 103):=by rw [← hX,hget_cons,if_pos rfl]
 have hc1:cellA X n 1=some (.slice oa ts.length c):=by rw [cellA_eq,hb]; rfl
 refine AC.pure Tryz.func138 rfl (by kernel_rfl) rfl [1,2,3,4] rfl ?_
 refine E.seq (E.reg hr (by simp; rfl) ?_)
 rw [hX]
 refine E.seq (E.seq (E.reg hr (by simp; rfl) ?_))
 refine E.block (E.loop ?_)
 refine EL.ind (fun i:Nat=>{ fr:=[(1,.pointer (some ⟨n,0,none⟩)),(4,iv i)],sz:=26,H:=X,n:=n + 1,marks:=[],vs:=[1,2,3,4] }) (fun i=>ts.length - i) (fun i=>i ≤ ts.length ∧ widF ts=widF (ts.drop i)) 0 (.keep rfl rfl rfl (by simp) (Sub.refl _)) ⟨Nat.zero_le _,by rw [List.drop_zero]⟩ (fun _=>rfl) ?_
 rintro i ⟨hi,hg⟩
 have hw:IntKind.i64.wrap ((i:Int) + 1)=(i:Int) + 1:=W_in (by omega) (by omega)
 refine E.seq (E.seq (E.reg hr (by simp [-cellA,hc1]; rfl) ?_))
 by_cases hil:i < ts.length
 · refine E.cond (t:=true) (by simp [hil]) (fun _=>?_) (fun h=>by cases h)
   obtain ⟨a,q,rfl,hf,hcs,h8,hq⟩:=hrow i hil
   obtain ⟨hc8,hc9,_⟩:=trc_cells (hS.cells hcs) h8
   obtain ⟨oq,cq,rfl,hlq,_,_⟩:=reaV_form hq
   rw [widF_drop hil] at hg
   refine E.skip (E.seq ?_)
   refine E.block (E.seq (E.reg hr (by simp [-cellA,-flat,hc1,hil,hf,hc8]; rfl) ?_))
   by_cases hh:ts[i].hole=true
   · refine E.cond (t:=false) (by simp [hh]) (fun h=>by cases h) (fun _=>?_)
     refine E.skip (E.reg hr (by simp [hw]; rfl) ?_)
     rw [if_pos hh] at hg
     exact ⟨i + 1,.keep rfl rfl rfl (by simp) (Sub.refl _),⟨by omega,hg⟩,by dsimp only; omega⟩
   · refine E.cond (t:=true) (by simp [hh]) (fun _=>?_) (fun h=>by cases h)
     refine E.seq (E.reg hr (by simp [-cellA,-flat,hc1,hil,hf,hc9]; rfl) ?_)
     refine E.ret ?_
     rw [if_neg hh] at hg
     exact pureK.ret rfl rfl (by rw [hg]; simp) hS
 · refine E.cond (t:=false) (by simp [hil]) (fun h=>by cases h) (fun _=>?_)
   refine E.exit ?_
   refine E.seq (E.reg hr (by simp; rfl) ?_)
   refine E.ret ?_
   rw [List.drop_of_length_le (by omega)] at hg
   exact pureK.ret rfl rfl (by rw [hg,widF_nil]; simp) hS
def g138 (args:List Value) (H:Heap) (n:Nat):R:=match args with
 | [v]=>match shtV H v with
   | some x=>some (.tuple #[iv (widF x.2).1,.bool (widF x.2).2],H,n)
   | none=>none
 | _=>none
theorem ok138:EntOk Tryz.prog (138,g138):=by
 intro args H n v H' n' h
 simp only [g138] at h
 split at h
 · split at h
   · rename_i x hx
     injection h with h; injection h with e1 e2; injection e2 with e2 e3; subst e1 e2 e3
     exact w138 (s:=x.1) (ts:=x.2) hx
   · cases h
 · cases h
open Classical in
noncomputable def g15 (args:List Value) (H:Heap) (n:Nat):R:=if args=[] ∧ hget H 1=some (.inp 0 rangesV) ∧ hget H 0=some (.inp 0 freeV) then some (.bool true,H,n) else none
theorem ok15:EntOk Tryz.prog (15,g15):=by
 intro args H n v H' n' h
 simp only [g15] at h
 split at h
 · rename_i hc
   obtain ⟨rfl,h1,h0⟩:=hc
   injection h with h; injection h with e1 e2; injection e2 with e2 e3; subst e1 e2 e3
   refine AC.liftP rfl (Part.plain rfl G0 ?_ gsz ⟨_,_,st0H ▸ awakeAC⟩)
   intro x hx
   rw [gsz]
   simp at hx
   rcases hx with rfl | rfl
   · exact ⟨by simp,h1,rfl,scL_af _ _ af_rangesV⟩
   · exact ⟨by simp,h0,rfl,scL_af _ _ af_freeV⟩
 · cases h
theorem cv55 (n:Int):runP Tryz.prog (convert 55 3 (.int .u16 n))=some (.int .i64 (IntKind.i64.wrap n)):=by kernel_rfl
theorem w99 (b:Bool) (e:Int):AC Tryz.prog 99 [.bool b,.int .i64 e] [] 9 (.int .i64 (whenV b e)) [] 9:=by
 have hr:=recT_ok (P:=Tryz.prog) (l:=[]) (by simp)
 refine AC.pure Tryz.func99 rfl (by kernel_rfl) rfl [] rfl ?_
 refine E.seq (E.reg hr (by simp [argsFr,Tryz.f99]; rfl) ?_)
 refine E.seq (E.seq (E.reg hr (by simp; rfl) ?_))
 refine E.cond (by rfl) (fun h=>?_) (fun h=>?_)
 · try simp at h
   refine E.seq (E.reg hr (by simp; rfl) ?_)
   refine E.ret ?_
   exact pureK.ret rfl rfl (by simp [one,whenV,h]) (sub_refl _)
 · try simp at h
   refine E.skip (E.seq (E.reg hr (by simp; rfl) ?_))
   refine E.ret ?_
   exact pureK.ret rfl rfl (by simp [one,whenV,h]) (sub_refl _)
def g99 (args:List Value) (H:Heap) (n:Nat):R:=match args with
 | [.bool b,.int .i64 e]=>some (.int .i64 (whenV b e),H,n)
 | _=>none
theorem ok99:EntOk Tryz.prog (99,g99):=by
 intro args H n v H' n' h
 simp only [g99] at h
 split at h
 · rename_i b e
   injection h with h; injection h with e1 e2; injection e2 with e2 e3; subst e1 e2 e3
   exact AC.liftP rfl (Part.plain (by simp) [] (by simp [Seen]) gsz ⟨_,_,w99 b e⟩)
 · cases h
theorem w37 (a lo hi:Int):AC Tryz.prog 37 [.int .i64 a,.int .i64 lo,.int .i64 hi] [] 9 (.int .i64 (withinV a lo hi)) [] 9:=by
 have hr:=recT_ok (P:=Tryz.prog) (l:=[(99,g99)]) (by simp [ok99])
 refine AC.pure Tryz.func37 rfl (by kernel_rfl) rfl [] rfl ?_
 refine E.seq (E.reg hr (by simp [argsFr,Tryz.f37]; rfl) ?_)
 refine E.seq ?_
 by_cases h1:a < lo
 · refine E.reg hr (by simp [h1,oneF_guard,yieldedA,g99]; rfl) ?_
   refine E.ret ?_
   exact pureK.ret rfl rfl (by simp [one,withinV,whenV,h1]) (sub_refl _)
 · refine E.reg hr (by simp [h1,oneF_guard,yieldedA,g99]; rfl) ?_
   refine E.ret ?_
   exact pureK.ret rfl rfl (by simp [one,withinV,whenV,h1]) (sub_refl _)
def g37 (args:List Value) (H:Heap) (n:Nat):R:=match args with
 | [.int .i64 a,.int .i64 b,.int .i64 c]=>some (.int .i64 (withinV a b c),H,n)
 | _=>none
theorem ok37:EntOk Tryz.prog (37,g37):=by
 intro args H n v H' n' h
 simp only [g37] at h
 split at h
 · injection h with h; injection h with e1 e2; injection e2 with e2 e3; subst e1 e2 e3
   exact AC.liftP rfl (Part.plain (by simp) [] (by simp [Seen]) gsz ⟨_,_,w37 _ _ _⟩)
 · cases h
theorem w97 (v:Int):AC Tryz.prog 97 [iv v] [] 9 (iv (withinV v 0 16)) [] 9:=by
 have hr:=recT_ok (P:=Tryz.prog) (l:=[(91,g91)]) (by simp [ok91])
 refine AC.pure Tryz.func97 rfl (by kernel_rfl) rfl [] rfl ?_
 refine E.seq (E.reg hr (by simp [argsFr,Tryz.f97]; rfl) ?_)
 refine E.seq (E.reg hr (by simp [g91]; rfl) ?_)
 refine E.ret ?_
 exact pureK.ret rfl rfl (by simp [one]) (sub_refl _)
def g97 (args:List Value) (H:Heap) (n:Nat):R:=match args with
 | [.int .i64 a]=>some (.int .i64 (withinV a 0 16),H,n)
 | _=>none
theorem ok97:EntOk Tryz.prog (97,g97):=by
 intro args H n v H' n' h
 simp only [g97] at h
 split at h
 · injection h with h; injection h with e1 e2; injection e2 with e2 e3; subst e1 e2 e3
   exact AC.liftP rfl (Part.plain (by simp) [] (by simp [Seen]) gsz ⟨_,_,w97 _⟩)
 · cases h
theorem w98 (v:Int):AC Tryz.prog 98 [iv v] [] 9 (iv (withinV v 0 1024)) [] 9:=by
 have hr:=recT_ok (P:=Tryz.prog) (l:=[(91,g91)]) (by simp [ok91])
 refine AC.pure Tryz.func98 rfl (by kernel_rfl) rfl [] rfl ?_
 refine E.seq (E.reg hr (by simp [argsFr,Tryz.f98]; rfl) ?_)
 refine E.seq (E.reg hr (by simp [g91]; rfl) ?_)
 refine E.ret ?_
 exact pureK.ret rfl rfl (by simp [one]) (sub_refl _)
def g98 (args:List Value) (H:Heap) (n:Nat):R:=match args with
 | [.int .i64 a]=>some (.int .i64 (withinV a 0 1024),H,n)
 | _=>none
theorem ok98:EntOk Tryz.prog (98,g98):=by
 intro args H n v H' n' h
 simp only [g98] at h
 split at h
 · injection h with h; injection h with e1 e2; injection e2 with e2 e3; subst e1 e2 e3
   exact AC.liftP rfl (Part.plain (by simp) [] (by simp [Seen]) gsz ⟨_,_,w98 _⟩)
 · cases h
def intsW (H:Heap):Value → Option (List Int)
 | .slice none 0 0=>some []
 | .slice (some a) len _=>intsAt H a len
 | _=>none
set_option maxHeartbeats 600000 in
set_option maxRecDepth 50000 in
theorem w81 {H:Heap} {n:Nat} {v:Value} {s:ByteArray} {ts:List Trc} (hv:shtV H v=some (s,ts)):AC Tryz.prog 81 [v] H n (iv (widF ts).1) H n:=by
 refine AC.given fun hold hsc hgn=>AC.tidied (B:=[]) (by simp) ?_
 replace hv:=shtV_tidy (fun k b h=>(hold k b h).1) hv
 replace hold:=tidy_old hold
 have hr:=recT_ok (P:=Tryz.prog) (l:=[(138,g138)]) (by simp [ok138])
 have hv2:=hv
 obtain ⟨u,rfl,ht⟩:=shtV_form hv
 obtain ⟨X,hX⟩:∃ X,(n,Blk.cells [.string s,u] 103) :: tidy n H=X:=⟨_,rfl⟩
 have hS:Sub (tidy n H) X:=by rw [← hX]; exact Sub.cons (by simp) (Sub.refl _)
 have hb:hget X n=some (.cells [.string s,u] 103):=by rw [← hX,hget_cons,if_pos rfl]
 have hld:=load103 hb
 have hg:∀ m,g138 [.agg ⟨[.string s,u]⟩] X m=some (.tuple #[iv (widF ts).1,.bool (widF ts).2],X,m):=fun m=>by
   simp only [g138,shtV_mono hS hv2]
 refine AC.pure Tryz.func81 rfl (by kernel_rfl) rfl [1,3] rfl ?_
 refine E.seq (E.reg hr (by simp; rfl) ?_)
 rw [hX]
 refine E.seq (E.reg hr (by simp [-loadA,hld,hg]; rfl) ?_)
 refine E.seq (E.reg hr (by simp; rfl) ?_)
 refine E.ret ?_
 exact pureK.ret rfl rfl (by simp) hS
def g81 (args:List Value) (H:Heap) (n:Nat):R:=match args with
 | [v]=>match shtV H v with
   | some x=>some (iv (widF x.2).1,H,n)
   | none=>none
 | _=>none
theorem ok81:EntOk Tryz.prog (81,g81):=by
 intro args H n v H' n' h
 simp only [g81] at h
 split at h
 · split at h
   · rename_i x hx
     injection h with h; injection h with e1 e2; injection e2 with e2 e3; subst e1 e2 e3
     exact w81 (s:=x.1) (ts:=x.2) hx
   · cases h
 · cases h
def loH (i:Nat):Int:=if i < 4 then -100000 else if i=4 then 0 else -999999999
def hiH (i:Nat):Int:=if i < 4 then 100000 else if i=4 then 100000 else 999999999
def hdC (hd:List Int) (i:Nat):Int:=withinV (hd.getD i 0) (loH i) (hiH i)
def hdG (hd:List Int):Nat → Int
 | 0=>0
 | k + 1=>if hdC hd (7 - k)=0 then hdG hd k else hdC hd (7 - k)
def hdE (hd:List Int):Int:=hdG hd 8
theorem hdG_at {hd:List Int} {i:Nat} (h:i < 8):hdG hd (8 - i)=if hdC hd i=0 then hdG hd (8 - (i + 1)) else hdC hd i:=by
 rw [show 8 - i=(7 - i) + 1 by omega,hdG,show 7 - (7 - i)=i by omega,show 8 - (i + 1)=7 - i by omega]
set_option maxHeartbeats 1000000 in
set_option maxRecDepth 50000 in
theorem w173 {H:Heap} {n:Nat} {hd:List Int} (h8:hd.length=8):AC Tryz.prog 173 [.agg ⟨hd.map iv⟩] H n (iv (hdE hd)) H n:=by
 refine AC.given fun hold hsc hgn=>AC.tidied (B:=[]) (by simp) ?_
 have hr:=recT_ok (P:=Tryz.prog) (l:=[(37,g37)]) (by simp [ok37])
 obtain ⟨X,hX⟩:∃ X,(n,Blk.cells (hd.map iv) 142) :: tidy n H=X:=⟨_,rfl⟩
 have hS:Sub (tidy n H) X:=by rw [← hX]; exact Sub.cons (by simp) (Sub.refl _)
 have hb:hget X n=some (.cells (hd.map iv) 142):=by rw [← hX,hget_cons,if_pos rfl]
 have hc:∀ i,i < 8 → cellA X n i=some (iv (hd.getD i 0)):=fun i hi=>by
   rw [cellA_eq,hb]
   show (hd.map iv)[i]? = _
   rw [List.getElem?_map,List.getD_eq_getElem?_getD,List.getElem?_eq_getElem (by omega)]
   rfl
 refine AC.pure Tryz.func173 rfl (by kernel_rfl) rfl [1,2,3,4,5,6] rfl ?_
 refine E.seq (E.reg hr (by simp; rfl) ?_)
 rw [hX]
 refine E.seq (E.seq (E.reg hr (by simp; rfl) ?_))
 refine E.block (E.loop ?_)
 refine EL.ind (fun i:Nat=>{ fr:=[(1,.pointer (some ⟨n,0,none⟩)),(3,iv i)],sz:=24,H:=X,n:=n + 1,marks:=[],vs:=[1,2,3,4,5,6] }) (fun i=>8 - i) (fun i=>i ≤ 8 ∧ hdE hd=hdG hd (8 - i)) 0 (.keep rfl rfl rfl (by simp) (Sub.refl _)) ⟨Nat.zero_le _,rfl⟩ (fun _=>rfl) ?_
 rintro i ⟨hi,hg⟩
 have hw:IntKind.i64.wrap ((i:Int) + 1)=(i:Int) + 1:=W_in (by omega) (by omega)
 refine E.seq (E.seq (E.reg hr (by simp; rfl) ?_))
 by_cases hil:i < 8
 · have hi8:(i:Int) < 8:=by omega
   refine E.cond (t:=true) (by simp [hi8]) (fun _=>?_) (fun h=>by cases h)
   rw [hdG_at hil] at hg
   have hci:=hc i hil
   have hC:withinV (hd.getD i 0) (loH i) (hiH i)=hdC hd i:=rfl
   obtain ⟨y,hy⟩:∃ y,hd.getD i 0=y:=⟨_,rfl⟩
   rw [hy] at hci hC
   refine E.skip (E.seq ?_)
   refine E.block (E.seq (E.reg hr (by simp; rfl) ?_))
   refine E.seq (E.seq (E.reg hr (by simp; rfl) ?_))
   by_cases c1:i < 4
   case' pos=>
     have e1:(i:Int) < 4:=by omega
     have e2:¬ (i:Int)=4:=by omega
     have hL:loH i = -100000 ∧ hiH i=100000:=⟨if_pos c1,if_pos c1⟩
     refine E.cond (t:=true) (by simp [e1]) (fun _=>?_) (fun h=>by cases h)
     refine E.reg hr (by simp; rfl) ?_
     refine E.seq (E.seq (E.reg hr (by simp; rfl) ?_))
     refine E.cond (t:=false) (by simp [e2]) (fun h=>by cases h) (fun _=>?_)
     refine E.skip ?_
   case' neg=>
     have e1:¬ (i:Int) < 4:=by omega
     refine E.cond (t:=false) (by simp [e1]) (fun h=>by cases h) (fun _=>?_)
     refine E.skip (E.seq ?_)
     refine E.seq (E.reg hr (by simp; rfl) ?_)
     by_cases c2:i=4
     case' pos=>
       have e2:(i:Int)=4:=by omega
       have hL:loH i=0 ∧ hiH i=100000:=⟨by rw [loH,if_neg c1,if_pos c2],by rw [hiH,if_neg c1,if_pos c2]⟩
       refine E.cond (t:=true) (by simp [e2]) (fun _=>?_) (fun h=>by cases h)
       refine E.reg hr (by simp; rfl) ?_
     case' neg=>
       have e2:¬ (i:Int)=4:=by omega
       have hL:loH i = -999999999 ∧ hiH i=999999999:=⟨by rw [loH,if_neg c1,if_neg c2],by rw [hiH,if_neg c1,if_neg c2]⟩
       refine E.cond (t:=false) (by simp [e2]) (fun h=>by cases h) (fun _=>?_)
       refine E.skip ?_
   all_goals
     refine E.lead { fr:=[(1,.pointer (some ⟨n,0,none⟩)),(3,iv i),(4,iv (loH i)),(5,iv (hiH i))],sz:=24,H:=X,n:=n + 1,marks:=[],vs:=[1,2,3,4,5,6] } (.keep rfl rfl rfl (by simp [hL]) (Sub.refl _)) ?_
     refine E.seq (E.reg hr (by simp [-cellA,hi8,hci,g37,hC]; rfl) ?_)
     refine E.seq (E.reg hr (by simp; rfl) ?_)
     by_cases hz:hdC hd i=0
     · refine E.cond (t:=false) (by simp [hz]) (fun h=>by cases h) (fun _=>?_)
       refine E.skip (E.reg hr (by simp [hw]; rfl) ?_)
       rw [if_pos hz] at hg
       exact ⟨i + 1,.keep rfl rfl rfl (by simp) (Sub.refl _),⟨by omega,hg⟩,by dsimp only; omega⟩
     · refine E.cond (t:=true) (by simp [hz]) (fun _=>?_) (fun h=>by cases h)
       refine E.seq (E.reg hr (by simp; rfl) ?_)
       refine E.ret ?_
       rw [if_neg hz] at hg
       exact pureK.ret rfl rfl (by rw [hg]; simp) hS
 · have hi8:¬ (i:Int) < 8:=by omega
   refine E.cond (t:=false) (by simp [hi8]) (fun h=>by cases h) (fun _=>?_)
   refine E.exit ?_
   refine E.seq (E.reg hr (by simp; rfl) ?_)
   refine E.ret ?_
   rw [show 8 - i=0 by omega] at hg
   exact pureK.ret rfl rfl (by rw [hg]; rfl) hS
def offV (hd:List Int):Int:=(hd.getD 2 0 - hd.getD 0 0) * (hd.getD 2 0 - hd.getD 0 0) + (hd.getD 3 0 - hd.getD 1 0) * (hd.getD 3 0 - hd.getD 1 0)
theorem hdE_zero {hd:List Int} (h:hdE hd=0):∀ i,i < 8 → loH i ≤ hd.getD i 0 ∧ hd.getD i 0 ≤ hiH i:=by
 have key:∀ k,k ≤ 8 → hdG hd (8 - k)=0:=by
   intro k
   induction k with
   | zero=>intro _; exact h
   | succ k ih=>
     intro hk
     have:=ih (by omega)
     rw [hdG_at (by omega)] at this
     split at this
     · exact this
     · rename_i h1; exact absurd this h1
 intro i hi
 have h1:=key i (by omega)
 rw [hdG_at hi] at h1
 split at h1
 · rename_i h2
   unfold hdC withinV at h2
   split at h2
   · cases h2
   · omega
 · rename_i h2; exact absurd h1 h2
theorem off_bound {hd:List Int} (h:hdE hd=0):(∀ i,i < 4 → -100000 ≤ hd.getD i 0 ∧ hd.getD i 0 ≤ 100000) ∧ 0 ≤ offV hd ∧ offV hd ≤ 80000000000:=by
 have h4:∀ i,i < 4 → -100000 ≤ hd.getD i 0 ∧ hd.getD i 0 ≤ 100000:=fun i hi=>by
   have:=hdE_zero h i (by omega)
   rw [loH,hiH,if_pos hi,if_pos hi] at this
   exact this
 refine ⟨h4,?_⟩
 have sq:∀ x:Int,-200000 ≤ x → x ≤ 200000 → 0 ≤ x * x ∧ x * x ≤ 40000000000:=fun x h1 h2=>by
   have h3:x * x=(x.natAbs:Int) * (x.natAbs:Int):=(Int.natAbs_mul_self' x).symm
   have h4:x.natAbs ≤ 200000:=by omega
   have h5:x.natAbs * x.natAbs ≤ 200000 * 200000:=Nat.mul_le_mul h4 h4
   rw [h3]
   omega
 have a:=h4 0 (by omega)
 have b:=h4 1 (by omega)
 have c:=h4 2 (by omega)
 have d:=h4 3 (by omega)
 have e:=sq (hd.getD 2 0 - hd.getD 0 0) (by omega) (by omega)
 have f:=sq (hd.getD 3 0 - hd.getD 1 0) (by omega) (by omega)
 unfold offV
 omega
end Go.Proofs.YtkongcnmkiihjaaGreatDoor
namespace Go.Ab
open Go
theorem AC.subV {P : Program} {f : FuncId} {args : List Value} {H : Heap} {n : Nat} {v : Value} {H1 : Heap} {n1 : Nat} {H2 : Heap} (h : AC P f args H n v H1 n1) (hv : sc (· < n) v)
   (hs:∀ k b,hget H2 k=some b → hget H1 k=some b ∧ (hget H k=some b ∨ (k < n ∧ (∃ b0,hget H k=some b0) ∧ scB (fun _=>False) b))):AC P f args H n v H2 n:=by
 intro p φ w hB hsc
 have key:∀ φ' w',Dn P p φ n (hget H) w v n1 (hget H1) φ' w' → den φ' v=den φ v ∧ Dn P p φ n (hget H) w v n (hget H2) φ w':=by
   intro φ' w' hd
   obtain ⟨hsm,hscv,hst⟩:=hd
   have hp:∀ k b,hget H2 k=some b → p k ∧ scB p b:=fun k b hk=>by
     rcases (hs k b hk).2 with h | ⟨_,⟨b0,h0⟩,h2⟩
     · exact hB.sm k b h
     · exact ⟨(hB.sm k b0 h0).1,scB_mono (fun _ h=>h.elim) _ h2⟩
   have hagr:Agr p φ' φ:=fun k hk=>⟨(hst.only k (.inl (hB.lt k hk))).1.symm,(hst.only k (.inl (hB.lt k hk))).2.symm⟩
   have hpv:sc p v:=sc_mono (fun k hk=>by
     rcases hk.1 with h | h
     · exact h
     · have:=hk.2; omega) v (sc_and v hscv hv)
   refine ⟨(den_congr hagr v hpv).symm,fun k b hk=>⟨.inl (hp k b hk).1,scB_mono (fun _ h=>.inl h) _ (hp k b hk).2⟩,sc_mono (fun _ h=>.inl h) v hpv,Nat.le_refl _,fun _ _=>⟨rfl,rfl⟩,?_,fun k b hk ho=>?_,fun k b hk ho=>?_,hst.frm⟩
   · exact (hst.rel.sub fun k b hk=>(hs k b hk).1).congr hp hagr hB.rel.glob
   · rcases hst.new k b (hs k b hk).1 ho with h | ⟨k0,b0,h1,h2,h3⟩
     · exact .inl (by rw [(hagr k (hp k b hk).1).1]; exact h)
     · exact .inr ⟨k0,b0,h1,h2,by rw [(hagr k (hp k b hk).1).1]; exact h3⟩
   · exact hst.inp k b (hs k b hk).1 ho
 rcases h p φ w hB hsc with ⟨h1,h2⟩ | ⟨φ',w',h1,h2⟩
 · refine .inl ⟨h1,CallsIn.mono h2 fun e w' hh=>?_⟩
   obtain ⟨φ',he,hd⟩:=hh
   obtain ⟨e1,e2⟩:=key φ' w' hd
   exact ⟨φ,by rw [he,e1],e2⟩
 · obtain ⟨e1,e2⟩:=key φ' w' h2
   exact .inr ⟨φ,w',by rw [h1,e1],e2⟩
theorem AC.wroteV {P : Program} {f : FuncId} {fn : Func} {c : Code} {args : List Value} {H H' : Heap} {n : Nat} {v : Value} (hf : P.funcs[f]? = some fn) (hb : fn.body = some c) (he : enterable P f = true) (hlen : Nat.ble args.length fn.ntmps = true) (vs : List Nat) (ha : af v = false) (hv : sc (· < n) v)
   (hw:∀ k b,hget H' k=some b → k < n ∧ (hget H k=some b ∨ ((∃ b0,hget H k=some b0) ∧ scB (fun _=>False) b)))
   (h:E P n none c { fr:=argsFr args 0,sz:=fn.ntmps,H,n,marks:=[],vs } (wroteK P fn H' v)):AC P f args H n v H' n:=by
 obtain ⟨e,st,hA,hen,hm,⟨us,hus,hone⟩,hsub⟩:=h
 have hl:leaveF P fn args n st=some (v,st.H,st.n):=by
   unfold leaveF
   rw [hm]
   simp only [shutA,hus,hone,ha,Bool.false_and]
 refine (bodyAT_ok hf hb he (Nat.le_of_ble_eq_true hlen) hen (ATX.at hA) hl).subV hv fun k b hk=>⟨hsub k b hk,?_⟩
 obtain ⟨h1,h2⟩:=hw k b hk
 rcases h2 with h2 | ⟨h2,h3⟩
 · exact .inl h2
 · exact .inr ⟨h1,h2,h3⟩
theorem plainH_hdel:∀ {H:Heap} {k:Nat},plainH H=true → plainH (hdel H k)=true
 | [],_,_=>rfl
 | (i,b) :: H,k,h=>by
   simp only [plainH,Bool.and_eq_true] at h
   rw [hdel]
   split
   · exact plainH_hdel h.2
   · simp only [plainH,Bool.and_eq_true]
     exact ⟨h.1,plainH_hdel h.2⟩
def outS (o k:Nat):Value:=if k=0 then .slice none 0 0 else .slice (some ⟨o,0,some 0⟩) k 0
@[simp] theorem outS_nil {o:Nat}:outS o 0 = .slice none 0 0:=rfl
theorem outS_ne {o k:Nat} (h:k ≠ 0):outS o k = .slice (some ⟨o,0,some 0⟩) k 0:=if_neg h
def outSB (n t sz k:Nat) (cs:List Value):Heap:=if k=0 then [] else [(n,.ext cs t sz)]
structure GL (L:Heap) (n t sz:Nat) (cs:List Value) (k:Nat) (Hx:Heap) (N o:Nat):Prop where
 len:cs.length=k * sz
 out:k ≠ 0 → hget Hx o=some (.ext cs t sz) ∧ o < N
 sub:Sub L Hx
 nm:namesOk N Hx=true
 big:n ≤ N
 low:n ≤ o
 pl:plainH Hx=true
section
variable {L Hx:Heap} {n t sz k N o:Nat} {cs new:List Value}
theorem GL.start (hs:Sub L Hx) (hn:namesOk N Hx=true) (hb:n ≤ N) (hp:plainH Hx=true):GL L n t sz [] 0 Hx N n:=
 ⟨by simp,fun h=>absurd rfl h,hs,hn,hb,Nat.le_refl _,hp⟩
theorem GL.skip (hL:∀ k b,hget L k=some b → k < n) (h:GL L n t sz cs k Hx N o) (b:Blk) (hp:plainB2 b=true):GL L n t sz cs k ((N,b) :: Hx) (N + 1) o:=by
 have hb:=h.big
 refine ⟨h.len,fun hk=>?_,fun j b' hj=>?_,namesOk_put (by omega) (namesOk_mono (by omega) _ h.nm),by omega,h.low,by rw [plainH,hp,h.pl]; rfl⟩
 · obtain ⟨h1,h2⟩:=h.out hk
   rw [hget_cons,if_neg (by omega)]
   exact ⟨h1,by omega⟩
 · have:=hL j b' hj
   rw [hget_cons,if_neg (by omega)]
   exact h.sub j b' hj
theorem GL.grow (hL:∀ k b,hget L k=some b → k < n) (h:GL L n t sz cs k Hx N o) {cs':List Value} {k':Nat} (hl:cs'.length=k' * sz):GL L n t sz cs' k' ((N,.ext cs' t sz) :: (if k=0 then Hx else hdel Hx o)) (N + 1) N:=by
 have hb:=h.big
 have hlo:=h.low
 have hg:∀ j,j < n → hget (if k=0 then Hx else hdel Hx o) j=hget Hx j:=fun j hj=>by
   split
   · rfl
   · rw [hget_hdel,if_neg (by omega)]
 have hn2:namesOk N (if k=0 then Hx else hdel Hx o)=true:=by
   split
   · exact h.nm
   · exact namesOk_hdel h.nm
 have hp2:plainH (if k=0 then Hx else hdel Hx o)=true:=by
   split
   · exact h.pl
   · exact plainH_hdel h.pl
 refine ⟨hl,fun _=>⟨by rw [hget_cons,if_pos rfl],by omega⟩,fun j b hj=>?_,namesOk_put (by omega) (namesOk_mono (by omega) _ hn2),by omega,by omega,by simp [plainH,hp2]⟩
 have:=hL j b hj
 rw [hget_cons,if_neg (by omega),hg j this]
 exact h.sub j b hj
theorem GL.app {P : Program} {st : TypeId} {i : TypeInfo} (hL : ∀ k b, hget L k = some b → k < n) (hu : P.underlying st = some (.slice t)) (hi : P.info? t = some i) (hsz : i.size = sz) (hz : zeroOk i = true) (hb : i.bytes ≤ 128) (h : GL L n t sz cs k Hx N o) (hk : k < 2147483647) (hnew : new.length = sz) (hs0 : 0 < sz) (hone : oneL new = true) (hpn : plainB2 (.cells new t) = true) :
   ∃ Hz,builtinA P .append #[st,st] ((N,.cells new t) :: Hx) (N + 1) [outS o k,.slice (some ⟨N,0,none⟩) 1 1]=some (outS (N + 1) (k + 1),Hz,N + 1 + 1) ∧ GL L n t sz (cs ++ new) (k + 1) Hz (N + 1 + 1) (N + 1):=by
 have h2:=h.skip hL (.cells new t) hpn
 refine ⟨_,?_,h2.grow hL (by rw [List.length_append,h.len,hnew,Nat.succ_mul])⟩
 have hc:cellsA ((N,.cells new t) :: Hx) N 0 (1 * sz)=some new:=by
   rw [cellsA_eq,hget_cons,if_pos rfl]
   simp only [Option.bind_some,cellsB]
   rw [if_pos (by omega),List.drop_zero,List.take_of_length_le (by omega)]
 have hsm1:smallA i.bytes 1=true:=by
   unfold smallA
   rw [Bool.and_eq_true]
   exact ⟨decide_eq_true (by omega),decide_eq_true (by omega)⟩
 have hsm:smallA i.bytes (k + 1)=true:=by
   unfold smallA
   rw [Bool.and_eq_true]
   refine ⟨decide_eq_true ?_,decide_eq_true ?_⟩
   · have:=Nat.mul_le_mul_left (k + 1) hb
     omega
   · omega
 have h1:¬ 1 * sz=0:=by omega
 show appendA P #[st,st] _ _ _ _=_
 unfold appendA
 have hnb:Nat.beq new.length (1 * sz)=true:=by rw [hnew,Nat.one_mul,Nat.beq_refl]
 rw [outS_ne (Nat.succ_ne_zero k)]
 by_cases hk0:k=0
 · subst hk0
   simp only [outS_nil,List.getElem?_toArray,List.getElem?_cons_zero,List.getElem?_cons_succ,hu,hi,lenX,lenV,srcX,srcA,hsz,if_neg h1,flat_n,if_true,hc,hnb,hone,Bool.and_self]
   unfold appendTo
   have hcs:cs=[]:=List.eq_nil_of_length_eq_zero (by rw [h.len,Nat.zero_mul])
   subst hcs
   simp only [and_self,if_true,Nat.one_ne_zero,if_false,hsm1,hz,Bool.and_self,hsz]
   rfl
 · obtain ⟨ho,_⟩:=h2.out hk0
   have hle:¬ (k + 1) * sz ≤ cs.length:=by rw [h.len,Nat.succ_mul]; omega
   have hle2:k * sz ≤ cs.length:=by rw [h.len]; omega
   have htk:cs.take (k * sz)=cs:=List.take_of_length_le (by rw [h.len]; omega)
   rw [outS_ne hk0]
   simp only [List.getElem?_toArray,List.getElem?_cons_zero,List.getElem?_cons_succ,hu,hi,lenX,lenV,srcX,srcA,hsz,if_neg h1,flat_n,if_true,hc,hnb,hone,Bool.and_self]
   unfold appendTo
   simp only [ho,hsz,hle2,and_self,if_true,if_neg hle,hsm,hz,Bool.and_self,htk,if_neg hk0]
   rfl
theorem sc_outS {o k:Nat} {p:Nat → Prop} (h:p o):sc p (outS o k):=by
 unfold outS
 split
 · trivial
 · exact h
theorem ren_outS {o m k:Nat} {ρ:Nat → Nat} (h:ρ o=m):ren ρ (outS o k)=outS m k:=by
 unfold outS
 split
 · rfl
 · simp [ren,h]
theorem GL.fresh {n0:Nat} (h:GL L n t sz cs k Hx N o) (hn:n0 ≤ n) (haf:afL cs=true) (hren:∀ ρ,renL ρ cs=cs):Fresh n0 (n0 + 1) L (outS n0 k) (outSB n0 t sz k cs) (outS o k) Hx:=by
 have hlo:=h.low
 refine ⟨fun j=>if j=n0 then o else j,fun j hj=>if_neg (by omega),by rw [ren_outS (ρ:=fun j=>if j=n0 then o else j) (m:=o) (by simp)],fun j b hj=>?_,fun j b j' c hj hj' _=>?_,h.sub⟩
 · by_cases hk:k=0
   · rw [outSB,if_pos hk] at hj; cases hj
   · rw [outSB,if_neg hk,hget_cons] at hj
     split at hj
     · rename_i e; subst e; injection hj with hj; subst hj
       refine ⟨Nat.le_refl _,Nat.lt_succ_self _,by simp; omega,?_,scL_af _ _ haf,trivial,rfl⟩
       simp [renB,hren,(h.out hk).1]
     · cases hj
 · by_cases hk:k=0
   · rw [outSB,if_pos hk] at hj; cases hj
   · rw [outSB,if_neg hk,hget_cons] at hj hj'
     split at hj
     · split at hj'
       · omega
       · cases hj'
     · cases hj
end
theorem AC.wider {P:Program} {f:FuncId} {args:List Value} {H:Heap} {n:Nat} {v:Value} (h:AC P f args H n v H n) (hr:v=Ab.ren id v) (hv:sc (· < n + 1) v):AC P f args H n v H (n + 1):=
 AC.given fun hold _ _=>h.ren id (fun _ _=>rfl) (by omega) hr hv (fun _ _ hk=>.inl ⟨hk,hk⟩) fun j b k c hj hk h1 _ _=>absurd (hold j b h1).1 (by omega)
theorem AC.grown {P : Program} {f : FuncId} {fn : Func} {c : Code} {args : List Value} {H : Heap} {n t sz k : Nat} {cs : List Value} (hf : P.funcs[f]? = some fn) (hb : fn.body = some c) (he : enterable P f = true) (hlen : Nat.ble args.length fn.ntmps = true) (vs : List Nat)
   (h:E P n none c { fr:=argsFr args 0,sz:=fn.ntmps,H,n,marks:=[],vs } (outK P fn (Fresh n (n + 1) H (outS n k) (outSB n t sz k cs)))):AC P f args H n (outS n k) (outSB n t sz k cs ++ H) (n + 1):=by
 by_cases hk:k=0
 · subst hk
   have h2:AC P f args H n (.slice none 0 0) H n:=AC.pure hf hb he hlen vs rfl (E.mono h fun e st hh=>by
     obtain ⟨h1,h2,us,h3,ρ,_,h4,_,_,h5⟩:=hh
     exact ⟨h1,h2,⟨us,h3,by rw [h4]; rfl⟩,h5⟩)
   exact h2.wider rfl trivial
 · exact AC.fresh hf hb he hlen vs (by omega) (sc_outS (by omega)) (fun ρ=>by rw [outS_ne hk]; rfl) h
theorem outSB_ge {n t sz k:Nat} {cs:List Value}:∀ x ∈ outSB n t sz k cs,n ≤ x.1:=fun x hx=>by
 unfold outSB at hx
 split at hx
 · cases hx
 · rw [List.mem_singleton] at hx; subst hx; exact Nat.le_refl _
end Go.Ab
namespace Go.Proofs.YtkongcnmkiihjaaGreatDoor
open Go Go.Ab Go.Proofs
theorem ivs_ren (ρ:Nat → Nat):∀ l:List Int,renL ρ (l.map iv)=l.map iv
 | []=>rfl
 | x :: l=>by simp only [List.map_cons,renL,ivs_ren ρ l]; rfl
def livB (ts:List Trc) (t v st:Int) (i:Nat):Bool:=match ts[i]? with
 | some x=>!x.hole && (decide (movV t (offV x.hd) v < (widF ts).1) && decide (movV t (offV x.hd) v ≤ t + st))
 | none=>false
def livL (ts:List Trc) (t v st:Int):Nat → List Int
 | 0=>[]
 | i + 1=>if livB ts t v st i then livL ts t v st i ++ [(i:Int)] else livL ts t v st i
theorem livL_len (ts:List Trc) (t v st:Int):∀ i,(livL ts t v st i).length ≤ i
 | 0=>Nat.le_refl _
 | i + 1=>by
   have ih:=livL_len ts t v st i
   rw [livL]
   split
   · rw [List.length_append,List.length_singleton]; omega
   · omega
theorem livB_at {ts:List Trc} {t v st:Int} {i:Nat} (h:i < ts.length):livB ts t v st i=(!ts[i].hole && (decide (movV t (offV ts[i].hd) v < (widF ts).1) && decide (movV t (offV ts[i].hd) v ≤ t + st))):=by
 unfold livB
 rw [List.getElem?_eq_getElem h]
end Go.Proofs.YtkongcnmkiihjaaGreatDoor
namespace Go.Ab
open Go
theorem Part.viewsN {P : Program} {args : List Value} {H : Heap} {n : Nat} {R : List Value → Heap → Nat → Prop} (vs : List View) (G : Heap) (hG : Seen P H G) {N : Nat} (hN : P.globals.size ≤ N)
   (hv:∀ v ∈ vs,(∃ m,cellsA H v.blk v.off m=some v.cs) ∧ afL v.cs=true)
   (h:∀ φ:Vl,∃ args0,(∀ φ0:Vl,(∀ i v,vs[i]? = some v → φ0.loc (N + i)=φ.loc v.blk) → denL φ0 args0=denL φ args) ∧ scL (· < N + vs.length) args0 ∧ R args0 (viewH N vs G) (N + vs.length)):Part P args H n R:=by
 intro p φ w hB hsc
 obtain ⟨args0,hden,hsc0,hR⟩:=h φ
 let φ0:Vl:=⟨fun k=>if k < N then φ.loc k else match vs[k - N]? with | some v=>φ.loc v.blk | none=>0,fun k=>if k < N then φ.cap k else 0⟩
 have hl:∀ i v,vs[i]? = some v → φ0.loc (N + i)=φ.loc v.blk:=fun i v hi=>by
   simp only [φ0]; rw [if_neg (by omega),Nat.add_sub_cancel_left,hi]
 have hlow:∀ k,k < N → φ0.loc k=φ.loc k:=fun k hk=>by simp only [φ0]; rw [if_pos hk]
 have hcap:∀ k,k < N → φ0.cap k=φ.cap k:=fun k hk=>by simp only [φ0]; rw [if_pos hk]
 have hH0:∀ k b,hget (viewH N vs G) k=some b → (k < N ∧ (k,b) ∈ G) ∨ ∃ v,vs[k - N]? = some v ∧ N ≤ k ∧ b = .inp v.off v.cs:=fun k b hk=>by
   rcases hget_viewH vs G k b (fun x hx=>Nat.lt_of_lt_of_le (hG x hx).1 hN) hk with ⟨h1,h2⟩ | h1
   · exact .inl ⟨h1,hget_mem _ _ _ h2⟩
   · exact .inr h1
 have hown:∀ k b,hget (viewH N vs G) k=some b → b.own=false:=fun k b hk=>by
   rcases hH0 k b hk with ⟨_,h2⟩ | ⟨v,_,_,rfl⟩
   · exact (hG _ h2).2.2.1
   · rfl
 refine ⟨args0,viewH N vs G,N + vs.length,φ0,(· < N + vs.length),⟨⟨fun k b hk=>?_,fun k b k' b' h1 _ _ ho=>(by rw [hown k b h1] at ho; cases ho),fun g hg=>?_⟩,fun _ h=>h,fun g hg=>?_,(by omega),fun k b hk=>?_,fun t v hv=>by simp [lk] at hv,fun t v hv=>by simp [lk] at hv⟩,hsc0,hden φ0 hl,hown,hR⟩
 · rcases hH0 k b hk with ⟨h1,h2⟩ | ⟨v,h1,h2,rfl⟩
   · rw [hlow k h1]
     have hg:=hG _ h2
     exact (hB.rel.blk k b hg.2.1).congr (p:=fun k=>k < N) (k:=k) (fun j hj=>⟨hlow j hj,hcap j hj⟩) h1 (scB_mono (fun _ h=>h.elim) _ hg.2.2.2)
   · have hmem:=List.mem_of_getElem? h1
     obtain ⟨⟨m,hc⟩,haf⟩:=hv v hmem
     have:=hl _ _ h1
     rw [show N + (k - N)=k by omega] at this
     rw [this]
     exact cellsA_block hB.rel hc haf φ0 k
 · rw [hlow g (Nat.lt_of_lt_of_le hg hN)]; exact hB.rel.glob g hg
 · exact Nat.lt_of_lt_of_le hg (Nat.le_trans hN (Nat.le_add_right _ _))
 · rcases hH0 k b hk with ⟨h1,h2⟩ | ⟨v,h1,h2,rfl⟩
   · exact ⟨by omega,scB_mono (fun _ h=>h.elim) _ (hG _ h2).2.2.2⟩
   · have:=(List.getElem?_eq_some_iff.1 h1).1
     exact ⟨by omega,scL_af _ _ (hv v (List.mem_of_getElem? h1)).2⟩
theorem Part.plainN {P:Program} {args:List Value} {H:Heap} {n:Nat} {R:List Value → Heap → Nat → Prop} (haf:afL args=true) (G:Heap) (hG:Seen P H G) {N:Nat} (hN:P.globals.size ≤ N) (h:R args G N):Part P args H n R:=
 Part.viewsN [] G hG hN (by simp) fun φ=>⟨args,fun φ0 _=>by rw [denL_af _ _ haf,denL_af _ _ haf],scL_af _ _ haf,h⟩
theorem Part.oneN {P : Program} {H : Heap} {n : Nat} {R : List Value → Heap → Nat → Prop} (mk : Value → List Value) (hmk : ∀ φ φ0 s s0, den φ0 s0 = den φ s → denL φ0 (mk s0) = denL φ (mk s)) (hms : ∀ (p : Nat → Prop) s, sc p s → scL p (mk s)) {a : Addr} {len cap m : Nat} {cs : List Value}
   (hf:flat a=true) (hc:cellsA H a.block a.off m=some cs) (haf:afL cs=true) (G:Heap) (hG:Seen P H G) {N:Nat} (hN:P.globals.size ≤ N) (h:∀ c,R (mk (.slice (some ⟨N,a.off,none⟩) len c)) ((N,.inp a.off cs) :: G) (N + 1)):Part P (mk (.slice (some a) len cap)) H n R:=
 Part.viewsN [⟨a.block,a.off,cs⟩] G hG hN (fun v hv=>by rw [List.mem_singleton] at hv; subst hv; exact ⟨⟨m,hc⟩,haf⟩) fun φ=>by
   obtain ⟨c',hd⟩:=den_flat φ (ad:=a) (l:=len) (c:=cap) hf
   refine ⟨_,fun φ0 hl=>hmk φ φ0 _ _ ?_,hms _ _ (Nat.lt_succ_self _),h c'⟩
   have:=hl 0 _ rfl
   simp only [Nat.add_zero] at this
   rw [hd]; simp only [den,this]
end Go.Ab
namespace Go.Proofs.YtkongcnmkiihjaaGreatDoor.Gn
open Go Go.Ab Go.Proofs
theorem gszN:Tryz.prog.globals.size ≤ 10:=by rw [gsz]; omega
def whenV (b:Bool) (e:Int):Int:=if b then e else 0
def g114 (args:List Value) (H:Heap) (n:Nat):R:=match args with
 | [.bool b,.int .i64 e]=>some (.int .i64 (whenV b e),H,n)
 | _=>none
def firstV:List Int → Int
 | []=>0
 | e :: l=>if e=0 then firstV l else e
def intsOf:List Value → Option (List Int)
 | []=>some []
 | .int .i64 n :: vs=>(intsOf vs).map (n :: ·)
 | _=>none
theorem intsOf_ok:∀ (cs:List Value) (l:List Int),intsOf cs=some l → cs=l.map iv
 | [],l,h=>by simp [intsOf] at h; subst h; rfl
 | c :: cs,l,h=>by
   unfold intsOf at h
   split at h
   · rename_i h1; cases h1
   · rename_i n vs h1
     injection h1 with h1 h2; subst h1 h2
     rw [Option.map_eq_some_iff] at h
     obtain ⟨l',h2,h3⟩:=h
     subst h3
     rw [intsOf_ok _ _ h2]; rfl
   · cases h
def intsAt (H:Heap) (a:Addr) (len:Nat):Option (List Int):=if flat a && Nat.blt len 2147483648 then (cellsA H a.block a.off len).bind intsOf else none
theorem intsAt_ok {H:Heap} {a:Addr} {len:Nat} {l:List Int} (h:intsAt H a len=some l):flat a=true ∧ cellsA H a.block a.off len=some (l.map iv) ∧ l.length=len ∧ l.length < 2 ^ 31:=by
 unfold intsAt at h
 split at h
 · rename_i hf
   rw [Bool.and_eq_true] at hf
   rw [Option.bind_eq_some_iff] at h
   obtain ⟨cs,h1,h2⟩:=h
   have h3:=intsOf_ok _ _ h2
   subst h3
   have h4:=(cellsA_at h1).1
   rw [List.length_map] at h4
   exact ⟨hf.1,h1,h4,by have:=(blt_iff _ _).1 hf.2; omega⟩
 · cases h
def g113 (args:List Value) (H:Heap) (n:Nat):R:=match args with
 | [.slice (some a) len _]=>(intsAt H a len).map fun l=>(iv (firstV l),H,n)
 | _=>none
theorem w99 (b:Bool) (e:Int):AC Tryz.prog 99 [.bool b,.int .i64 e] [] 10 (.int .i64 (whenV b e)) [] 10:=by
 have hr:=recT_ok (P:=Tryz.prog) (l:=[]) (by simp)
 refine AC.pure Tryz.func99 rfl (by kernel_rfl) rfl [] rfl ?_
 refine E.seq (E.reg hr (by simp; rfl) ?_)
 refine E.seq (E.seq (E.reg hr (by simp; rfl) ?_))
 refine E.cond (by rfl) (fun h=>?_) (fun h=>?_)
 · refine E.seq ?_
   refine E.reg hr (by simp; rfl) ?_
   refine E.ret ?_
   exact pureK.ret rfl rfl (by simp [whenV,h]) (sub_refl _)
 · refine E.skip ?_
   refine E.seq (E.reg hr (by simp; rfl) ?_)
   refine E.ret ?_
   exact pureK.ret rfl rfl (by simp [whenV,h]) (sub_refl _)
theorem ok99:EntOk Tryz.prog (99,g114):=by
 intro args H n v H' n' h
 simp only [g114] at h
 split at h
 · rename_i b e
   injection h with h; injection h with e1 e2; injection e2 with e2 e3; subst e1 e2 e3
   exact AC.liftP rfl (Part.plainN (by simp) [] (by simp [Seen]) gszN ⟨_,_,w99 b e⟩)
 · cases h
end Go.Proofs.YtkongcnmkiihjaaGreatDoor.Gn
namespace Go.Ab
open Go
def sampQ (n:Int):Option Nat:=FloatKind.f32.format.div (FloatKind.f32.nearest n) 1098907648
def sampB (n:Int):Nat:=(sampQ n).getD 0
end Go.Ab
namespace Go.Proofs.YtkongcnmkiihjaaGreatDoor.Gn
open Go Go.Ab Go.Proofs
end Go.Proofs.YtkongcnmkiihjaaGreatDoor.Gn
namespace Go.Ab
open Go
end Go.Ab
namespace Go.Proofs.YtkongcnmkiihjaaGreatDoor.Gn
open Go Go.Ab Go.Proofs
attribute [simp] run_vcall_tmp vcallF target
@[simp] theorem cv98 (n:Int):runP Tryz.prog (convert 3 145 (.int .i64 n))=some (.float .f32 (FloatKind.f32.nearest n)):=by kernel_rfl
@[simp] theorem bin_fneq {P:Program} {t:TypeId} {x y:Operand} {H:Heap} {k:Nat} {a b:Nat}:binV P .neq t x y (.float .f32 a) (.float .f32 b) H k=some (.bool (FloatKind.f32.format.order a b != some .eq),H,k):=rfl
end Go.Proofs.YtkongcnmkiihjaaGreatDoor.Gn
namespace Go.Ab
section
open Go
def EN (P:Program) (n0:Nat) (ro:Option Nat) (c:Code) (st:St) (K:Ex → St → Prop):Prop:=
 ∀ p φ M w0,(∀ g,g < P.globals.size → p g) → (∀ k,p k → k < n0) → (∀ l,ro=some l → p l) → ∀ a w φ1,SRel P (Nx p n0 st.n) φ1 st a w → Step P φ n0 M w0 φ1 st.n (hget st.H) w → c.wpIn (fence φ ro) 0 P (fun e2 a' w'=>∃ e st',K e st' ∧ Post P p φ n0 M w0 e st' e2 a' w') a w
def seqN (P:Program) (n0:Nat) (ro:Option Nat) (b:Code) (K:Ex → St → Prop):Ex → St → Prop
 | .normal,st=>EN P n0 ro b st K
 | e,st=>K e st
section
variable {P:Program} {n0:Nat} {ro:Option Nat} {st:St} {K:Ex → St → Prop}
theorem E.toN {c:Code} (h:E P n0 ro c st K):EN P n0 ro c st K:=fun p φ M w0 hg hp hl a w φ1 hS hs=>by
 obtain ⟨e,st',h,hk⟩:=h
 exact wpIn_mono (h p φ M w0 hg hp hl a w φ1 hS hs) fun _ _ _ hh=>⟨e,st',hk,hh⟩
theorem EN.seq {a b:Code} (h:EN P n0 ro a st (seqN P n0 ro b K)):EN P n0 ro (.seq a b) st K:=fun p φ M w0 hg hp hl a w φ1 hS hs=>
 wpIn_seq (wpIn_mono (h p φ M w0 hg hp hl a w φ1 hS hs) fun e3 a1 w1 hh=>by
   obtain ⟨e,st1,hk,hh⟩:=hh
   have he:=hh.1
   subst he
   cases e with
   | normal=>
     obtain ⟨_,φ2,hS2,hs2⟩:=hh
     exact hk p φ M w0 hg hp hl a1 w1 φ2 hS2 hs2
   | _=>exact ⟨_,st1,hk,hh⟩)
theorem EN.join {c:Code} {e:Ex} (st0:St) (h:EN P n0 ro c st fun e' s'=>e'=e ∧ Leads P n0 s' st0) (k:K e st0):E P n0 ro c st K:=
 ⟨e,st0,fun p φ M w0 hg hp hl a w φ1 hS hs=>wpIn_mono (h p φ M w0 hg hp hl a w φ1 hS hs) fun _ _ _ ⟨e',s',⟨h1,h2⟩,hh⟩=>by
   subst h1
   obtain ⟨he,φ2,hS2,hs2⟩:=hh
   obtain ⟨φ3,hS3,hs3⟩:=h2 p φ M w0 hg hp _ _ φ2 hS2 hs2
   exact ⟨he,φ3,hS3,hs3⟩,k⟩
end
def RunQ (P:Program) (s:Sem Value) (Q:Value → Prop):Prop:=∀ w:World,∃ v d,s.run P w = .ok v { w with drawn:=d } ∧ Q v
inductive OpenOp (P:Program) (fr:Fr):Op → Sem Value → Prop
 | bin {op:BinOp} {t ty:TypeId} {x y:Operand} {u1 u2:Value}:evO P fr x=some u1 → evO P fr y=some u2 → af u1=true → af u2=true → OpenOp P fr (.binOp op t x y ty) (do eqGuard op t x y u1 u2; binOp op t u1 u2)
 | conv {s d:TypeId} {x:Operand} {u:Value}:evO P fr x=some u → af u=true → OpenOp P fr (.convert s d x) (convert s d u)
theorem Step.drawn {P:Program} {φ:Vl} {n:Nat} {M:Mp} {w:World} (h:HRel P φ M w) (d:Nat):Step P φ n M w φ n M { w with drawn:=d }:=
 ⟨Nat.le_refl _,fun _ _=>⟨rfl,rfl⟩,⟨h.blk,h.apart,h.glob⟩,fun k b hb ho=>.inr ⟨k,b,hb,ho,rfl⟩,fun _ _ hb _=>hb,⟨rfl,rfl,rfl,Nat.le_refl _,fun _ _ _=>rfl⟩⟩
section
variable {P:Program} {p:Nat → Prop} {φ:Vl} {n:Nat} {H:Heap} {w:World} {fr:Fr} {a:Act} {o:Oper}
theorem open_run (hB:Base P p φ n (hget H) w fr a) {s:Sem Value} (ho:OpenOp P fr o.op s) {Q:Value → Prop} (hq:RunQ P s Q):∃ v d,(execOp a.eval o).run P w = .ok (.value v) { w with drawn:=d } ∧ Q v:=by
 obtain ⟨v,d,hv,hQ⟩:=hq w
 refine ⟨v,d,?_,hQ⟩
 generalize he:o.op=op at ho
 cases ho with
 | bin h1 h2 h3 h4=>
   have e1:=(hB.evO h1).1
   have e2:=(hB.evO h2).1
   rw [den_af φ _ h3] at e1
   rw [den_af φ _ h4] at e2
   rename_i op t ty x y u1 u2
   have key:(execOp a.eval o).run P w=((do pure (Next.value (← (do eqGuard op t x y u1 u2; binOp op t u1 u2)))):Sem Next).run P w:=by
     simp [execOp,he,e1,e2]
   rw [key,Sem.run_bind,hv]
   rfl
 | conv h1 h3=>
   have e1:=(hB.evO h1).1
   rw [den_af φ _ h3] at e1
   simp [execOp,he,e1,hv]
theorem not_call {P:Program} {fr:Fr} {op:Op} {s:Sem Value} (h:OpenOp P fr op s):∀ c,op ≠ .defer c:=by
 cases h <;> intro c hc <;> cases hc
end
section
variable {P:Program} {r:Rec} {m:Nat}
theorem opsF_pre (hr : RecOk P r m) {ops : Array Oper} (ψ : Vl) (ro : Option Nat) {Q : Exit → Act → World → Prop} : ∀ (i j : Nat) (st : St) (p : Nat → Prop) (φ : Vl) (a : Act) (w : World) (st' : St),
   j + i ≤ ops.size → opsF P r ops ((ops.toList.drop j).take i) st=some st' → SRel P p φ st a w →
   (∀ φ' a' w',SRel P (Nx p st.n st'.n) φ' st' a' w' → Step P φ st.n (hget st.H) w φ' st'.n (hget st'.H) w' → wpOpsIn (fence ψ ro) 0 P ops Q ((List.range ops.size).drop (j + i)) a' w') →
   wpOpsIn (fence ψ ro) 0 P ops Q ((List.range ops.size).drop j) a w
 | 0,j,st,p,φ,a,w,st',_,h,hS,hQ=>by
   rw [List.take_zero,opsF] at h
   injection h with h; subst h
   exact hQ φ a w (hS.mono (fun _ h=>.inl h) (fun k hk=>Nx.lt hS.base.lt (Nat.le_refl _) hk)) (Step.refl hS.base.rel)
 | i + 1,j,st,p,φ,a,w,st',hk,h,hS,hQ=>by
   have hi:j < ops.size:=by omega
   rw [List.drop_eq_getElem_cons (by simpa using hi),List.take_succ_cons] at h
   rw [List.drop_eq_getElem_cons (by simpa using hi),List.getElem_range,wpOpsIn_cons]
   have hget:ops[j]? = some ops[j]:=Array.getElem?_eq_getElem hi
   rw [Array.getElem_toList] at h
   generalize ops[j]=o at h hget
   unfold wpOpIn
   rw [hget]
   simp only
   rw [opsF] at h
   have hadd:j + (i + 1)=j + 1 + i:=by omega
   rw [hadd] at hQ
   split at h
   · rename_i st1 h1
     unfold oneF at h1
     split at h1
     · cases h1
     · rename_i hd
       split at h1
       · cases h1
       · rename_i hw
         injection h1 with h1; subst h1
         rw [wantedA_ok hS.base.ar hw]
         refine ⟨fun f _=>fence_fn _ _ f,opsF_pre hr ψ ro i (j + 1) _ p φ _ w st' (by omega) h (hS.skip hd) hQ⟩
       · rename_i hw
         rw [wantedA_ok hS.base.ar hw]
         simp only [if_true]
         split at h1
         · rename_i v H' n' hrun
           injection h1 with h1; subst h1
           refine runOp_ok hr hS.base hrun ψ ro fun φ1 w1 hd1=>?_
           refine opsF_pre hr ψ ro i (j + 1) _ _ φ1 _ w1 st' (by omega) h (hS.put hd hd1) fun φ2 a2 w2 hS2 hst2=>?_
           exact hQ φ2 a2 w2 (hS2.mono (fun k hk=>Nx.trans hd1.2.2.le hst2.le hk) (fun k hk=>Nx.lt hS.base.lt (Nat.le_trans hd1.2.2.le hst2.le) hk)) (hd1.2.2.trans hst2)
         · cases h1
   · cases h
theorem E.opn {n0 : Nat} {ro : Option Nat} {st st1 st0 : St} {K : Ex → St → Prop} (hr : RecOk P r m) (i : Nat) {id : Nat} {ops : Array Oper} {o : Oper} {s : Sem Value} {Q : Value → Prop}
   (ho:ops.toList[i]? = some o) (hpre:opsF P r ops (ops.toList.take i) st=some st1) (hg:o.guard=none) (hd:dstOk st1.sz o.dst=true) (hop:OpenOp P st1.fr o.op s) (hq:RunQ P s Q) (haf:∀ v,Q v → af v=true)
   (hpost:∀ v,Q v → ∃ st2,opsF P r ops (ops.toList.drop (i + 1)) { st1 with fr:=putA st1.fr o.dst v } = some st2 ∧ Leads P n0 st2 st0) (k:K .normal st0):E P n0 ro (.region id ops false) st K:=by
 refine ⟨.normal,st0,fun p φ M w0 hgl hp hl a w φ1 hS hs=>?_,k⟩
 refine wpIn_region ?_
 have hi:i < ops.size:=by
   have:=(List.getElem?_eq_some_iff.1 ho).1
   simpa using this
 have h0:ops[i]? = some o:=by rw [← Array.getElem?_toList]; exact ho
 have:=opsF_pre hr φ ro (ops:=ops) (Q:=Post P p φ n0 M w0 .normal st0) i 0 st _ φ1 a w st1 (by omega) (by simpa using hpre) hS fun φ2 a2 w2 hS2 hs2=>?_
 · simpa using this
 rw [Nat.zero_add,List.drop_eq_getElem_cons (by simpa using hi),List.getElem_range,wpOpsIn_cons]
 unfold wpOpIn
 rw [h0]
 simp only
 have hw:Region.wanted o (yielded ops a2.tmps)=true:=by simp [Region.wanted,hg]
 rw [hw]
 simp only [if_true]
 refine ⟨fun f _=>fence_fn _ _ f,?_⟩
 rw [Oper.semAt_eq _ _ _ (not_call hop)]
 obtain ⟨v,d,hrun,hv⟩:=open_run hS2.base hop hq
 rw [hrun,Oper.uponIn_value]
 obtain ⟨st2,h2,hL⟩:=hpost v hv
 have hst:=Step.drawn (n:=st1.n) hS2.base.rel d
 have hav:=haf v hv
 have hS3:=hS2.put (o:=o) hd (v:=v) (n':=st1.n) (H':=st1.H) ⟨hS2.base.sm.mono fun _ h=>.inl h,sc_af _ _ hav,hst⟩
 rw [den_af φ2 _ hav] at hS3
 have hfin:=opsF_ok hr φ ro (ops:=ops) (Q:=Post P p φ n0 M w0 .normal st0) (ops.size - (i + 1)) _ _ φ2 _ _ st2 (by omega) (by rw [show ops.size - (ops.size - (i + 1))=i + 1 by omega]; exact h2) hS3 fun φ3 a3 w3 hS4 hs4=>by
   have hs':=(hs.trans hs2).trans (hst.trans hs4)
   have hS5:SRel P (Nx p n0 st2.n) φ3 st2 a3 w3:=hS4.mono (fun k hk=>?_) (fun k hk=>Nx.lt hp hs'.le hk)
   · obtain ⟨φ4,hS6,hs6⟩:=hL p φ M w0 hgl hp a3 w3 φ3 hS5 hs'
     exact ⟨rfl,φ4,hS6,hs6⟩
   · have e1:=hs.le
     have e2:=hs2.le
     have e4:st1.n ≤ st2.n:=hs4.le
     rcases hk with ((hk | hk) | hk) | hk
     · rcases hk with hk | hk
       · exact .inl hk
       · exact .inr ⟨hk.1,by omega⟩
     · exact .inr ⟨by omega,by omega⟩
     · exact .inr ⟨by have:=hk.1; omega,by have:=hk.2; omega⟩
     · have h1:=hk.1
       have h2:=hk.2
       dsimp only at h1 h2
       exact .inr ⟨by omega,by omega⟩
 rw [show ops.size - (ops.size - (i + 1))=i + 1 by omega] at hfin
 exact hfin
end
def nanB (k:FloatKind) (b:Nat):Prop:=match k with
 | .f32=>0x7f800000 < b % 2 ^ 31 ∧ b < 2 ^ 32
 | .f64=>0x7ff0000000000000 < b % 2 ^ 63 ∧ b < 2 ^ 64
theorem cut_nan (k:FloatKind) (x y t:Nat):nanB k ((Question.nanBits k x y).cut t):=by
 cases k
 · show _ < ((t % 2) * 2 ^ 31 + 0x7f800000 + 1 + (t / 2) % (2 ^ 23 - 1)) % 2 ^ 31 ∧ (t % 2) * 2 ^ 31 + 0x7f800000 + 1 + (t / 2) % (2 ^ 23 - 1) < _
   have:=Nat.mod_lt (t / 2) (y:=2 ^ 23 - 1) (by decide)
   generalize (t / 2) % (2 ^ 23 - 1)=c at this
   constructor
   · rw [show (t % 2) * 2 ^ 31 + 0x7f800000 + 1 + c=(0x7f800000 + 1 + c) + 2 ^ 31 * (t % 2) by omega,Nat.add_mul_mod_self_left,Nat.mod_eq_of_lt (by omega)]
     omega
   · omega
 · show _ < ((t % 2) * 2 ^ 63 + 0x7ff0000000000000 + 1 + (t / 2) % (2 ^ 52 - 1)) % 2 ^ 63 ∧ (t % 2) * 2 ^ 63 + 0x7ff0000000000000 + 1 + (t / 2) % (2 ^ 52 - 1) < _
   have:=Nat.mod_lt (t / 2) (y:=2 ^ 52 - 1) (by decide)
   generalize (t / 2) % (2 ^ 52 - 1)=c at this
   constructor
   · rw [show (t % 2) * 2 ^ 63 + 0x7ff0000000000000 + 1 + c=(0x7ff0000000000000 + 1 + c) + 2 ^ 63 * (t % 2) by omega,Nat.add_mul_mod_self_left,Nat.mod_eq_of_lt (by omega)]
     omega
   · omega
theorem cut_conv (k:FloatKind) (x t:Nat):nanB k ((Question.nanConv k x).cut t):=by
 cases k
 · exact cut_nan .f32 x x t
 · exact cut_nan .f64 x x t
theorem read32 (b:Nat):Ieee.single.read b=if b % 2 ^ 31 < 2 ^ 23 then .number (b / 2 ^ 31 % 2 == 1) (b % 2 ^ 31) (-149) else if b % 2 ^ 31 < 0x7f800000 then .number (b / 2 ^ 31 % 2 == 1) (2 ^ 23 + b % 2 ^ 31 % 2 ^ 23) (-149 + (b % 2 ^ 31 / 2 ^ 23 - 1:Nat)) else if b % 2 ^ 31=0x7f800000 then .infinity (b / 2 ^ 31 % 2 == 1) else .nan (b / 2 ^ 31 % 2 == 1) (b % 2 ^ 31 - 0x7f800000):=rfl
theorem read64 (b:Nat):Ieee.double.read b=if b % 2 ^ 63 < 2 ^ 52 then .number (b / 2 ^ 63 % 2 == 1) (b % 2 ^ 63) (-1074) else if b % 2 ^ 63 < 0x7ff0000000000000 then .number (b / 2 ^ 63 % 2 == 1) (2 ^ 52 + b % 2 ^ 63 % 2 ^ 52) (-1074 + (b % 2 ^ 63 / 2 ^ 52 - 1:Nat)) else if b % 2 ^ 63=0x7ff0000000000000 then .infinity (b / 2 ^ 63 % 2 == 1) else .nan (b / 2 ^ 63 % 2 == 1) (b % 2 ^ 63 - 0x7ff0000000000000):=rfl
theorem read_nan {k:FloatKind} {b:Nat} (h:nanB k b):∃ s f,k.format.read b = .nan s f:=by
 cases k
 · obtain ⟨h1,h2⟩:=h
   exact ⟨_,_,by rw [show FloatKind.f32.format=Ieee.single from rfl,read32,if_neg (by omega),if_neg (by omega),if_neg (by omega)]⟩
 · obtain ⟨h1,h2⟩:=h
   exact ⟨_,_,by rw [show FloatKind.f64.format=Ieee.double from rfl,read64,if_neg (by omega),if_neg (by omega),if_neg (by omega)]⟩
end
section
open Go Ieee
theorem cut_exact {way:Toward} {s:Bool} {n D:Nat} (hn:n ≠ 0) (hd:2 ^ D ∣ n):way.cut s n D=n / 2 ^ D:=by
 have hlog:D ≤ n.log2:=by
   have h1:2 ^ D ≤ n:=Nat.le_of_dvd (Nat.pos_of_ne_zero hn) hd
   have h2:=Nat.lt_log2_self (n:=n)
   have h3:2 ^ D < 2 ^ (n.log2 + 1):=Nat.lt_of_le_of_lt h1 h2
   have:=(Nat.pow_lt_pow_iff_right (by decide:1 < 2)).1 h3
   omega
 unfold Toward.cut
 have hmin:min D (n.log2 + 2)=D:=by omega
 have hr:n % 2 ^ D=0:=Nat.mod_eq_zero_of_dvd hd
 have hp:0 < 2 ^ D:=Nat.two_pow_pos _
 simp only [hmin,Nat.one_shiftLeft,hr]
 cases way
 · have h1:¬ 2 ^ D < 0:=by omega
   have h2:¬ 2 ^ D=0:=by omega
   simp
 · simp
 · simp
 · simp
theorem kept_lt {f:Format} {mag:Nat} {place last:Int} (hl:last=max (place + mag.log2 - f.fractionBits) f.leastPlace) (hd:2 ^ (last - place).toNat ∣ mag * 2 ^ (place - last).toNat):mag * 2 ^ (place - last).toNat / 2 ^ (last - place).toNat < 2 * f.binade:=by
 obtain ⟨A,hA⟩:∃ A,(place - last).toNat=A:=⟨_,rfl⟩
 obtain ⟨D,hD⟩:∃ D,(last - place).toNat=D:=⟨_,rfl⟩
 rw [hA,hD] at hd ⊢
 obtain ⟨kept,hk⟩:∃ k,mag * 2 ^ A / 2 ^ D=k:=⟨_,rfl⟩
 have hkD:mag * 2 ^ A=kept * 2 ^ D:=by rw [← hk,Nat.div_mul_cancel hd]
 have hhigh:=Nat.lt_log2_self (n:=mag)
 have hB:f.binade=2 ^ f.fractionBits:=rfl
 rw [hk]
 have h1:kept * 2 ^ D < 2 ^ (mag.log2 + 1 + A):=by
   rw [← hkD,Nat.pow_add]
   exact Nat.mul_lt_mul_of_pos_right hhigh (Nat.two_pow_pos _)
 have h2:2 ^ (mag.log2 + 1 + A) ≤ 2 ^ (f.fractionBits + 1 + D):=Nat.pow_le_pow_right (by decide) (by omega)
 have h3:kept * 2 ^ D < 2 * f.binade * 2 ^ D:=by
   rw [hB,← Nat.pow_succ',← Nat.pow_add]
   exact Nat.lt_of_lt_of_le h1 h2
 exact Nat.lt_of_mul_lt_mul_right h3
theorem write_exact (f : Format) (s : Bool) {mag : Nat} {place last : Int} (hm : mag ≠ 0) (hl : last = max (place + mag.log2 - f.fractionBits) f.leastPlace) (hd : 2 ^ (last - place).toNat ∣ mag * 2 ^ (place - last).toNat)
   (hi:(last - f.leastPlace).toNat * f.binade + mag * 2 ^ (place - last).toNat / 2 ^ (last - place).toNat < f.infRung) :
   f.read (f.nearest s mag place) = .number s (mag * 2 ^ (place - last).toNat / 2 ^ (last - place).toNat) last:=by
 obtain ⟨A,hA⟩:∃ A,(place - last).toNat=A:=⟨_,rfl⟩
 obtain ⟨D,hD⟩:∃ D,(last - place).toNat=D:=⟨_,rfl⟩
 rw [hA,hD] at hd hi ⊢
 have hn:mag * 2 ^ A ≠ 0:=Nat.mul_ne_zero hm (Nat.pos_iff_ne_zero.1 (Nat.two_pow_pos _))
 obtain ⟨kept,hk⟩:∃ k,mag * 2 ^ A / 2 ^ D=k:=⟨_,rfl⟩
 have hkD:mag * 2 ^ A=kept * 2 ^ D:=by rw [← hk,Nat.div_mul_cancel hd]
 have hlow:=Nat.log2_self_le hm
 have hB:f.binade=2 ^ f.fractionBits:=rfl
 have hkb:kept < 2 * f.binade:=by
   have:=kept_lt hl (by rw [hA,hD]; exact hd)
   rwa [hA,hD,hk] at this
 have hkl:f.leastPlace < last → f.binade ≤ kept:=fun h=>by
   have h1:2 ^ (mag.log2 + A) ≤ kept * 2 ^ D:=by
     rw [← hkD,Nat.pow_add]
     exact Nat.mul_le_mul_right _ hlow
   have h2:2 ^ (f.fractionBits + D) ≤ 2 ^ (mag.log2 + A):=Nat.pow_le_pow_right (by decide) (by omega)
   have h3:f.binade * 2 ^ D ≤ kept * 2 ^ D:=by
     rw [hB,← Nat.pow_add]
     exact Nat.le_trans h2 h1
   exact Nat.le_of_mul_le_mul_right h3 (Nat.two_pow_pos _)
 have hnear:f.nearest s mag place=f.word s ((last - f.leastPlace).toNat * f.binade + kept):=by
   unfold Format.nearest
   rw [if_neg hm]
   have h1:Toward.cut Toward.even s (mag <<< (place - last).toNat) (last - place).toNat=kept:=by
     rw [hA,hD,Nat.shiftLeft_eq,cut_exact hn hd,hk]
   simp only [← hl]
   rw [h1,Nat.min_eq_left]
   rw [hk] at hi
   omega
 rw [hnear,hk]
 rw [hk] at hi
 obtain ⟨q,hq⟩:∃ q,(last - f.leastPlace).toNat=q:=⟨_,rfl⟩
 rw [hq] at hi ⊢
 have hinf:=f.infRung_lt
 have hbp:0 < f.binade:=Nat.two_pow_pos _
 obtain ⟨rung,hrung⟩:∃ r,q * f.binade + kept=r:=⟨_,rfl⟩
 rw [hrung] at hi ⊢
 have hsw:f.word s rung / f.signWeight % 2=(if s then 1 else 0) ∧ f.word s rung % f.signWeight=rung:=by
   unfold Format.word
   cases s
   · simp only [Bool.false_eq_true,if_false]
     rw [Nat.div_eq_of_lt (by omega),Nat.mod_eq_of_lt (a:=rung) (by omega)]
     exact ⟨rfl,rfl⟩
   · simp only [if_true]
     have hp:0 < f.signWeight:=by omega
     rw [Nat.add_div_left _ hp,Nat.div_eq_of_lt (by omega),Nat.add_mod_left,Nat.mod_eq_of_lt (a:=rung) (by omega)]
     exact ⟨rfl,rfl⟩
 unfold Format.read
 rw [hsw.1,hsw.2]
 have hneg:((if s=true then 1 else 0) == 1)=s:=by cases s <;> rfl
 simp only [hneg]
 by_cases h0:last=f.leastPlace
 · have hq0:q=0:=by omega
   subst hq0
   have hr:rung=kept:=by omega
   subst hr
   by_cases hb:rung < f.binade
   · rw [if_pos hb,h0]
   · rw [if_neg hb,if_pos hi]
     have h1:rung / f.binade=1:=by
       rw [show rung=f.binade * 1 + (rung - f.binade) by omega,Nat.mul_add_div hbp,Nat.div_eq_of_lt (by omega)]
     have h2:rung % f.binade=rung - f.binade:=by
       rw [Nat.mod_eq_sub_mod (by omega),Nat.mod_eq_of_lt (by omega)]
     rw [h1,h2,h0]
     congr 1 <;> omega
 · have hlt:f.leastPlace < last:=by omega
   have hkl:=hkl hlt
   have hqp:0 < q:=by omega
   have hr:rung=(q + 1) * f.binade + (kept - f.binade):=by rw [Nat.succ_mul]; omega
   have hnb:¬ rung < f.binade:=by
     have:1 * f.binade ≤ q * f.binade:=Nat.mul_le_mul_right _ hqp
     omega
   rw [if_neg hnb,if_pos hi]
   have h1:rung / f.binade=q + 1:=by
     rw [hr,Nat.mul_comm,Nat.mul_add_div hbp,Nat.div_eq_of_lt (by omega)]
   have h2:rung % f.binade=kept - f.binade:=by
     rw [hr,Nat.mul_comm,Nat.mul_add_mod,Nat.mod_eq_of_lt (by omega)]
   rw [h1,h2]
   congr 1 <;> omega
theorem write_zero (f:Format) (s:Bool) (place:Int):f.read (f.nearest s 0 place) = .number s 0 f.leastPlace:=by
 have hinf:=f.infRung_lt
 have hbp:0 < f.binade:=Nat.two_pow_pos _
 unfold Format.nearest
 rw [if_pos rfl]
 have hsw:f.word s 0 / f.signWeight % 2=(if s then 1 else 0) ∧ f.word s 0 % f.signWeight=0:=by
   unfold Format.word
   cases s
   · simp
   · have hp:0 < f.signWeight:=by omega
     simp [Nat.div_self hp]
 unfold Format.read
 rw [hsw.1,hsw.2,if_pos hbp]
 cases s <;> rfl
def mv2 (m:Nat) (e:Int):Nat:=m * 2 ^ (e + 1200).toNat
def sv2 (s:Bool) (m:Nat) (e:Int):Int:=if s then -(mv2 m e:Int) else mv2 m e
theorem write_val (f : Format) (s : Bool) {mag : Nat} {place last : Int} (hp : -1200 ≤ place) (hf : -1200 ≤ f.leastPlace) (hl : last = max (place + mag.log2 - f.fractionBits) f.leastPlace) (hd : 2 ^ (last - place).toNat ∣ mag)
   (hi:mag ≠ 0 → (last - f.leastPlace).toNat * f.binade + mag * 2 ^ (place - last).toNat / 2 ^ (last - place).toNat < f.infRung) :
   ∃ m e,f.read (f.nearest s mag place) = .number s m e ∧ f.leastPlace ≤ e ∧ mv2 m e=mv2 mag place:=by
 by_cases hm:mag=0
 · subst hm
   exact ⟨0,_,write_zero f s place,Int.le_refl _,by simp [mv2]⟩
 · refine ⟨_,_,write_exact f s hm hl (Nat.dvd_trans hd (Nat.dvd_mul_right _ _)) (hi hm),by omega,?_⟩
   unfold mv2
   by_cases h:last ≤ place
   · have h1:(last - place).toNat=0:=by omega
     rw [h1,Nat.pow_zero,Nat.div_one,Nat.mul_assoc,← Nat.pow_add]
     congr 2
     omega
   · have h1:(place - last).toNat=0:=by omega
     rw [h1,Nat.pow_zero,Nat.mul_one]
     rw [show (last + 1200).toNat=(last - place).toNat + (place + 1200).toNat by omega,Nat.pow_add,← Nat.mul_assoc,Nat.div_mul_cancel hd]
theorem signed_val {s:Bool} {m:Nat} {e base:Int} (h1:-1200 ≤ base) (h2:base ≤ e):signed s m (e - base).toNat * 2 ^ (base + 1200).toNat=sv2 s m e:=by
 have h:m <<< (e - base).toNat * 2 ^ (base + 1200).toNat=mv2 m e:=by
   unfold mv2
   rw [Nat.shiftLeft_eq,Nat.mul_assoc,← Nat.pow_add]
   congr 2
   omega
 unfold signed sv2
 cases s
 · simp only [Bool.false_eq_true,if_false]
   rw [← h]
   push_cast
   rfl
 · simp only [if_true]
   rw [← h,Int.neg_mul]
   push_cast
   rfl
theorem compare_mul {a b c:Int} (hc:0 < c):compare (a * c) (b * c)=compare a b:=by
 have h1:(a * c < b * c) ↔ a < b:=⟨fun h=>Int.lt_of_mul_lt_mul_right h (Int.le_of_lt hc),fun h=>Int.mul_lt_mul_of_pos_right h hc⟩
 have h2:(a * c=b * c) ↔ a=b:=⟨fun h=>Int.eq_of_mul_eq_mul_right (by omega) h,fun h=>by rw [h]⟩
 show compareOfLessAndEq _ _=compareOfLessAndEq _ _
 unfold compareOfLessAndEq
 by_cases h:a < b
 · rw [if_pos h,if_pos (h1.2 h)]
 · rw [if_neg h,if_neg (fun x=>h (h1.1 x))]
   by_cases h':a=b
   · rw [if_pos h',if_pos (h2.2 h')]
   · rw [if_neg h',if_neg (fun x=>h' (h2.1 x))]
theorem order_val {s t:Bool} {m n:Nat} {i j:Int} (hi:-1200 ≤ i) (hj:-1200 ≤ j):(Datum.number s m i).order (.number t n j)=some (compare (sv2 s m i) (sv2 t n j)):=by
 show some (compare (signed s m (i - min i j).toNat) (signed t n (j - min i j).toNat))=_
 rw [← signed_val (s:=s) (m:=m) (e:=i) (base:=min i j) (by omega) (by omega),← signed_val (s:=t) (m:=n) (e:=j) (base:=min i j) (by omega) (by omega),compare_mul]
 exact Int.pow_pos (by decide)
def UV:Nat:=2 ^ 1200
theorem UV_pos:0 < UV:=by
 unfold UV
 exact Nat.two_pow_pos 1200
theorem mv2_gen {n N:Nat} {e:Int} (h:e.toNat=N):n * 2 ^ e.toNat=n * 2 ^ N:=by rw [h]
theorem mv2_nat (n:Nat):mv2 n 0=n * UV:=by
 unfold mv2 UV
 exact mv2_gen (N:=1200) rfl
theorem two_gen {N a k:Nat} {e:Int} (h:(e + N).toNat + a=N + k):2 ^ a * 2 ^ (e + N).toNat=2 ^ k * 2 ^ N:=by
 rw [← Nat.pow_add,← Nat.pow_add]
 congr 1
 omega
theorem mv2_two {a k:Nat} {e:Int} (h:(e + (1200:Nat)).toNat + a=1200 + k):mv2 (2 ^ a) e=2 ^ k * UV:=by
 unfold mv2 UV
 exact two_gen (N:=1200) h
theorem write_small {f : Format} (hf : f = single ∨ f = double) (s : Bool) {mag : Nat} {place : Int} (hp : -1200 ≤ place) (hb : mag ≠ 0 → place + mag.log2 ≤ 60) (hd : mag ≠ 0 → 2 ^ (max (place + mag.log2 - f.fractionBits) f.leastPlace - place).toNat ∣ mag) :
   ∃ m e,f.read (f.nearest s mag place) = .number s m e ∧ f.leastPlace ≤ e ∧ mv2 m e=mv2 mag place:=by
 have hleast:-1200 ≤ f.leastPlace ∧ (62 - (f.fractionBits:Int) - f.leastPlace).toNat ≤ 2 ^ f.exponentBits - 1 ∧ f.leastPlace ≤ 60 - f.fractionBits:=by
   rcases hf with rfl | rfl <;> decide
 obtain ⟨h1,h2,h3⟩:=hleast
 by_cases hm:mag=0
 · subst hm
   exact ⟨0,_,write_zero f s place,Int.le_refl _,by simp [mv2]⟩
 refine write_val f s hp h1 rfl (hd hm) fun _=>?_
 have hk:=kept_lt (f:=f) (mag:=mag) (place:=place) rfl (Nat.dvd_trans (hd hm) (Nat.dvd_mul_right _ _))
 have hb:=hb hm
 obtain ⟨last,hl⟩:∃ l,max (place + mag.log2 - f.fractionBits) f.leastPlace=l:=⟨_,rfl⟩
 rw [hl] at hk ⊢
 have hle:(last - f.leastPlace).toNat + 2 ≤ 2 ^ f.exponentBits - 1:=by
   generalize 2 ^ f.exponentBits - 1=q at h2 ⊢
   omega
 unfold Format.infRung
 calc (last - f.leastPlace).toNat * f.binade + mag * 2 ^ (place - last).toNat / 2 ^ (last - place).toNat < (last - f.leastPlace).toNat * f.binade + 2 * f.binade:=by omega
   _=((last - f.leastPlace).toNat + 2) * f.binade:=by rw [Nat.add_mul]
   _ ≤ _:=Nat.mul_le_mul_right _ hle
theorem log2_lt {m k:Nat} (h:m < 2 ^ k) (hm:m ≠ 0):m.log2 < k:=(Nat.log2_lt hm).2 h
theorem log2_mul {m k:Nat} (hm:m ≠ 0):(m * 2 ^ k).log2=m.log2 + k:=by
 have h1:m * 2 ^ k ≠ 0:=Nat.mul_ne_zero hm (Nat.pos_iff_ne_zero.1 (Nat.two_pow_pos _))
 have a:=Nat.log2_self_le hm
 have b:=Nat.lt_log2_self (n:=m)
 refine (Nat.log2_eq_iff h1).2 ⟨?_,?_⟩
 · rw [Nat.pow_add]
   exact Nat.mul_le_mul_right _ a
 · rw [show m.log2 + k + 1=m.log2 + 1 + k by omega,Nat.pow_add]
   exact Nat.mul_lt_mul_of_pos_right b (Nat.two_pow_pos _)
theorem pow_dvd {a b:Nat} (h:a ≤ b) (m:Nat):2 ^ a ∣ m * 2 ^ b:=Nat.dvd_trans (Nat.pow_dvd_pow 2 h) (Nat.dvd_mul_left _ _)
theorem log2_of_mv2 {m:Nat} {e:Int} {k:Nat} (he:-1200 ≤ e) (hm:m ≠ 0) (h:mv2 m e ≤ 2 ^ k * UV):e + m.log2 ≤ k:=by
 unfold mv2 UV at h
 have h1:=Nat.log2_self_le hm
 have h2:2 ^ (m.log2 + (e + 1200).toNat) ≤ 2 ^ (k + 1200):=by
   rw [Nat.pow_add,Nat.pow_add]
   exact Nat.le_trans (Nat.mul_le_mul_right _ h1) h
 have:=(Nat.pow_le_pow_iff_right (by decide:1 < 2)).1 h2
 omega
def val32 (b:Nat):Int:=match single.read b with
 | .number s m e=>sv2 s m e
 | _=>0
def fin32 (b:Nat):Bool:=match single.read b with
 | .number ..=>true
 | _=>false
theorem fin_form {b:Nat} (h:fin32 b=true):∃ s m e,single.read b = .number s m e ∧ m < 2 ^ 24 ∧ -149 ≤ e ∧ val32 b=sv2 s m e:=by
 unfold fin32 at h
 unfold val32
 rw [read32] at h ⊢
 have hm:=Nat.mod_lt (b % 2 ^ 31) (y:=2 ^ 23) (by decide)
 by_cases c1:b % 2 ^ 31 < 2 ^ 23
 · rw [if_pos c1]
   exact ⟨_,_,_,rfl,by omega,by omega,rfl⟩
 rw [if_neg c1] at h ⊢
 by_cases c2:b % 2 ^ 31 < 0x7f800000
 · rw [if_pos c2]
   exact ⟨_,_,_,rfl,by omega,by omega,rfl⟩
 rw [if_neg c2] at h
 by_cases c3:b % 2 ^ 31=0x7f800000
 · rw [if_pos c3] at h
   cases h
 · rw [if_neg c3] at h
   cases h
theorem sv2_16 {s:Bool} {m k:Nat} {e l:Int} (h:mv2 k l=16 * mv2 m e):sv2 s k l=16 * sv2 s m e:=by
 unfold sv2
 rw [h]
 generalize mv2 m e=x
 cases s
 · simp only [Bool.false_eq_true,if_false]
   omega
 · simp only [if_true]
   omega
theorem sv2_abs {s:Bool} {m:Nat} {e:Int}:(sv2 s m e).natAbs=mv2 m e:=by
 unfold sv2
 cases s <;> simp
theorem read16:single.read 1098907648 = .number false 8388608 (-19):=by rw [read32]; decide
theorem prod16 {s:Bool} {m:Nat} {e:Int}:(Datum.number s m e).product (.number false 8388608 (-19))=some (.number s (m * 8388608) (e + -19)):=by
 show some (Datum.number (s ^^ false) (m * 8388608) (e + -19))=_
 rw [Bool.xor_false]
theorem prod16' {s:Bool} {m:Nat} {e:Int}:(Datum.number false 8388608 (-19)).product (.number s m e)=some (.number s (m * 8388608) (e + -19)):=by
 show some (Datum.number (false ^^ s) (8388608 * m) (-19 + e))=_
 rw [Bool.false_xor,Nat.mul_comm,Int.add_comm]
theorem mul16_val {s:Bool} {m:Nat} {e:Int} (h2:m < 2 ^ 24) (h3:-149 ≤ e) (hs:mv2 m e ≤ 2 ^ 10 * UV):∃ k l,single.read (single.nearest s (m * 8388608) (e + -19)) = .number s k l ∧ mv2 k l=16 * mv2 m e:=by
 have h8:(8388608:Nat)=2 ^ 23:=by decide
 obtain ⟨k,l,w1,w2,w3⟩:=write_small (f:=single) (.inl rfl) s (mag:=m * 8388608) (place:=e + -19) (by omega) (fun hm=>by
   have hm0:m ≠ 0:=fun h=>hm (by rw [h,Nat.zero_mul])
   rw [h8,log2_mul hm0]
   have:=log2_of_mv2 (e:=e) (k:=10) (by omega) hm0 hs
   push_cast
   omega) (fun hm=>by
   have hm0:m ≠ 0:=fun h=>hm (by rw [h,Nat.zero_mul])
   rw [h8,log2_mul hm0]
   have:=log2_lt h2 hm0
   refine pow_dvd ?_ m
   have e1:single.fractionBits=23:=rfl
   have e2:single.leastPlace = -149:=rfl
   rw [e1,e2]
   push_cast
   omega)
 refine ⟨k,l,w1,?_⟩
 rw [w3,h8]
 unfold mv2
 rw [Nat.mul_assoc,← Nat.pow_add,show 23 + (e + -19 + 1200).toNat=4 + (e + 1200).toNat by omega,Nat.pow_add,← Nat.mul_assoc,Nat.mul_comm m,Nat.mul_assoc,show (2:Nat) ^ 4=16 by decide]
theorem mul16 {b:Nat} (hf:fin32 b=true) (hs:(val32 b).natAbs ≤ 2 ^ 10 * UV):∃ r,single.mul b 1098907648=some r ∧ single.mul 1098907648 b=some r ∧ fin32 r=true ∧ val32 r=16 * val32 b:=by
 obtain ⟨s,m,e,h1,h2,h3,h4⟩:=fin_form hf
 rw [h4,sv2_abs] at hs
 obtain ⟨k,l,w1,w2⟩:=mul16_val (s:=s) h2 h3 hs
 have hw:single.write (.number s (m * 8388608) (e + -19))=single.nearest s (m * 8388608) (e + -19):=rfl
 obtain ⟨r,hr⟩:∃ r,single.nearest s (m * 8388608) (e + -19)=r:=⟨_,rfl⟩
 rw [hr] at w1 hw
 refine ⟨r,?_,?_,?_,?_⟩
 · unfold Format.mul
   rw [h1,read16,prod16,Option.map_some,hw]
 · unfold Format.mul
   rw [h1,read16,prod16',Option.map_some,hw]
 · unfold fin32
   rw [w1]
 · unfold val32
   rw [w1,h1]
   exact sv2_16 w2
theorem near_val {f:Format} (hf:f=single ∨ f=double) (s:Bool) {n:Nat} (hn:n < 2 ^ 24):∃ m e,f.read (f.nearest s n 0) = .number s m e ∧ f.leastPlace ≤ e ∧ mv2 m e=n * UV:=by
 obtain ⟨m,e,h1,h2,h3⟩:=write_small hf s (mag:=n) (place:=0) (by omega) (fun hm=>by have:=log2_lt hn hm; omega) (fun hm=>by
   have:=log2_lt hn hm
   have e0:(max (0 + (n.log2:Int) - f.fractionBits) f.leastPlace - 0).toNat=0:=by
     have:f.leastPlace ≤ 0 ∧ 23 ≤ f.fractionBits:=by rcases hf with rfl | rfl <;> decide
     omega
   rw [e0]
   exact Nat.one_dvd _)
 exact ⟨m,e,h1,h2,by rw [h3,mv2_nat]⟩
theorem nearest_val {n:Int} (hn:n.natAbs < 2 ^ 24):fin32 (FloatKind.f32.nearest n)=true ∧ val32 (FloatKind.f32.nearest n)=n * UV:=by
 obtain ⟨m,e,h1,h2,h3⟩:=near_val (f:=single) (.inl rfl) (n < 0) hn
 have hr:single.read (FloatKind.f32.nearest n) = .number (decide (n < 0)) m e:=h1
 unfold fin32 val32
 rw [hr]
 refine ⟨rfl,?_⟩
 show sv2 (decide (n < 0)) m e=_
 unfold sv2
 rw [h3]
 by_cases h:n < 0
 · rw [if_pos (by simpa using h)]
   push_cast
   rw [← Int.neg_mul]
   congr 1
   omega
 · rw [if_neg (by simpa using h)]
   push_cast
   congr 1
   omega
theorem cut_zero {s:Bool} {n D:Nat}:Toward.cut .zero s n D=n / 2 ^ D:=by
 unfold Toward.cut
 simp only [Nat.one_shiftLeft,Bool.toNat_false,Nat.add_zero]
 by_cases h:D ≤ n.log2 + 2
 · rw [Nat.min_eq_left h]
 · rw [Nat.min_eq_right (by omega)]
   by_cases hn:n=0
   · subst hn; simp
   have h1:=Nat.lt_log2_self (n:=n)
   have h2:2 ^ (n.log2 + 1) ≤ 2 ^ (n.log2 + 2):=Nat.pow_le_pow_right (by decide) (by omega)
   have h3:2 ^ (n.log2 + 1) ≤ 2 ^ D:=Nat.pow_le_pow_right (by decide) (by omega)
   rw [Nat.div_eq_of_lt (by omega),Nat.div_eq_of_lt (by omega)]
theorem whole_at {k N:Nat} {l:Int} (hl:-(N:Int) ≤ l):k <<< l.toNat / 2 ^ (-l).toNat=k * 2 ^ (l + N).toNat / 2 ^ N:=by
 rw [Nat.shiftLeft_eq]
 by_cases h:0 ≤ l
 · rw [show (-l).toNat=0 by omega,Nat.pow_zero,Nat.div_one,show (l + N).toNat=l.toNat + N by omega,Nat.pow_add,← Nat.mul_assoc,Nat.mul_div_cancel _ (Nat.two_pow_pos _)]
 · rw [show l.toNat=0 by omega,Nat.pow_zero,Nat.mul_one]
   obtain ⟨D,hD⟩:∃ D,(-l).toNat=D:=⟨_,rfl⟩
   obtain ⟨A,hA⟩:∃ A,(l + N).toNat=A:=⟨_,rfl⟩
   rw [hD,hA,show N=D + A by omega,Nat.pow_add,Nat.mul_div_mul_right _ _ (Nat.two_pow_pos _)]
theorem whole_mv {k:Nat} {l:Int} (hl:-1200 ≤ l):k <<< l.toNat / 2 ^ (-l).toNat=mv2 k l / UV:=by
 unfold mv2 UV
 exact whole_at (N:=1200) hl
theorem toInt_val {b:Nat} (hf:fin32 b=true):(single.read b).toInt .zero=some ((val32 b).tdiv UV):=by
 obtain ⟨s,m,e,h1,h2,h3,h4⟩:=fin_form hf
 rw [h1,h4]
 unfold Datum.toInt
 show some (signed s (Toward.cut .zero s (m <<< e.toNat) (-e).toNat) 0)=_
 rw [cut_zero,whole_mv (by omega)]
 unfold signed sv2
 cases s
 · simp only [Bool.false_eq_true,if_false,Nat.shiftLeft_zero]
   rfl
 · simp only [if_true,Nat.shiftLeft_zero]
   rw [Int.neg_tdiv]
   rfl
end
end Go.Ab
