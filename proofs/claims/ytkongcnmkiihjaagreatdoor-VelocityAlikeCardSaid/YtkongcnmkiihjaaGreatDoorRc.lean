/-
Contracts and plain reckonings behind the law VelocityAlike, part 3 of 8 (each under the conditions in its statement).
-/
import Derived.Test.YtkongcnmkiihjaaGreatDoorRb
import Derived.Test.YtkongcnmkiihjaaGreatDoorRa
import Derived.Test.YtkongcnmkiihjaaGreatDoorAf
import Derived.Test.YtkongcnmkiihjaaGreatDoorAg
namespace Go.Ab
open Go
theorem E.toEx {P:Program} {ro:Option Nat} {c:Code} {s:St} {K:Ex → St → Prop} (h:E P s.n ro c s K):∃ e s',AT P ro c s e s' ∧ K e s':=by
 obtain ⟨e,s2,hx,hk⟩:=h
 exact ⟨e,s2,ATX.at hx,hk⟩
def yieldK (l:Nat) (fr:Fr) (sz:Nat) (vs:List Nat) (ps:Array Tmp) (a b:Code) (d:Nat) (K:Bool → Heap → Nat → Prop) (e:Ex) (s2:St):Prop:=
 hget s2.H l=some (.loop .busy none fr sz vs ps a b d) ∧ ((e = .normal ∧ K true (hset s2.H l (.loop .ready none fr sz vs ps a b d)) s2.n) ∨ (e = .ret ∧ K false (hset s2.H l (.loop .done (some .ret) fr sz vs ps a b d)) s2.n))
def assignK (P:Program) (l:Nat) (fr:Fr) (sz:Nat) (vs:List Nat) (ps:Array Tmp) (a b:Code) (d:Nat) (K:Bool → Heap → Nat → Prop) (e:Ex) (s1:St):Prop:=
 e = .normal ∧ hget s1.H l=some (.loop .ready none fr sz vs ps a b d) ∧ E P s1.n (some l) b { s1 with H:=hset s1.H l (.loop .busy none fr sz vs ps a b d) } (yieldK l fr sz vs ps a b d K)
open Classical in
theorem yieldF_ex {P : Program} {l : Nat} {args : List Value} {H : Heap} {n : Nat} {fr : Fr} {sz : Nat} {vs : List Nat} {ps : Array Tmp} {a b : Code} {d : Nat} {K : Bool → Heap → Nat → Prop}
   (h0:hget H l=some (.loop .ready none fr sz vs ps a b d)) (hlen:(Nat.beq args.length ps.size && ps.toList.all (fun t=>Nat.blt t sz))=true) (hla:∀ c,a ≠ .loop c) (hlb:∀ c,b ≠ .loop c)
   (hA:E P n (some l) a { fr:=(ps.toList.zip args).foldl (fun fr (t,v)=>(t,v) :: fr) fr,sz,H,n,marks:=[],vs } (assignK P l fr sz vs ps a b d K)) :
   ∃ q b' H' N',RecOk P q 0 ∧ yieldF q l args H n=some (.bool b',H',N') ∧ K b' H' N':=by
 obtain ⟨e1,s1,hat1,rfl,hl1,hB⟩:=E.toEx (s:={ fr:=(ps.toList.zip args).foldl (fun fr (t,v)=>(t,v) :: fr) fr,sz,H,n,marks:=[],vs }) hA
 obtain ⟨e2,s2,hat2,hl2,hk⟩:=E.toEx (s:={ s1 with H:=hset s1.H l (.loop .busy none fr sz vs ps a b d) }) hB
 have hne:hget (hset s1.H l (.loop .busy none fr sz vs ps a b d)) l ≠ some (.loop .ready none fr sz vs ps a b d):=fun h=>by
   rw [hget_hset,if_pos rfl,hl1] at h
   simp at h
 let q:Rec:=recV P (fun _ _ st=>if hget st.H l=some (.loop .ready none fr sz vs ps a b d) then some (.normal,s1) else some (e2,s2)) (fun _ _ _ _=>none)
 have c1:q.code (some l) a { fr:=(ps.toList.zip args).foldl (fun fr (t,v)=>(t,v) :: fr) fr,sz,H,n,marks:=[],vs } = some (.normal,s1):=recV_code hla (if_pos h0) hat1
 have c2:q.code (some l) b { s1 with H:=hset s1.H l (.loop .busy none fr sz vs ps a b d) } = some (e2,s2):=recV_code hlb (if_neg hne) hat2
 refine ⟨q,?_⟩
 rcases hk with ⟨rfl,hk⟩ | ⟨rfl,hk⟩
 · refine ⟨true,_,_,recV_ok,?_,hk⟩
   unfold yieldF
   rw [h0]
   simp only [hlen,c1,hl1,c2,hl2]
   rfl
 · refine ⟨false,_,_,recV_ok,?_,hk⟩
   unfold yieldF
   rw [h0]
   simp only [hlen,c1,hl1,c2,hl2]
   rfl
open Classical in
theorem E.rangeX {P : Program} {n0 : Nat} {f : Operand} {ps : Array Tmp} {x y : Code} {st : St} {K : Ex → St → Prop} {g : FuncId} {first captured : Array Value} (hf : evO P st.fr f = some (.func (.func g) first captured)) (he : enterable P g = true)
   (hx:∃ v H' k,AC P g (first.toList ++ [.func (.yield (st.n + 1)) #[] #[]] ++ captured.toList) ((st.n + 1,.loop .ready none st.fr st.sz st.vs ps x y st.n) :: (st.n,.defd) :: st.H) (st.n + 2) v H' k ∧
     ((hget H' (st.n + 1)=some (.loop .ready none st.fr st.sz st.vs ps x y st.n) ∧ K .normal { st with H:=hset H' (st.n + 1) (.loop .exhausted none st.fr st.sz st.vs ps x y st.n),n:=k,marks:=st.n :: st.marks }) ∨
      (hget H' (st.n + 1)=some (.loop .done (some .ret) st.fr st.sz st.vs ps x y st.n) ∧ K .ret { st with H:=hset H' (st.n + 1) (.loop .exhausted (some .ret) st.fr st.sz st.vs ps x y st.n),n:=k,marks:=st.n :: st.marks }))):E P n0 none (.rangeFunc f ps x y) st K:=by
 obtain ⟨v,H',k,hAC,hk⟩:=hx
 let r:Rec:=recV P (fun _ c s=>match c with | .ret=>some (.ret,s) | _=>none) (fun _ _ _ _=>some (v,H',k))
 have hr:RecOk P r 0:=recV_ok
 have hc:r.call g (first.toList ++ [.func (.yield (st.n + 1)) #[] #[]] ++ captured.toList) ((st.n + 1,.loop .ready none st.fr st.sz st.vs ps x y st.n) :: (st.n,.defd) :: st.H) (st.n + 2)=some (v,H',k):=recV_call rfl hAC
 rcases hk with ⟨hl,hk⟩ | ⟨hl,hk⟩
 · refine E.range hr (st':={ st with H:=hset H' (st.n + 1) (.loop .exhausted none st.fr st.sz st.vs ps x y st.n),n:=k,marks:=st.n :: st.marks }) (e:=.normal) ?_ hk
   unfold rangeF
   rw [hf]
   simp only [he,hc,hl]
   rfl
 · refine E.range hr (st':={ st with H:=hset H' (st.n + 1) (.loop .exhausted (some .ret) st.fr st.sz st.vs ps x y st.n),n:=k,marks:=st.n :: st.marks }) (e:=.ret) ?_ hk
   have hrt:r.code none .ret { st with H:=hset H' (st.n + 1) (.loop .exhausted (some .ret) st.fr st.sz st.vs ps x y st.n),n:=k,marks:=st.n :: st.marks } = some (.ret,{ st with H:=hset H' (st.n + 1) (.loop .exhausted (some .ret) st.fr st.sz st.vs ps x y st.n),n:=k,marks:=st.n :: st.marks }):=recV_code (by intro b h; cases h) rfl AT.ret
   unfold rangeF
   rw [hf]
   simp only [he,hc,hl]
   exact hrt
def outM (P:Program) (fn:Func) (Q:Value → Heap → Nat → Prop) (e:Ex) (st:St):Prop:=
 (e = .normal ∨ e = .ret) ∧ ∃ H2,shutA st.marks st.H=some H2 ∧ ∃ vs,resultsA P st.fr H2 fn.results.toList=some vs ∧ Q (one vs) H2 st.n
theorem outM.ret {P:Program} {fn:Func} {Q:Value → Heap → Nat → Prop} {st:St} {vs:List Value} (H2:Heap) (hm:shutA st.marks st.H=some H2) (h:resultsA P st.fr H2 fn.results.toList=some vs) (hq:Q (one vs) H2 st.n):outM P fn Q .ret st:=⟨.inr rfl,H2,hm,vs,h,hq⟩
theorem AC.outM {P : Program} {f : FuncId} {fn : Func} {c : Code} {args : List Value} {H : Heap} {n : Nat} {Q : Value → Heap → Nat → Prop} (hf : P.funcs[f]? = some fn) (hb : fn.body = some c) (he : enterable P f = true) (hlen : Nat.ble args.length fn.ntmps = true) (vs : List Nat)
   (h:E P n none c { fr:=argsFr args 0,sz:=fn.ntmps,H,n,marks:=[],vs } (outM P fn Q)):∃ v H1 n1 H2,AC P f args H n v H1 n1 ∧ Q v H2 n1 ∧ (af v=false → H1=H2) ∧ (∀ k b,(∀ k b,hget H k=some b → k < n) → hget H k=some b → hget H2 k=some b → hget H1 k=some b):=by
 obtain ⟨e,st,hA,hen,H2,hsh,us,hus,hq⟩:=h
 have hleave:∃ H1,leaveF P fn args n st=some (one us,H1,st.n) ∧ (af (one us)=false → H1=H2) ∧ (∀ k b,(∀ k b,hget H k=some b → k < n) → hget H k=some b → hget H2 k=some b → hget H1 k=some b):=by
   unfold leaveF
   rw [hsh]
   simp only [hus]
   cases hc:(af (one us) && args.all dropOk) with
   | true=>exact ⟨_,rfl,(fun h=>by rw [h] at hc; cases hc),fun k b hlt hk h2=>by rw [hget_dropNew,if_pos (hlt k b hk)]; exact h2⟩
   | false=>exact ⟨_,rfl,fun _=>rfl,fun _ _ _ _ h2=>h2⟩
 obtain ⟨H1,hl,hs,hs2⟩:=hleave
 exact ⟨_,H1,_,H2,bodyAT_ok hf hb he (Nat.le_of_ble_eq_true hlen) hen (ATX.at hA) hl,hq,hs,hs2⟩
theorem AC.pureM {P : Program} {f : FuncId} {fn : Func} {c : Code} {args : List Value} {H : Heap} {n : Nat} {v : Value} (hf : P.funcs[f]? = some fn) (hb : fn.body = some c) (he : enterable P f = true) (hlen : Nat.ble args.length fn.ntmps = true) (vs : List Nat) (hv : af v = true)
   (h:E P n none c { fr:=argsFr args 0,sz:=fn.ntmps,H,n,marks:=[],vs } (Ab.outM P fn fun u H2 _=>u=v ∧ Sub H H2)):AC P f args H n v H n:=by
 refine AC.assume fun hlt=>?_
 obtain ⟨u,H1,n1,H2,hAC,⟨rfl,hs⟩,_,hh⟩:=AC.outM hf hb he hlen vs h
 exact hAC.tidy hv fun k b hk=>hh k b hlt hk (hs k b hk)
theorem shut_one {H:Heap} {d:Nat} (h:hget H d=some .defd):shutA [d] H=some (hdel H d):=by
 unfold shutA
 rw [h]
 rfl
theorem sub_hdel {L H:Heap} {d:Nat} (hs:Sub L H) (hd:hget L d=none):Sub L (hdel H d):=fun k b hk=>by
 rw [hget_hdel,if_neg fun e=>by subst e; rw [hd] at hk; cases hk]
 exact hs k b hk
theorem sub_hset {L H:Heap} {l:Nat} {x:Blk} (hs:Sub L H) (hl:hget L l=none):Sub L (hset H l x):=fun k b hk=>by
 rw [hget_hset,if_neg fun e=>by subst e; rw [hl] at hk; cases hk]
 exact hs k b hk
def newsL (H:Heap) (n:Nat):List Nat → Heap
 | []=>[]
 | k :: ks=>match hget H k with
   | some b=>if n ≤ k ∧ plainB2 b=true then (k,b) :: newsL H n ks else newsL H n ks
   | none=>newsL H n ks
def news (n:Nat) (H:Heap):Heap:=newsL H n (H.map (·.1))
theorem newsL_mem {H:Heap} {n:Nat}:∀ (ks:List Nat),∀ x ∈ newsL H n ks,n ≤ x.1 ∧ plainB2 x.2=true ∧ hget H x.1=some x.2 ∧ x.1 ∈ ks
 | [],x,h=>by cases h
 | k :: ks,x,h=>by
   unfold newsL at h
   split at h
   · rename_i b hb
     split at h
     · rename_i hc
       rcases List.mem_cons.1 h with rfl | h
       · exact ⟨hc.1,hc.2,hb,List.mem_cons_self ..⟩
       · obtain ⟨h1,h2,h3,h4⟩:=newsL_mem ks x h
         exact ⟨h1,h2,h3,List.mem_cons_of_mem _ h4⟩
     · obtain ⟨h1,h2,h3,h4⟩:=newsL_mem ks x h
       exact ⟨h1,h2,h3,List.mem_cons_of_mem _ h4⟩
   · obtain ⟨h1,h2,h3,h4⟩:=newsL_mem ks x h
     exact ⟨h1,h2,h3,List.mem_cons_of_mem _ h4⟩
theorem newsL_get {H:Heap} {n:Nat}:∀ (ks:List Nat) (k:Nat) (b:Blk),k ∈ ks → hget H k=some b → n ≤ k → plainB2 b=true → hget (newsL H n ks) k=some b
 | j :: ks,k,b,hm,hb,hn,hp=>by
   unfold newsL
   by_cases e:j=k
   · subst e
     rw [hb]
     simp only
     rw [if_pos ⟨hn,hp⟩,hget_cons,if_pos rfl]
   · have hm:k ∈ ks:=by
       rcases List.mem_cons.1 hm with h | h
       · exact absurd h.symm e
       · exact h
     have ih:=newsL_get ks k b hm hb hn hp
     split
     · split
       · rw [hget_cons,if_neg e]; exact ih
       · exact ih
     · exact ih
theorem news_mem {H:Heap} {n:Nat} {x:Nat × Blk} (h:x ∈ news n H):n ≤ x.1 ∧ plainB2 x.2=true ∧ hget H x.1=some x.2:=by
 obtain ⟨h1,h2,h3,_⟩:=newsL_mem _ x h
 exact ⟨h1,h2,h3⟩
theorem news_get {H:Heap} {n k:Nat} {b:Blk} (hb:hget H k=some b) (hn:n ≤ k) (hp:plainB2 b=true):hget (news n H) k=some b:=
 newsL_get _ k b (List.mem_map.2 ⟨(k,b),hget_mem _ _ _ hb,rfl⟩) hb hn hp
theorem hget_app : ∀ (A B : Heap) (k : Nat), hget (A ++ B) k = match hget A k with
   | some b=>some b
   | none=>hget B k
 | [],_,_=>rfl
 | (j,y) :: A,B,k=>by
   rw [List.cons_append,hget_cons,hget_cons]
   split
   · rfl
   · exact hget_app A B k
theorem plainH_mem:∀ {H:Heap},(∀ x ∈ H,plainB2 x.2=true) → plainH H=true
 | [],_=>rfl
 | (k,b) :: H,h=>by
   rw [plainH,h (k,b) (List.mem_cons_self ..),plainH_mem fun x hx=>h x (List.mem_cons_of_mem _ hx)]
   rfl
theorem AC.canon {P:Program} {f:FuncId} {args:List Value} {H Z:Heap} {n N:Nat} {v:Value} (hlt:∀ k b,hget H k=some b → k < n) (h:AC P f args (Ab.tidy n H) n v Z N) (hs:Sub (Ab.tidy n H) Z):AC P f args H n v (news n Z ++ H) N:=by
 refine h.frame (fun k b hk=>(hget_tidy.1 hk).1) fun k b hk=>?_
 rw [hget_app] at hk
 split at hk
 · rename_i b' hb
   injection hk with hk
   subst hk
   exact .inl (news_mem (hget_mem _ _ _ hb)).2.2
 · by_cases hp:plainB2 b=true
   · exact .inl (hs k b (hget_tidy.2 ⟨hk,hlt k b hk,hp⟩))
   · refine .inr ⟨hk,?_⟩
     cases hc:hget (Ab.tidy n H) k with
     | none=>rfl
     | some c=>
       have:=hget_tidy.1 hc
       rw [hk] at this
       obtain ⟨h1,_,h3⟩:=this
       injection h1 with h1
       subst h1
       exact absurd h3 hp
theorem put_in:∀ {cs:List Value} {i:Nat} {v:Value},i < cs.length → cs.take i ++ [v] ++ cs.drop (i + 1)=cs.set i v
 | _ :: _,0,_,_=>rfl
 | c :: cs,i + 1,v,h=>by
   have:=put_in (cs:=cs) (i:=i) (v:=v) (by simpa using h)
   simp only [List.take_succ_cons,List.cons_append,List.drop_succ_cons,List.set_cons_succ,this]
theorem store_extR {H:Heap} {b i:Nat} {t:TypeId} {sz:Nat} {cs:List Value} {v:Value} (h:hget H b=some (.ext cs t sz)) (hi:i < cs.length):storeA H b i [v]=some (hset H b (.ext (cs.set i v) t sz)):=by
 unfold storeA
 rw [h]
 simp only [List.length_cons,List.length_nil,putL]
 rw [if_pos (by omega),put_in hi]
theorem store_all {H:Heap} {b:Nat} {t:TypeId} {cs zs:List Value} (h:hget H b=some (.cells zs t)) (hl:cs.length=zs.length):storeA H b 0 cs=some (hset H b (.cells cs t)):=by
 unfold storeA
 rw [h]
 simp only
 rw [if_pos (by omega)]
 have:putL zs 0 cs=cs:=by
   unfold putL
   rw [List.take_zero,List.nil_append,Nat.zero_add,hl,List.drop_length,List.append_nil]
 rw [this]
end Go.Ab
namespace Go.Proofs.YtkongcnmkiihjaaGreatDoor
open Go Go.Ab Go.Proofs
theorem sz29i:Tryz.t29.size=1:=by kernel_rfl
theorem by29:Tryz.t29.bytes ≤ 128:=by decide +kernel
theorem zo29:zeroOk Tryz.t29=true:=by kernel_rfl
theorem w211 {H:Heap} {n:Nat} {v:Value} {l:List Int} (hv:intV H v=some l):AC Tryz.prog 211 [v] H n (iv (firstV l)) H n:=by
 refine AC.given fun hold hsc hgn=>AC.tidied (B:=[]) (by simp) ?_
 replace hv:=int_tidy hold hv
 have hr:=recT_ok (P:=Tryz.prog) (l:=[]) (by simp)
 obtain ⟨oa,c,rfl,hlt,_,hcl⟩:=intV_form hv
 refine AC.pure Tryz.func211 rfl (by kernel_rfl) rfl [5,6,7] rfl ?_
 refine E.seq (E.reg hr (by simp; rfl) ?_)
 refine E.seq (E.seq (E.reg hr (by simp; rfl) ?_))
 refine E.block (E.loop ?_)
 refine EL.ind (fun i:Nat=>{ fr:=[(5,.slice oa l.length c),(6,iv l.length),(7,iv i)],sz:=15,H:=tidy n H,n:=n,marks:=[],vs:=[5,6,7] }) (fun i=>l.length - i) (fun i=>i ≤ l.length ∧ firstV l=firstV (l.drop i)) 0 (.keep rfl rfl rfl (by simp) (Sub.refl _)) ⟨Nat.zero_le _,rfl⟩ (fun _=>rfl) ?_
 rintro i ⟨hi,hg⟩
 have hw:IntKind.i64.wrap ((i:Int) + 1)=(i:Int) + 1:=W_in (by omega) (by omega)
 refine E.seq (E.reg hr (by simp; rfl) ?_)
 refine E.seq ?_
 by_cases hil:i < l.length
 · obtain ⟨a,rfl,hf,hc⟩:=hcl i hil
   rw [List.drop_eq_getElem_cons hil,firstV] at hg
   obtain ⟨q,hq⟩:∃ q,l[i]=q:=⟨_,rfl⟩
   rw [hq] at hc hg
   refine E.cond (t:=true) (by simp [hil]) (fun _=>?_) (fun h=>by cases h)
   refine E.skip (E.seq ?_)
   refine E.block (E.seq (E.reg hr (by simp [-cellA,-flat,hil,hf,hc]; rfl) ?_))
   refine E.seq (E.reg hr (by simp; rfl) ?_)
   by_cases he:q=0
   · rw [if_pos he] at hg
     refine E.cond (t:=false) (by simp [he]) (fun h=>by cases h) (fun _=>?_)
     refine E.skip (E.reg hr (by simp [hw]; rfl) ?_)
     exact ⟨i + 1,.keep rfl rfl rfl (by simp) (Sub.refl _),⟨hil,hg⟩,by dsimp only; omega⟩
   · rw [if_neg he] at hg
     refine E.cond (t:=true) (by simp [he]) (fun _=>?_) (fun h=>by cases h)
     refine E.seq (E.reg hr (by simp; rfl) ?_)
     refine E.ret ?_
     exact pureK.ret rfl rfl (by simp [hg]) (Sub.refl _)
 · refine E.cond (t:=false) (by simp [hil]) (fun h=>by cases h) (fun _=>?_)
   refine E.exit ?_
   rw [List.drop_of_length_le (by omega)] at hg
   refine E.seq (E.reg hr (by simp; rfl) ?_)
   refine E.ret ?_
   exact pureK.ret rfl rfl (by rw [hg]; rfl) (Sub.refl _)
def g211 (args:List Value) (H:Heap) (n:Nat):R:=match args with
 | [v]=>(intV H v).map fun l=>(iv (firstV l),H,n)
 | _=>none
theorem ok211:EntOk Tryz.prog (211,g211):=by
 intro args H n v H' n' h
 simp only [g211] at h
 split at h
 · rw [Option.map_eq_some_iff] at h
   obtain ⟨l,h1,h2⟩:=h
   injection h2 with e1 e2; injection e2 with e2 e3; subst e1 e2 e3
   exact w211 h1
 · cases h
theorem first_same:∀ l:List Int,Gn.firstV l=firstV l
 | []=>rfl
 | e :: l=>by rw [Gn.firstV,firstV,first_same l]
theorem flat1:∀ l:List Int,(l.flatMap fun x:Int=>[iv x])=l.map iv
 | []=>rfl
 | x :: l=>by rw [List.flatMap_cons,flat1 l]; rfl
theorem intV_outS {N t:Nat} {Z:Heap} {l:List Int} (hlt:l.length < 2147483648):intV (outSB N t 1 l.length (l.map iv) ++ Z) (outS N l.length)=some l:=by
 have:=listV_outS (c:=fun x:Int=>[iv x]) (sz:=1) (t:=t) (dec:=decI) (N:=N) (Z:=Z) (l:=l) (fun _=>rfl) (fun _ _=>rfl) hlt
 rwa [flat1 l] at this
theorem w267 {H:Heap} {n:Nat} {v:Value} {l:List Nat} (hV:reaV H v=some l):AC Tryz.prog 267 [v,.func (.func 268) #[] #[]] H n (outS n l.length) (outSB n 29 1 l.length ((l.map err32).map iv) ++ H) (n + 1):=by
 refine AC.given fun hold hsc hgn=>AC.tidied (fun x hx=>outSB_ge x hx) ?_
 replace hV:reaV (tidy n H) v=some l:=listV_tidy decR_tidy (fun k b h=>(hold k b h).1) hV
 have hr:=recT_ok (P:=Tryz.prog) (l:=[(268,Gn.gFl fun b=>iv (err32 b))]) (by simp [Gn.ok268])
 obtain ⟨oa,c,rfl,hlt,_,hrow⟩:=reaV_form hV
 refine AC.grown Tryz.func267 rfl (by kernel_rfl) rfl [1,5,8,9,10] ?_
 refine E.seq (E.reg hr (by simp; rfl) ?_)
 refine E.seq (E.reg hr (by simp; rfl) ?_)
 refine E.seq (E.seq (E.reg hr (by simp; rfl) ?_))
 refine E.block (E.loop ?_)
 refine EL.ind (fun x:Nat × Heap × Nat × Nat=>{ fr:=[(1,.func (.func 268) #[] #[]),(5,outS x.2.2.2 x.1),(8,.slice oa l.length c),(9,iv l.length),(10,iv x.1)],sz:=22,H:=x.2.1,n:=x.2.2.1,marks:=[],vs:=[1,5,8,9,10] }) (fun x=>l.length - x.1) (fun x=>x.1 ≤ l.length ∧ GL (tidy n H) n 29 1 (((l.take x.1).map err32).map iv) x.1 x.2.1 x.2.2.1 x.2.2.2) (0,tidy n H,n,n) (.keep rfl rfl rfl (by simp) (Sub.refl _)) ⟨Nat.zero_le _,by simpa using GL.start (t:=29) (sz:=1) (Sub.refl (tidy n H)) namesOk_tidy (Nat.le_refl n) (by simp)⟩ (fun _=>rfl) ?_
 rintro ⟨i,Hx,N,o⟩ ⟨hi,hG⟩
 dsimp only at hi hG ⊢
 have hw:IntKind.i64.wrap ((i:Int) + 1)=(i:Int) + 1:=W_in (by omega) (by omega)
 refine E.seq (E.reg hr (by simp; rfl) ?_)
 refine E.seq ?_
 by_cases hil:i < l.length
 · obtain ⟨a,rfl,hf,hc⟩:=hrow i hil
   have htk:l.take (i + 1)=l.take i ++ [l[i]]:=List.take_succ_eq_append_getElem hil
   have hsn:((l.take i).map err32).map iv ++ [iv (err32 l[i])]=((l.take (i + 1)).map err32).map iv:=by rw [htk,List.map_append,List.map_append]; rfl
   obtain ⟨q,hq⟩:∃ q,l[i]=q:=⟨_,rfl⟩
   rw [hq] at hc hsn
   have hfl:∀ H m,Gn.gFl (fun b=>iv (err32 b)) [.float .f32 q] H m=some (iv (err32 q),H,m):=fun _ _=>rfl
   obtain ⟨Hz,happ,hGz⟩:=hG.app (P:=Tryz.prog) (st:=170) (i:=Tryz.t29) (new:=[iv (err32 q)]) tidy_lt Tryz.underlying170 inf29 sz29i zo29 by29 (by omega) rfl (by omega) rfl rfl
   rw [hsn] at hGz
   refine E.cond (t:=true) (by simp [hil]) (fun _=>?_) (fun h=>by cases h)
   refine E.skip (E.seq ?_)
   refine E.block (E.seq (E.reg hr (by simp [-cellA,-flat,hil,hf,hG.sub.cell hc]; rfl) ?_))
   refine E.reg hr (by simp [-builtinA,run_vcall_tmp,vcallF,target,hfl,happ]; rfl) ?_
   refine E.reg hr (by simp [hw]; rfl) ?_
   exact ⟨(i + 1,Hz,N + 1 + 1,N + 1),.keep rfl rfl rfl (by simp) (Sub.refl _),⟨hil,hGz⟩,by dsimp only; omega⟩
 · have hil':i=l.length:=by omega
   subst hil'
   rw [List.take_length] at hG
   refine E.cond (t:=false) (by simp) (fun h=>by cases h) (fun _=>?_)
   refine E.exit ?_
   refine E.seq (E.reg hr (by simp; rfl) ?_)
   refine E.ret ?_
   exact outK.ret rfl rfl (hG.fresh (Nat.le_refl _) (afL_iv _) fun ρ=>ivs_ren ρ _)
def g267 (args:List Value) (H:Heap) (n:Nat):R:=match args with
 | [v,.func (.func 268) a b]=>if a=#[] ∧ b=#[] then (match reaV H v with
   | some l=>some (outS n l.length,outSB n 29 1 l.length ((l.map err32).map iv) ++ H,n + 1)
   | none=>none) else none
 | _=>none
theorem ok267:EntOk Tryz.prog (267,g267):=by
 intro args H n v H' n' h
 simp only [g267] at h
 split at h
 · split at h
   · rename_i hab
     obtain ⟨rfl,rfl⟩:=hab
     split at h
     · rename_i l hl
       injection h with h; injection h with e1 e2; injection e2 with e2 e3; subst e1 e2 e3
       exact w267 hl
     · cases h
   · cases h
 · cases h
theorem w256 {H:Heap} {n:Nat} {v:Value} {l:List Nat} (hV:reaV H v=some l):AC Tryz.prog 256 [v] H n (iv (firstV (l.map err32))) H n:=by
 refine AC.given fun hold hsc hgn=>AC.tidied (B:=[]) (by simp) ?_
 replace hV:reaV (tidy n H) v=some l:=listV_tidy decR_tidy (fun k b h=>(hold k b h).1) hV
 have hr:=recT_ok (P:=Tryz.prog) (l:=[(267,g267),(211,g211)]) (by simp only [List.forall_mem_cons]; exact ⟨ok267,ok211,by simp⟩)
 have hlt:l.length < 2147483648:=by obtain ⟨_,_,_,h,_⟩:=reaV_form hV; exact h
 have h1:∀ m,g267 [v,.func (.func 268) #[] #[]] (tidy n H) m=some (outS m l.length,outSB m 29 1 l.length ((l.map err32).map iv) ++ tidy n H,m + 1):=fun m=>by
   simp only [g267,hV,and_self,if_true]
 have h2:∀ m k,g211 [outS m l.length] (outSB m 29 1 l.length ((l.map err32).map iv) ++ tidy n H) k=some (iv (firstV (l.map err32)),outSB m 29 1 l.length ((l.map err32).map iv) ++ tidy n H,k):=fun m k=>by
   have:=intV_outS (N:=m) (t:=29) (Z:=tidy n H) (l:=l.map err32) (by rw [List.length_map]; exact hlt)
   rw [List.length_map] at this
   simp only [g211,this,Option.map_some]
 refine AC.pure Tryz.func256 rfl (by kernel_rfl) rfl [] rfl ?_
 refine E.seq (E.reg hr (by simp; rfl) ?_)
 refine E.seq (E.reg hr (by simp [-List.map_map,h1,h2]; rfl) ?_)
 refine E.ret ?_
 exact pureK.ret rfl rfl (by simp) (Sub.app (fun x hx=>by have:=outSB_ge x hx; cases hc:hget (tidy n H) x.1 with | none=>rfl | some b=>exact absurd (tidy_lt _ _ hc) (by omega)) (Sub.refl _))
def gRe (F:List Nat → Int) (args:List Value) (H:Heap) (n:Nat):R:=match args with
 | [v]=>(reaV H v).map fun l=>(iv (F l),H,n)
 | _=>none
theorem okRe {f:FuncId} {F:List Nat → Int} (h:∀ H n v l,reaV H v=some l → AC Tryz.prog f [v] H n (iv (F l)) H n):EntOk Tryz.prog (f,gRe F):=by
 intro args H n v H' n' h'
 simp only [gRe] at h'
 split at h'
 · rw [Option.map_eq_some_iff] at h'
   obtain ⟨l,h1,h2⟩:=h'
   injection h2 with e1 e2; injection e2 with e2 e3; subst e1 e2 e3
   exact h _ _ _ _ h1
 · cases h'
theorem ok256:EntOk Tryz.prog (256,gRe fun l=>firstV (l.map err32)):=okRe fun _ _ _ _ h=>w256 h
theorem w238 {H:Heap} {n:Nat} {v:Value} {l:List Nat} (hV:reaV H v=some l):AC Tryz.prog 238 [v] H n (iv (Gn.chkV 1024 l)) H n:=by
 refine AC.given fun hold hsc hgn=>AC.tidied (B:=[]) (by simp) ?_
 replace hV:reaV (tidy n H) v=some l:=listV_tidy decR_tidy (fun k b h=>(hold k b h).1) hV
 have hr:=recT_ok (P:=Tryz.prog) (l:=[(256,gRe fun l=>firstV (l.map err32))]) (by simp [ok256])
 obtain ⟨oa,c,rfl,hlt,_,_⟩:=reaV_form hV
 have h87:∀ k,gRe (fun l=>firstV (l.map err32)) [.slice oa l.length c] (tidy n H) k=some (iv (firstV (l.map err32)),tidy n H,k):=fun k=>by
   simp only [gRe,hV,Option.map_some]
 have hE:Gn.chkV 1024 l=if (1024:Int) < l.length then 5 else firstV (l.map err32):=by rw [← first_same]; rfl
 refine AC.pure Tryz.func238 rfl (by kernel_rfl) rfl [0,2] rfl ?_
 refine E.seq (E.reg hr (by simp; rfl) ?_)
 refine E.seq (E.seq (E.reg hr (by simp; rfl) ?_))
 by_cases hm:1024 < (l.length:Int)
 · rw [if_pos hm] at hE
   refine E.cond (t:=true) (by simp [hm]) (fun _=>?_) (fun h=>by cases h)
   refine E.seq (E.reg hr (by simp; rfl) ?_)
   refine E.ret ?_
   exact pureK.ret rfl rfl (by simp [hE]) (Sub.refl _)
 · rw [if_neg hm] at hE
   refine E.cond (t:=false) (by simp [hm]) (fun h=>by cases h) (fun _=>?_)
   refine E.skip (E.seq (E.reg hr (by simp [h87]; rfl) ?_))
   refine E.ret ?_
   exact pureK.ret rfl rfl (by simp [hE]) (Sub.refl _)
theorem ok238:EntOk Tryz.prog (238,gRe (Gn.chkV 1024)):=okRe fun _ _ _ _ h=>w238 h
theorem w237 (a b c:Int) {H:Heap} {n:Nat}:AC Tryz.prog 237 [iv a,iv b,iv c] H n (iv (withinV a b c)) H n:=by
 refine AC.given fun hold hsc hgn=>AC.tidied (B:=[]) (by simp) ?_
 have hr:=recT_ok (P:=Tryz.prog) (l:=[(212,Gn.g114)]) (by simp [Gn.ok212])
 refine AC.pure Tryz.func237 rfl (by kernel_rfl) rfl [0,2] rfl ?_
 refine E.seq (E.reg hr (by simp; rfl) ?_)
 refine E.seq ?_
 by_cases h:a < b
 case' pos=>
   have hE:withinV a b c=3:=if_pos (.inl h)
   refine E.reg hr (by simp [h,Gn.g114,Gn.whenV]; rfl) ?_
 case' neg=>
   by_cases h2:c < a
   case' pos=>
     have hE:withinV a b c=3:=if_pos (.inr h2)
     refine E.reg hr (by simp [h,h2,Gn.g114,Gn.whenV]; rfl) ?_
   case' neg=>
     have hE:withinV a b c=0:=if_neg (by omega)
     refine E.reg hr (by simp [h,h2,Gn.g114,Gn.whenV]; rfl) ?_
 all_goals
   refine E.ret ?_
   exact pureK.ret rfl rfl (by simp [hE]) (Sub.refl _)
def g237 (args:List Value) (H:Heap) (n:Nat):R:=match args with
 | [.int .i64 a,.int .i64 b,.int .i64 c]=>some (iv (withinV a b c),H,n)
 | _=>none
theorem ok237:EntOk Tryz.prog (237,g237):=by
 intro args H n v H' n' h
 simp only [g237] at h
 split at h
 · injection h with h; injection h with e1 e2; injection e2 with e2 e3; subst e1 e2 e3
   exact w237 _ _ _
 · cases h
end Go.Proofs.YtkongcnmkiihjaaGreatDoor
namespace Go.Ab
open Go
theorem len8 {l:List Int} (h:l.length=8):∃ a b c d e f g i,l=[a,b,c,d,e,f,g,i]:=by
 match l,h with
 | [a,b,c,d,e,f,g,i],_=>exact ⟨a,b,c,d,e,f,g,i,rfl⟩
abbrev tc (x:Trc) (r:Value):List Value:=x.hd.map iv ++ [.bool x.hole,r]
theorem tc_len {x:Trc} {r:Value} (h:x.hd.length=8):(tc x r).length=10:=by
 rw [List.length_append,List.length_map,h]
 rfl
def tcs:List Trc → List Value → List Value
 | x :: xs,r :: rs=>tc x r ++ tcs xs rs
 | _,_=>[]
theorem tcs_len:∀ {ts:List Trc} {rs:List Value},ts.length=rs.length → (∀ x ∈ ts,x.hd.length=8) → (tcs ts rs).length=ts.length * 10
 | [],[],_,_=>rfl
 | x :: ts,r :: rs,h,h8=>by
   rw [tcs,List.length_append,tc_len (h8 x (List.mem_cons_self ..)),tcs_len (by simpa using h) fun y hy=>h8 y (List.mem_cons_of_mem _ hy),List.length_cons]
   omega
 | [],_ :: _,h,_=>by simp at h
 | _ :: _,[],h,_=>by simp at h
theorem tcs_at:∀ {ts:List Trc} {rs:List Value} (i:Nat) {x:Trc} {r:Value},ts[i]? = some x → rs[i]? = some r → (∀ x ∈ ts,x.hd.length=8) → ((tcs ts rs).drop (i * 10)).take 10=tc x r
 | y :: ts,q :: rs,0,x,r,h1,h2,h8=>by
   simp at h1 h2
   subst h1 h2
   rw [tcs,Nat.zero_mul,List.drop_zero,List.take_left' (tc_len (h8 _ (List.mem_cons_self ..)))]
 | y :: ts,q :: rs,i + 1,x,r,h1,h2,h8=>by
   rw [tcs,Nat.succ_mul,Nat.add_comm,← List.drop_drop,List.drop_left' (tc_len (h8 _ (List.mem_cons_self ..)))]
   exact tcs_at i (by simpa using h1) (by simpa using h2) fun y hy=>h8 y (List.mem_cons_of_mem _ hy)
 | [],_,_,_,_,h,_,_=>by simp at h
 | _ :: _,[],_,_,_,_,h,_=>by simp at h
theorem tcs_snoc {x:Trc} {r:Value}:∀ {ts:List Trc} {rs:List Value},ts.length=rs.length → tcs (ts ++ [x]) (rs ++ [r])=tcs ts rs ++ tc x r
 | [],[],_=>by simp [tcs]
 | y :: ts,q :: rs,h=>by
   show tc y q ++ tcs (ts ++ [x]) (rs ++ [r])=tc y q ++ tcs ts rs ++ tc x r
   rw [tcs_snoc (by simpa using h),← List.append_assoc]
 | [],_ :: _,h=>by simp at h
 | _ :: _,[],h=>by simp at h
theorem tcs_smp:∀ {ts us:List Trc} {rs:List Value},ts.length=us.length → (∀ (i:Nat) (x y:Trc),ts[i]? = some x → us[i]? = some y → x.hd=y.hd ∧ x.hole=y.hole) → tcs ts rs=tcs us rs
 | [],[],_,_,_=>rfl
 | x :: ts,y :: us,r :: rs,h,hxy=>by
   obtain ⟨h1,h2⟩:=hxy 0 x y rfl rfl
   rw [tcs,tcs,tcs_smp (by simpa using h) fun i a b ha hb=>hxy (i + 1) a b (by simpa using ha) (by simpa using hb),tc,tc,h1,h2]
 | _ :: _,_ :: _,[],_,_=>rfl
 | [],_ :: _,_,h,_=>by simp at h
 | _ :: _,[],_,h,_=>by simp at h
theorem oneL_ivs:∀ (l:List Int) (q:List Value),oneL (l.map iv ++ q)=oneL q
 | [],_=>rfl
 | _ :: l,q=>oneL_ivs l q
def isS:Value → Bool
 | .slice _ _ _=>true
 | _=>false
theorem oneL_tc {x:Trc} {r:Value} (h:isS r=true):oneL (tc x r)=true:=by
 rw [tc,oneL_ivs]
 cases r <;> first | rfl | cases h
theorem listV_mkN {α:Type} {sz:Nat} {dec:Dec α} {H:Heap} {a:Addr} {cap:Nat} {cs:List Value} {l:List α} (hf:flat a=true) (hcs:cellsA H a.block a.off (l.length * sz)=some cs) (hd:∀ i (h:i < l.length),dec H ((cs.drop (i * sz)).take sz)=some l[i]) (hlt:l.length < 2147483648):listV sz dec H (.slice (some a) l.length cap)=some l:=by
 show (if l.length < 2147483648 then _ else _)=_
 rw [if_pos hlt]
 by_cases h0:l.length=0
 · rw [if_pos h0,List.length_eq_zero_iff.1 h0]
 · rw [if_neg h0,if_pos hf,hcs]
   refine mapO_of (chunks_len _ _ _) fun i x hx=>?_
   by_cases hi:i < l.length
   · rw [chunks_get _ _ _ _ hi] at hx
     injection hx with hx
     rw [← hx,hd i hi,List.getElem?_eq_getElem hi]
   · rw [List.getElem?_eq_none (by rw [chunks_len]; omega)] at hx
     cases hx
def nmO:Value → Option Nat
 | .slice (some a) _ _=>some a.block
 | _=>none
def rowV (tf m:Nat) (mk:Bool) (bs:List Nat):Value × Blk:=if mk then (.slice (some ⟨m,0,none⟩) bs.length bs.length,.cells (bs.map rv) tf) else (.slice (some ⟨m,0,some 0⟩) bs.length 0,.ext (bs.map rv) tf 1)
def RowOk (tf:Nat) (H:Heap) (n N:Nat) (r:Value) (bs:List Nat):Prop:=
 (r = .slice none 0 0 ∧ bs=[]) ∨ ∃ m mk,n ≤ m ∧ m < N ∧ r=(rowV tf m mk bs).1 ∧ hget H m=some (rowV tf m mk bs).2
theorem rowV_nm {tf m:Nat} {mk:Bool} {bs:List Nat}:nmO (rowV tf m mk bs).1=some m:=by
 cases mk <;> rfl
theorem rowV_pl {tf m:Nat} {mk:Bool} {bs:List Nat}:plainB2 (rowV tf m mk bs).2=true:=by
 cases mk <;> rfl
theorem RowOk.isS {tf:Nat} {H:Heap} {n N:Nat} {r:Value} {bs:List Nat} (h:RowOk tf H n N r bs):isS r=true:=by
 rcases h with ⟨rfl,_⟩ | ⟨m,mk,_,_,rfl,_⟩
 · rfl
 · cases mk <;> rfl
theorem rv_dec {H:Heap} {bs:List Nat} (i:Nat) (v:Value) (h:(bs.map rv)[i]? = some v):decR H [v]=bs[i]?:=by
 rw [List.getElem?_map,Option.map_eq_some_iff] at h
 obtain ⟨x,hx,rfl⟩:=h
 rw [hx]
 rfl
theorem RowOk.view {tf:Nat} {H G:Heap} {n N:Nat} {r:Value} {bs:List Nat} (h:RowOk tf H n N r bs) (hG:∀ k b,n ≤ k → plainB2 b=true → hget H k=some b → hget G k=some b) (hl:bs.length < 2147483648):reaV G r=some bs:=by
 rcases h with ⟨rfl,rfl⟩ | ⟨m,mk,h1,_,rfl,h3⟩
 · rfl
 · have:=hG m _ h1 rowV_pl h3
   cases mk with
   | true=>exact listV_mk (cs:=bs.map rv) rfl (by rw [cellsA_eq,this]; simp [rowV,cellsB]; exact List.take_of_length_le (by simp)) (by simp) hl rv_dec
   | false=>exact listV_mk (cs:=bs.map rv) rfl (by rw [cellsA_eq,this]; simp [rowV,cellsB]; exact List.take_of_length_le (by simp)) (by simp) hl rv_dec
theorem RowOk.keep {tf:Nat} {H G:Heap} {n N N':Nat} {r:Value} {bs:List Nat} (h:RowOk tf H n N r bs) (hN:N ≤ N') (hG:∀ m,nmO r=some m → n ≤ m → m < N → hget G m=hget H m):RowOk tf G n N' r bs:=by
 rcases h with ⟨rfl,rfl⟩ | ⟨m,mk,h1,h2,rfl,h3⟩
 · exact .inl ⟨rfl,rfl⟩
 · exact .inr ⟨m,mk,h1,by omega,rfl,by rw [hG m rowV_nm h1 h2]; exact h3⟩
theorem RowOk.lt {tf:Nat} {H:Heap} {n N:Nat} {r:Value} {bs:List Nat} (h:RowOk tf H n N r bs) {m:Nat} (hm:nmO r=some m):n ≤ m ∧ m < N:=by
 rcases h with ⟨rfl,rfl⟩ | ⟨m',mk,h1,h2,rfl,h3⟩
 · cases hm
 · rw [rowV_nm] at hm
   injection hm with hm
   subst hm
   exact ⟨h1,h2⟩
def outrV (F:Bool) (o k:Nat):Value:=if F then outS o k else .slice (some ⟨o,0,none⟩) k k
def outrB (F:Bool) (t:Nat) (cs:List Value):Blk:=if F then .ext cs t 10 else .cells cs t
structure MS (F:Bool) (L:Heap) (n t tb tf kb:Nat) (s:ByteArray) (ts:List Trc) (rs:List Value) (Hx:Heap) (N o:Nat):Prop where
 sub:Sub L Hx
 nm:namesOk N Hx=true
 big:n ≤ N
 len:ts.length=rs.length
 h8:∀ x ∈ ts,x.hd.length=8
 out:ts ≠ [] → hget Hx o=some (outrB F t (tcs ts rs)) ∧ n ≤ o ∧ o < N ∧ o ≠ kb
 box:hget Hx kb=some (.cells [.string s,outrV F o ts.length] tb)
 kbn:n ≤ kb ∧ kb < N
 row:∀ (i:Nat) x r,ts[i]? = some x → rs[i]? = some r → RowOk tf Hx n N r x.smp ∧ nmO r ≠ some kb ∧ (ts ≠ [] → nmO r ≠ some o)
 sep:∀ (i j:Nat) r q,i ≠ j → rs[i]? = some r → rs[j]? = some q → nmO r=none ∨ nmO r ≠ nmO q
section
variable {F:Bool} {L Hx:Heap} {n t tb tf kb N o:Nat} {s:ByteArray} {ts:List Trc} {rs:List Value}
theorem outrB_pl {cs:List Value}:plainB2 (outrB F t cs)=true:=by
 cases F <;> rfl
theorem MS.view (h:MS F L n t tb tf kb s ts rs Hx N o) {G:Heap} (hG:∀ k b,n ≤ k → plainB2 b=true → hget Hx k=some b → hget G k=some b) (hl:ts.length < 2147483648) (hls:∀ x ∈ ts,x.smp.length < 2147483648):trcV G (outrV F o ts.length)=some ts:=by
 by_cases h0:ts=[]
 · subst h0
   cases F <;> rfl
 · obtain ⟨h1,h2,_⟩:=h.out h0
   have hg:=hG o _ h2 outrB_pl h1
   have hlen:=tcs_len h.len h.h8
   have hcs:cellsA G o 0 (ts.length * 10)=some (tcs ts rs):=by
     rw [cellsA_eq,hg]
     cases F <;> simp only [outrB,Option.bind_some,cellsB,if_true,Bool.false_eq_true,if_false] <;> rw [if_pos (by omega),List.drop_zero,List.take_of_length_le (by omega)]
   have hd:∀ i (h:i < ts.length),decT G (((tcs ts rs).drop (i * 10)).take 10)=some ts[i]:=fun i hi=>by
     have hir:i < rs.length:=by rw [← h.len]; exact hi
     rw [tcs_at i (List.getElem?_eq_getElem hi) (List.getElem?_eq_getElem hir) h.h8]
     exact decT_mk (h.h8 _ (List.getElem_mem hi)) ((h.row i _ _ (List.getElem?_eq_getElem hi) (List.getElem?_eq_getElem hir)).1.view hG (hls _ (List.getElem_mem hi)))
   cases F with
   | true=>
     show trcV G (outS o ts.length)=_
     rw [outS_ne fun e=>h0 (List.length_eq_zero_iff.1 e)]
     exact listV_mkN rfl hcs hd hl
   | false=>exact listV_mkN rfl hcs hd hl
theorem MS.skip (hL:∀ k b,hget L k=some b → k < n) (h:MS F L n t tb tf kb s ts rs Hx N o) (b:Blk):MS F L n t tb tf kb s ts rs ((N,b) :: Hx) (N + 1) o:=by
 have hb:=h.big
 have hk:=h.kbn
 refine ⟨fun k b' hk=>?_,namesOk_put (by omega) (namesOk_mono (by omega) _ h.nm),by omega,h.len,h.h8,fun h0=>?_,?_,by omega,fun i x r hx hr=>?_,h.sep⟩
 · have:=hL k b' hk
   rw [hget_cons,if_neg (by omega)]
   exact h.sub k b' hk
 · obtain ⟨h1,h2,h3,h4⟩:=h.out h0
   rw [hget_cons,if_neg (by omega)]
   exact ⟨h1,h2,by omega,h4⟩
 · rw [hget_cons,if_neg (by omega)]
   exact h.box
 · obtain ⟨h1,h2,h3⟩:=h.row i x r hx hr
   exact ⟨h1.keep (by omega) fun m _ _ hm=>by rw [hget_cons,if_neg (by omega)],h2,h3⟩
theorem MS.other (h:MS F L n t tb tf kb s ts rs Hx N o) {Hy:Heap} {N':Nat} (hN:N ≤ N') (hnm:namesOk N' Hy=true) (hs:Sub L Hy) (hg:∀ m,n ≤ m → m < N → (m=o ∨ m=kb ∨ ∃ r ∈ rs,nmO r=some m) → hget Hy m=hget Hx m):MS F L n t tb tf kb s ts rs Hy N' o:=by
 have hb:=h.big
 have hk:=h.kbn
 refine ⟨hs,hnm,by omega,h.len,h.h8,fun h0=>?_,?_,by omega,fun i x r hx hr=>?_,h.sep⟩
 · obtain ⟨h1,h2,h3,h4⟩:=h.out h0
   rw [hg o h2 h3 (.inl rfl)]
   exact ⟨h1,h2,by omega,h4⟩
 · rw [hg kb hk.1 hk.2 (.inr (.inl rfl))]
   exact h.box
 · obtain ⟨h1,h2,h3⟩:=h.row i x r hx hr
   exact ⟨h1.keep hN fun m hm hm1 hm2=>hg m hm1 hm2 (.inr (.inr ⟨r,List.mem_of_getElem? hr,hm⟩)),h2,h3⟩
theorem MS.app {P : Program} {st : TypeId} {i : TypeInfo} (hL : ∀ k b, hget L k = some b → k < n) (hu : P.underlying st = some (.slice t)) (hi : P.info? t = some i) (hsz : i.size = 10) (hz : zeroOk i = true) (hby : i.bytes ≤ 128) (h : MS true L n t tb tf kb s ts rs Hx N o) (hk : ts.length < 2147483647) {x : Trc} {r : Value} (h8 : x.hd.length = 8) (hr : RowOk tf Hx n N r x.smp) (hrk : nmO r ≠ some kb) (hro : ts ≠ [] → nmO r ≠ some o) (hrs : ∀ q ∈ rs, nmO r = none ∨ nmO r ≠ nmO q) :
   ∃ Hy Hz,builtinA P .append #[st,st] ((N,.cells (tc x r) t) :: Hx) (N + 1) [outS o ts.length,.slice (some ⟨N,0,none⟩) 1 1]=some (outS (N + 1) (ts.length + 1),Hy,N + 1 + 1) ∧ storeA Hy kb 1 [outS (N + 1) (ts.length + 1)]=some Hz ∧ MS true L n t tb tf kb s (ts ++ [x]) (rs ++ [r]) Hz (N + 1 + 1) (N + 1):=by
 have h2:=h.skip hL (.cells (tc x r) t)
 have hb:=h.big
 have hkb:=h.kbn
 have hlen:=tcs_len h.len h.h8
 have hnew:=tc_len (x:=x) (r:=r) h8
 obtain ⟨X,hX⟩:∃ X,(N,Blk.cells (tc x r) t) :: Hx=X:=⟨_,rfl⟩
 rw [hX] at h2 ⊢
 have hxN:hget X N=some (.cells (tc x r) t):=by rw [← hX,hget_cons,if_pos rfl]
 have hxo:∀ j,j < N → hget X j=hget Hx j:=fun j hj=>by rw [← hX,hget_cons,if_neg (by omega)]
 have hap:builtinA P .append #[st,st] X (N + 1) [outS o ts.length,.slice (some ⟨N,0,none⟩) 1 1]=some (outS (N + 1) (ts.length + 1),(N + 1,.ext (tcs ts rs ++ tc x r) t 10) :: (if ts=[] then X else hdel X o),N + 1 + 1):=by
   have hc:cellsA X N 0 (1 * 10)=some (tc x r):=by
     rw [cellsA_eq,hxN]
     simp only [Option.bind_some,cellsB]
     rw [if_pos (by omega),List.drop_zero,List.take_of_length_le (by omega)]
   have hsm1:smallA i.bytes 1=true:=by
     unfold smallA
     rw [Bool.and_eq_true]
     exact ⟨decide_eq_true (by omega),decide_eq_true (by omega)⟩
   have hsm:smallA i.bytes (ts.length + 1)=true:=by
     unfold smallA
     rw [Bool.and_eq_true]
     refine ⟨decide_eq_true ?_,decide_eq_true ?_⟩
     · have:=Nat.mul_le_mul_left (ts.length + 1) hby
       omega
     · omega
   show appendA P #[st,st] _ _ _ _=_
   unfold appendA
   have hnb:Nat.beq (tc x r).length (1 * 10)=true:=by rw [hnew,Nat.one_mul,Nat.beq_refl]
   have hone:=oneL_tc (x:=x) hr.isS
   rw [outS_ne (Nat.succ_ne_zero ts.length)]
   by_cases h0:ts=[]
   · subst h0
     simp only [List.length_nil,outS_nil,List.getElem?_toArray,List.getElem?_cons_zero,List.getElem?_cons_succ,hu,hi,lenX,lenV,srcX,srcA,hsz,if_neg (show ¬ 1 * 10=0 by omega),flat_n,if_true,hc,hnb,hone,Bool.and_self]
     unfold appendTo
     have hcs:tcs [] rs=[]:=rfl
     simp only [hcs,and_self,if_true,Nat.one_ne_zero,if_false,hsm1,hz,Bool.and_self,hsz]
     rfl
   · have hk0:¬ ts.length=0:=fun e=>h0 (List.length_eq_zero_iff.1 e)
     obtain ⟨ho,_⟩:=h2.out h0
     have ho:hget X o=some (.ext (tcs ts rs) t 10):=ho
     have hle:¬ (ts.length + 1) * 10 ≤ (tcs ts rs).length:=by omega
     have hle2:ts.length * 10 ≤ (tcs ts rs).length:=by omega
     have htk:(tcs ts rs).take (ts.length * 10)=tcs ts rs:=List.take_of_length_le (by omega)
     rw [outS_ne hk0]
     simp only [List.getElem?_toArray,List.getElem?_cons_zero,List.getElem?_cons_succ,hu,hi,lenX,lenV,srcX,srcA,hsz,if_neg (show ¬ 1 * 10=0 by omega),flat_n,if_true,hc,hnb,hone,Bool.and_self]
     unfold appendTo
     simp only [ho,hsz,hle2,and_self,if_true,if_neg hle,hsm,hz,Bool.and_self,htk,if_neg h0]
     rfl
 obtain ⟨Y,hY⟩:∃ Y,(N + 1,Blk.ext (tcs ts rs ++ tc x r) t 10) :: (if ts=[] then X else hdel X o)=Y:=⟨_,rfl⟩
 rw [hY] at hap
 have hyo:∀ j,j ≤ N → (ts ≠ [] → j ≠ o) → hget Y j=hget X j:=fun j hj hjo=>by
   rw [← hY,hget_cons,if_neg (by omega)]
   split
   · rfl
   · rename_i h0
     rw [hget_hdel,if_neg (hjo h0)]
 have hyN:hget Y (N + 1)=some (.ext (tcs ts rs ++ tc x r) t 10):=by rw [← hY,hget_cons,if_pos rfl]
 have hyk:hget Y kb=some (.cells [.string s,outS o ts.length] tb):=by
   rw [hyo kb (by omega) fun h0 e=>(h.out h0).2.2.2 e.symm]
   exact h2.box
 have hnY:namesOk (N + 1 + 1) Y=true:=by
   rw [← hY]
   refine namesOk_put (Nat.lt_succ_self _) (namesOk_mono (n:=N + 1) (Nat.le_succ _) _ ?_)
   split
   · exact h2.nm
   · exact namesOk_hdel h2.nm
 have hst:=store_at (v:=outS (N + 1) (ts.length + 1)) hyk (i:=1) (Nat.lt_succ_self 1)
 refine ⟨Y,_,hap,hst,?_⟩
 have hz:∀ j,j ≠ kb → hget (hset Y kb (.cells ([Value.string s,outS o ts.length].set 1 (outS (N + 1) (ts.length + 1))) tb)) j=hget Y j:=fun j hj=>by
   rw [hget_hset,if_neg fun e=>hj e.symm]
 obtain ⟨Z,hZ⟩:∃ Z,hset Y kb (.cells ([Value.string s,outS o ts.length].set 1 (outS (N + 1) (ts.length + 1))) tb)=Z:=⟨_,rfl⟩
 rw [hZ] at hz ⊢
 have hzk:hget Z kb=some (.cells [.string s,outS (N + 1) (ts.length + 1)] tb):=by
   rw [← hZ,hget_hset,if_pos rfl,hyk]
   rfl
 refine ⟨fun j b hj=>?_,?_,by omega,by rw [List.length_append,List.length_append,h.len]; rfl,fun y hy=>?_,fun _=>⟨?_,by omega,by omega,by omega⟩,?_,by omega,fun j y q hy hq=>?_,fun j k q q' hjk hq hq'=>?_⟩
 · have:=hL j b hj
   rw [hz j (by omega),hyo j (by omega) fun h0 e=>by have:=(h.out h0).2.1; omega,hxo j (by omega)]
   exact h.sub j b hj
 · rw [← hZ]; exact namesOk_hset hnY
 · rcases List.mem_append.1 hy with hy | hy
   · exact h.h8 y hy
   · rw [List.mem_singleton] at hy; subst hy; exact h8
 · rw [hz (N + 1) (by omega),hyN,tcs_snoc h.len]
   rfl
 · rw [hzk,List.length_append]
   rfl
 · have hst:∀ {q:Value} {bs:List Nat},RowOk tf Hx n N q bs → nmO q ≠ some kb → (ts ≠ [] → nmO q ≠ some o) → RowOk tf Z n (N + 1 + 1) q bs ∧ nmO q ≠ some kb ∧ (ts ++ [x] ≠ [] → nmO q ≠ some (N + 1)):=fun {q bs} h1 h2 h3=>by
     refine ⟨h1.keep (by omega) fun m hm hm1 hm2=>?_,h2,fun _ e=>?_⟩
     · rw [hz m fun e=>h2 (by rw [hm,e]),hyo m (by omega) fun h0 e=>h3 h0 (by rw [hm,e]),hxo m hm2]
     · have:=(h1.lt e).2
       omega
   by_cases hj:j < ts.length
   · rw [List.getElem?_append_left hj] at hy
     rw [List.getElem?_append_left (by rw [← h.len]; exact hj)] at hq
     obtain ⟨h1,h2,h3⟩:=h.row j y q hy hq
     exact hst h1 h2 h3
   · rw [List.getElem?_append_right (by omega)] at hy
     rw [List.getElem?_append_right (by rw [← h.len]; omega)] at hq
     have hj0:j - ts.length=0:=by
       rcases Nat.eq_zero_or_pos (j - ts.length) with e | e
       · exact e
       · rw [List.getElem?_eq_none (by simp; omega)] at hy
         cases hy
     rw [hj0] at hy
     rw [← h.len,hj0] at hq
     simp at hy hq
     subst hy hq
     exact hst hr hrk hro
 · have one:∀ {j:Nat} {q:Value},(rs ++ [r])[j]? = some q → (j < rs.length ∧ rs[j]? = some q) ∨ (j=rs.length ∧ q=r):=fun {j q} hq=>by
     by_cases hj:j < rs.length
     · rw [List.getElem?_append_left hj] at hq
       exact .inl ⟨hj,hq⟩
     · rw [List.getElem?_append_right (by omega)] at hq
       have hj0:j - rs.length=0:=by
         rcases Nat.eq_zero_or_pos (j - rs.length) with e | e
         · exact e
         · rw [List.getElem?_eq_none (by simp; omega)] at hq
           cases hq
       rw [hj0] at hq
       simp at hq
       exact .inr ⟨by omega,hq.symm⟩
   rcases one hq with ⟨h1,h3⟩ | ⟨h1,rfl⟩ <;> rcases one hq' with ⟨h1',h3'⟩ | ⟨h1',rfl⟩
   · exact h.sep j k q q' hjk h3 h3'
   · rcases hrs q (List.mem_of_getElem? h3) with e | e
     · rw [e]
       cases hc:nmO q with
       | none=>exact .inl rfl
       | some m=>exact .inr (by simp)
     · exact .inr fun e'=>e e'.symm
   · exact hrs q' (List.mem_of_getElem? h3')
   · omega
def putT (ts:List Trc) (i t b:Nat):List Trc:=ts.modify i fun x=>⟨x.hd,x.hole,x.smp.set t b⟩
theorem putT_len {i t b:Nat}:(putT ts i t b).length=ts.length:=List.length_modify ..
theorem putT_at {i j t' b:Nat} {x:Trc} (h:ts[j]? = some x):(putT ts i t' b)[j]? = some (if i=j then ⟨x.hd,x.hole,x.smp.set t' b⟩ else x):=by
 unfold putT
 rw [List.getElem?_modify,h]
 split <;> rfl
theorem putT_mem {i t' b:Nat} {y:Trc} (h:y ∈ putT ts i t' b):∃ x ∈ ts,y.hd=x.hd ∧ y.hole=x.hole ∧ y.smp.length=x.smp.length:=by
 obtain ⟨j,hj,rfl⟩:=List.getElem_of_mem h
 rw [putT_len] at hj
 have:=putT_at (i:=i) (t':=t') (b:=b) (List.getElem?_eq_getElem hj)
 rw [List.getElem?_eq_getElem (by rw [putT_len]; exact hj)] at this
 injection this with this
 rw [this]
 refine ⟨ts[j],List.getElem_mem hj,?_⟩
 split
 · exact ⟨rfl,rfl,List.length_set ..⟩
 · exact ⟨rfl,rfl,rfl⟩
theorem MS.put (hL : ∀ k b, hget L k = some b → k < n) (h : MS F L n t tb tf kb s ts rs Hx N o) {i t' b : Nat} {x : Trc} {r : Value} (hx : ts[i]? = some x) (hr : rs[i]? = some r) (ht : t' < x.smp.length) :
   ∃ a c Hz,r = .slice (some a) x.smp.length c ∧ a.off=0 ∧ flat a=true ∧ storeA Hx a.block t' [rv b]=some Hz ∧ MS F L n t tb tf kb s (putT ts i t' b) rs Hz N o:=by
 have hbig:=h.big
 obtain ⟨hrow,hrk,hro⟩:=h.row i x r hx hr
 have hne:ts ≠ []:=fun e=>by rw [e] at hx; cases hx
 rcases hrow with ⟨_,e⟩ | ⟨m,mk,h1,h2,rfl,h3⟩
 · rw [e] at ht; cases ht
 rw [rowV_nm] at hrk hro
 have hro:=hro hne
 have hmk:m ≠ kb:=fun e=>hrk (by rw [e])
 have hmo:m ≠ o:=fun e=>hro (by rw [e])
 have hst:∃ Hz,storeA Hx m t' [rv b]=some Hz ∧ hget Hz m=some (rowV tf m mk (x.smp.set t' b)).2 ∧ (∀ j,j ≠ m → hget Hz j=hget Hx j) ∧ namesOk N Hz=true:=by
   cases mk with
   | true=>
     refine ⟨_,store_at h3 (by rw [List.length_map]; exact ht),?_,fun j hj=>by rw [hget_hset,if_neg fun e=>hj e.symm],namesOk_hset h.nm⟩
     rw [hget_hset,if_pos rfl,h3,← List.map_set]
     rfl
   | false=>
     refine ⟨_,store_extR h3 (by rw [List.length_map]; exact ht),?_,fun j hj=>by rw [hget_hset,if_neg fun e=>hj e.symm],namesOk_hset h.nm⟩
     rw [hget_hset,if_pos rfl,h3,← List.map_set]
     rfl
 obtain ⟨Hz,hz1,hz2,hz3,hz4⟩:=hst
 have hcs:tcs (putT ts i t' b) rs=tcs ts rs:=tcs_smp putT_len fun j y z hy hz=>by
   rw [putT_at hz] at hy
   injection hy with hy
   subst hy
   split <;> exact ⟨rfl,rfl⟩
 have hms:MS F L n t tb tf kb s (putT ts i t' b) rs Hz N o:=by
   refine ⟨fun j c hj=>?_,hz4,h.big,by rw [putT_len]; exact h.len,fun y hy=>?_,fun _=>?_,?_,h.kbn,fun j y q hy hq=>?_,h.sep⟩
   · have:=hL j c hj
     rw [hz3 j (by omega)]
     exact h.sub j c hj
   · obtain ⟨z,hz,e,_⟩:=putT_mem hy
     rw [e]; exact h.h8 z hz
   · obtain ⟨g1,g2,g3,g4⟩:=h.out hne
     rw [hcs,hz3 o fun e=>hmo e.symm]
     exact ⟨g1,g2,g3,g4⟩
   · rw [putT_len,hz3 kb fun e=>hmk e.symm]
     exact h.box
   · have hjl:j < ts.length:=by
       have:=(List.getElem?_eq_some_iff.1 hy).1
       rw [putT_len] at this
       exact this
     rw [putT_at (List.getElem?_eq_getElem hjl)] at hy
     injection hy with hy
     by_cases hij:i=j
     · subst hij
       rw [if_pos rfl] at hy
       rw [List.getElem?_eq_getElem hjl] at hx
       injection hx with hx
       rw [hx] at hy
       rw [hr] at hq
       injection hq with hq
       subst hy hq
       refine ⟨.inr ⟨m,mk,h1,h2,?_,hz2⟩,by rw [rowV_nm]; exact hrk,fun _=>by rw [rowV_nm]; exact hro⟩
       cases mk <;> simp [rowV,List.length_set]
     · rw [if_neg hij] at hy
       subst hy
       obtain ⟨g1,g2,g3⟩:=h.row j _ q (List.getElem?_eq_getElem hjl) hq
       refine ⟨g1.keep (Nat.le_refl _) fun k hk _ _=>hz3 k fun e=>?_,g2,fun _=>g3 hne⟩
       rcases h.sep j i q _ (fun e=>hij e.symm) hq hr with e' | e'
       · rw [e'] at hk; cases hk
       · rw [rowV_nm] at e'
         exact e' (by rw [hk,e])
 cases mk with
 | true=>exact ⟨⟨m,0,none⟩,_,Hz,rfl,rfl,rfl,hz1,hms⟩
 | false=>exact ⟨⟨m,0,some 0⟩,_,Hz,rfl,rfl,rfl,hz1,hms⟩
end
noncomputable def gEx (P:Program) (f:FuncId) (Q:List Value → Heap → Nat → Value → Heap → Nat → Prop) (args:List Value) (H:Heap) (n:Nat):R:=
 open Classical in if h:∃ r:Value × Heap × Nat,AC P f args H n r.1 r.2.1 r.2.2 ∧ Q args H n r.1 r.2.1 r.2.2 then some h.choose else none
theorem gEx_ok {P:Program} {f:FuncId} {Q:List Value → Heap → Nat → Value → Heap → Nat → Prop}:EntOk P (f,gEx P f Q):=by
 intro args H n v H' n' h
 simp only [gEx] at h
 split at h
 · rename_i hx
   injection h with h
   have:=hx.choose_spec.1
   rw [h] at this
   exact this
 · cases h
theorem gEx_at {P:Program} {f:FuncId} {Q:List Value → Heap → Nat → Value → Heap → Nat → Prop} {args:List Value} {H:Heap} {n:Nat} (h:∃ v H' n',AC P f args H n v H' n' ∧ Q args H n v H' n'):∃ v H' n',gEx P f Q args H n=some (v,H',n') ∧ Q args H n v H' n':=by
 obtain ⟨v,H',n',h1,h2⟩:=h
 have hx:∃ r:Value × Heap × Nat,AC P f args H n r.1 r.2.1 r.2.2 ∧ Q args H n r.1 r.2.1 r.2.2:=⟨(v,H',n'),h1,h2⟩
 refine ⟨hx.choose.1,hx.choose.2.1,hx.choose.2.2,?_,hx.choose_spec.2⟩
 unfold gEx
 rw [dif_pos hx]
end Go.Ab
namespace Go.Proofs.YtkongcnmkiihjaaGreatDoor
open Go Go.Ab Go.Proofs
theorem ranges_at {i:Nat} (h:i < 8):rangesV[i * 2]? = some (iv (loH i)) ∧ rangesV[i * 2 + 1]? = some (iv (hiH i)):=by
 match i,h with
 | 0,_=>exact ⟨rfl,rfl⟩
 | 1,_=>exact ⟨rfl,rfl⟩
 | 2,_=>exact ⟨rfl,rfl⟩
 | 3,_=>exact ⟨rfl,rfl⟩
 | 4,_=>exact ⟨rfl,rfl⟩
 | 5,_=>exact ⟨rfl,rfl⟩
 | 6,_=>exact ⟨rfl,rfl⟩
 | 7,_=>exact ⟨rfl,rfl⟩
theorem cell_inp {H:Heap} {k i:Nat} {cs:List Value} (h:hget H k=some (.inp 0 cs)):cellA H k i=cs[i]?:=by
 rw [cellA_eq,h]
 simp [cellB]
theorem ev_g1 (fr:Fr):evO Tryz.prog fr (.global 1)=some (.pointer (some ⟨1,0,none⟩)):=by
 unfold evO
 rw [gsz]
 rfl
set_option maxHeartbeats 1000000 in
set_option maxRecDepth 50000 in
theorem w215 {H:Heap} {n:Nat} {cs:List Value} {t:Trc} (hR:hget H 1=some (.inp 0 rangesV)) (ht:decT H cs=some t):AC Tryz.prog 215 [.agg ⟨cs⟩] H n (iv (trcE t)) H n:=by
 refine AC.given fun hold hsc hgn=>AC.tidied (B:=[]) (by simp) ?_
 replace ht:decT (tidy n H) cs=some t:=decT_tidy _ _ _ _ (fun k b h=>(hold k b h).1) ht
 have h1n:1 < n:=by rw [gsz] at hgn; omega
 have h0n:0 < n:=by omega
 replace hR:hget (tidy n H) 1=some (.inp 0 rangesV):=hget_tidy.2 ⟨hR,h1n,rfl⟩
 have hr:=recT_ok (P:=Tryz.prog) (l:=[(237,g237),(212,Gn.g114),(238,gRe (Gn.chkV 1024)),(211,g211)]) (by simp only [List.forall_mem_cons]; exact ⟨ok237,Gn.ok212,ok238,ok211,by simp⟩)
 obtain ⟨q,rfl,h8,hq⟩:=decT_form ht
 obtain ⟨oq,cq,rfl,hlq,_,_⟩:=reaV_form hq
 obtain ⟨X,hX⟩:∃ X,(n,Blk.cells (t.hd.map iv ++ [.bool t.hole,.slice oq t.smp.length cq]) 159) :: tidy n H=X:=⟨_,rfl⟩
 have hS:Sub (tidy n H) X:=by rw [← hX]; exact Sub.cons (by simp) (Sub.refl _)
 have hnm:namesOk (n + 1) X=true:=by rw [← hX]; exact namesOk_put (by omega) (by simp)
 have htk:=takeNew_frz hnm
 have hnm2:namesOk (n + 1 + 1) X=true:=namesOk_mono (Nat.le_succ _) _ hnm
 have hpl:plainH X=true:=by rw [← hX]; rw [plainH]; simp [plainB2]
 have hRX:=hS _ _ hR
 have hb:hget X n=some (.cells (t.hd.map iv ++ [.bool t.hole,.slice oq t.smp.length cq]) 159):=by rw [← hX,hget_cons,if_pos rfl]
 have hlen:(t.hd.map iv ++ [Value.bool t.hole,.slice oq t.smp.length cq]).length=10:=by rw [List.length_append,List.length_map,h8]; rfl
 have hc8:cellA X n 8=some (.bool t.hole):=by
   rw [cellA_eq,hb]
   show (t.hd.map iv ++ [Value.bool t.hole,.slice oq t.smp.length cq])[8]? = _
   rw [List.getElem?_append_right (by rw [List.length_map]; omega),List.length_map,h8]
   rfl
 have hc9:cellA X n 9=some (.slice oq t.smp.length cq):=by
   rw [cellA_eq,hb]
   show (t.hd.map iv ++ [Value.bool t.hole,.slice oq t.smp.length cq])[9]? = _
   rw [List.getElem?_append_right (by rw [List.length_map]; omega),List.length_map,h8]
   rfl
 have hcs8:cellsA X n 0 8=some (t.hd.map iv):=by
   rw [cellsA_eq,hb]
   simp only [Option.bind_some,cellsB]
   rw [if_pos (by rw [hlen]; omega),List.drop_zero,List.take_append_of_le_length (by rw [List.length_map]; omega),List.take_of_length_le (by rw [List.length_map]; omega)]
 have hld:=load142 hcs8
 have hqX:reaV X (.slice oq t.smp.length cq)=some t.smp:=listV_mono decR_mono hS hq
 have hg2:∀ m,gRe (Gn.chkV 1024) [.slice oq t.smp.length cq] X m=some (iv (Gn.chkV 1024 t.smp),X,m):=fun m=>by
   simp only [gRe,hqX,Option.map_some]
 refine AC.pure Tryz.func215 rfl (by kernel_rfl) rfl [1,7,8] rfl ?_
 refine E.seq (E.reg hr (by simp; rfl) ?_)
 rw [hX]
 refine E.seq (E.seq (E.reg hr (by simp [-loadA,hld]; rfl) ?_))
 refine E.block (E.loop ?_)
 refine EL.ind (fun i:Nat=>{ fr:=[(1,.pointer (some ⟨n,0,none⟩)),(7,.agg ⟨t.hd.map iv⟩),(8,iv i)],sz:=40,H:=X,n:=n + 1,marks:=[],vs:=[1,7,8] }) (fun i=>8 - i) (fun i=>i ≤ 8 ∧ hdE t.hd=hdG t.hd (8 - i)) 0 (.keep rfl rfl rfl (by simp) (Sub.refl _)) ⟨Nat.zero_le _,rfl⟩ (fun _=>rfl) ?_
 rintro i ⟨hi,hg⟩
 have hw:IntKind.i64.wrap ((i:Int) + 1)=(i:Int) + 1:=W_in (by omega) (by omega)
 refine E.seq (E.reg hr (by simp; rfl) ?_)
 refine E.seq ?_
 by_cases hil:i < 8
 · have hi8:(i:Int) < 8:=by omega
   refine E.cond (t:=true) (by simp [hi8]) (fun _=>?_) (fun h=>by cases h)
   rw [hdG_at hil] at hg
   obtain ⟨y,hy⟩:∃ y,t.hd.getD i 0=y:=⟨_,rfl⟩
   have hC:withinV y (loH i) (hiH i)=hdC t.hd i:=by rw [← hy]; rfl
   have hgi:t.hd[i]? = some y:=by
     rw [← hy,List.getD_eq_getElem?_getD,List.getElem?_eq_getElem (by omega)]
     rfl
   obtain ⟨hr1,hr2⟩:=ranges_at hil
   rw [← cell_inp hRX] at hr1 hr2
   refine E.skip (E.seq ?_)
   refine E.block (E.seq (E.reg hr (by simp [partA,hi8,hgi]; rfl) ?_))
   refine E.seq (E.drawU mixed hr [9] [9] [4,8,9] (by kernel_rfl) (by simp [-cellA,-flat,-readA,cellA_read,ev_g1,h0n,hnm,hi8,hr1,hr2,g237,hC]; rfl) ?_)
   refine E.seq (E.reg hr (by simp; rfl) ?_)
   by_cases hz:hdC t.hd i=0
   · rw [if_pos hz] at hg
     refine E.cond (t:=false) (by simp [hz]) (fun h=>by cases h) (fun _=>?_)
     refine E.skip (E.reg hr (by simp [hw]; rfl) ?_)
     exact ⟨i + 1,.keep rfl rfl rfl (by simp) (Sub.refl _),⟨by omega,hg⟩,by dsimp only; omega⟩
   · rw [if_neg hz] at hg
     have hE:trcE t=hdC t.hd i:=by rw [trcE,if_neg (by rw [hg]; exact hz),hg]
     refine E.cond (t:=true) (by simp [hz]) (fun _=>?_) (fun h=>by cases h)
     refine E.seq (E.reg hr (by simp; rfl) ?_)
     refine E.ret ?_
     exact pureK.ret rfl rfl (by rw [hE]; simp) hS
 · have hi8:¬ (i:Int) < 8:=by omega
   refine E.cond (t:=false) (by simp [hi8]) (fun h=>by cases h) (fun _=>?_)
   refine E.exit ?_
   rw [show 8 - i=0 by omega] at hg
   have hg0:hdE t.hd=0:=hg
   have hE:trcE t=if t.hole=true ∧ 0 < t.smp.length then 24 else Gn.chkV 1024 t.smp:=by rw [trcE,if_pos hg0]
   obtain ⟨z,hz⟩:∃ z,Gn.chkV 1024 t.smp=z:=⟨_,rfl⟩
   rw [hz] at hE hg2
   have hI:∀ (N:Nat) (Y:Heap) (a b:Int),intV ((N,.cells [iv a,iv b] 29) :: Y) (.slice (some ⟨N,0,none⟩) 2 2)=some [a,b]:=fun N Y a b=>by
     refine listV_mk (cs:=[iv a,iv b]) (l:=[a,b]) rfl (by rw [cellsA_eq,hget_cons,if_pos rfl]; rfl) rfl (by simp) fun i v hv=>?_
     match i,hv with
     | 0,hv=>simp at hv; subst hv; rfl
     | 1,hv=>simp at hv; subst hv; rfl
   have hz0:(if z=0 then (0:Int) else z)=z:=by split <;> simp_all
   have hS2:∀ b,Sub (tidy n H) ((n + 1,b) :: X):=fun b=>hS.trans (Sub.cons (by rw [← hX,hget_cons,if_neg (by omega)]; simp) (Sub.refl _))
   refine E.seq ?_
   by_cases hh:t.hole=true ∧ 0 < t.smp.length
   case' pos=>
     rw [if_pos hh] at hE
     refine E.drawU mixed hr [11,12,13] [8,11,12,13] [1,4,8,11,12,13] (by kernel_rfl) (by simp [-cellA,-readA,cellA_read,htk,hnm,hnm2,hpl,hc8,hc9,hh.1,hh.2,Gn.g114,Gn.whenV,hg2,g211,hI,firstV]; rfl) ?_
   case' neg=>
     rw [if_neg hh] at hE
     by_cases hho:t.hole=true
     case' pos=>
       have hl0:¬ 0 < t.smp.length:=fun h=>hh ⟨hho,h⟩
       refine E.drawU mixed hr [11,12,13] [8,11,12,13] [1,4,8,11,12,13] (by kernel_rfl) (by simp [-cellA,-readA,cellA_read,htk,hnm,hnm2,hpl,hc8,hc9,hho,hl0,Gn.g114,Gn.whenV,hg2,g211,hI,firstV]; rfl) ?_
     case' neg=>
       have hhf:t.hole=false:=by simpa using hho
       refine E.drawU mixed hr [11,12,13] [8,11,12,13] [1,4,8,11,12,13] (by kernel_rfl) (by simp [-cellA,-readA,cellA_read,htk,hnm,hnm2,hpl,hc8,hc9,hhf,Gn.g114,Gn.whenV,hg2,g211,hI,firstV]; rfl) ?_
   all_goals
     refine E.ret ?_
     exact pureK.ret rfl rfl (by rw [hE]; simp [hz0]) (hS2 _)
def dR (H:Heap):Prop:=hget H 1=some (.inp 0 rangesV)
open Classical in
noncomputable def g215 (args:List Value) (H:Heap) (n:Nat):R:=match args with
 | [.agg a]=>match decT H a.toList with
   | some t=>if dR H then some (iv (trcE t),H,n) else none
   | none=>none
 | _=>none
theorem ok215:EntOk Tryz.prog (215,g215):=by
 intro args H n v H' n' h
 simp only [g215] at h
 split at h
 · split at h
   · rename_i t ht
     split at h
     · rename_i hR
       injection h with h; injection h with e1 e2; injection e2 with e2 e3; subst e1 e2 e3
       exact w215 hR ht
     · cases h
   · cases h
 · cases h
end Go.Proofs.YtkongcnmkiihjaaGreatDoor
namespace Go.Ab
open Go Go.RowKit
theorem AC.bodyX {P : Program} {f : FuncId} {fn : Func} {c : Code} {args : List Value} {H : Heap} {n : Nat} {Q : Value → Heap → Nat → Prop} (hf : P.funcs[f]? = some fn) (hb : fn.body = some c) (he : enterable P f = true) (hlen : Nat.ble args.length fn.ntmps = true) (vs : List Nat)
   (h:E P n none c { fr:=argsFr args 0,sz:=fn.ntmps,H,n,marks:=[],vs } fun e st=>(e = .normal ∨ e = .ret) ∧ ∃ v H' n',leaveF P fn args n st=some (v,H',n') ∧ Q v H' n'):∃ v H' n',AC P f args H n v H' n' ∧ Q v H' n':=by
 obtain ⟨e,st,hA,hen,v,H',n',hl,hq⟩:=h
 exact ⟨v,H',n',bodyAT_ok hf hb he (Nat.le_of_ble_eq_true hlen) hen (ATX.at hA) hl,hq⟩
end Go.Ab
namespace Go.Proofs.YtkongcnmkiihjaaGreatDoor
open Go Go.Ab Go.Proofs
def bodyOf' (f:Func):Code:=match f.body with
 | some c=>c
 | none=>.skip
def rfOf:Code → Option (Code × Code)
 | .rangeFunc _ _ a b=>some (a,b)
 | .seq a b=>match rfOf a with
   | some x=>some x
   | none=>rfOf b
 | .block _ b=>rfOf b
 | .loop b=>rfOf b
 | .cond _ a b=>match rfOf a with
   | some x=>some x
   | none=>rfOf b
 | _=>none
theorem load159 {H:Heap} {k o:Nat} {cs:List Value} (h:cellsA H k o 10=some cs):loadA Tryz.prog 159 H (.pointer (some ⟨k,o,none⟩))=some (.agg ⟨cs⟩):=by
 simp only [loadA,ag159,sz159,h,Option.map_some]
theorem load110 {H:Heap} {n:Nat} {s:ByteArray} {u:Value} (h:hget H n=some (.cells [.string s,u] 110)):loadA Tryz.prog 110 H (.pointer (some ⟨n,0,none⟩))=some (.agg ⟨[.string s,u]⟩):=by
 have:cellsA H n 0 2=some [.string s,u]:=by rw [cellsA_eq,h]; rfl
 simp only [loadA,ag110,sz110,this,Option.map_some]
theorem w216 {H:Heap} {n:Nat} {s:ByteArray} {u:Value}:AC Tryz.prog 216 [.agg ⟨[.string s,u]⟩] H n (.func (.func 239) #[] #[.pointer (some ⟨n,0,none⟩)]) ((n,.cells [.string s,u] 110) :: H) (n + 1):=by
 have hr:=recT_ok (P:=Tryz.prog) (l:=[]) (by simp)
 refine AC.body Tryz.func216 rfl (by kernel_rfl) rfl [] ?_
 refine E.seq (E.reg hr (by simp; rfl) ?_)
 refine E.seq (E.reg hr (by simp [opMakefunc]; rfl) ?_)
 refine E.ret ?_
 exact ⟨.inr rfl,by simp [leaveF,shutA,resultsA,resultA,Tryz.results216,dropOk]⟩
def g216 (args:List Value) (H:Heap) (n:Nat):R:=match args with
 | [.agg ⟨[.string s,u]⟩]=>some (.func (.func 239) #[] #[.pointer (some ⟨n,0,none⟩)],(n,.cells [.string s,u] 110) :: H,n + 1)
 | _=>none
theorem ok216:EntOk Tryz.prog (216,g216):=by
 intro args H n v H' n' h
 simp only [g216] at h
 split at h
 · injection h with h; injection h with e1 e2; injection e2 with e2 e3; subst e1 e2 e3
   exact w216
 · cases h
theorem ent239:enterable Tryz.prog 239=true:=by kernel_rfl
abbrev fnY (l:Nat):Value:=.func (.yield l) #[] #[]
set_option maxHeartbeats 1600000 in
set_option maxRecDepth 100000 in
theorem it239 {B : Heap} {l kb : Nat} {s : ByteArray} {oa : Option Addr} {c : Nat} {ts : List Trc} (hbox : hget B kb = some (.cells [.string s, .slice oa ts.length c] 110)) (ht : trcV B (.slice oa ts.length c) = some ts)
   (I:Nat → Heap → Nat → Prop) (D:Heap → Nat → Prop) (hI:∀ i H N,I i H N → Sub B H) (_hN:∀ i H N,I i H N → ∀ k b,hget H k=some b → k < N)
   (hskip:∀ i H N cs (h:i < ts.length),I i H N → ts[i].hole=true → I (i + 1) ((N,.cells cs 159) :: H) (N + 1))
   (hy:∀ i H N cs (h:i < ts.length),I i H N → ts[i].hole=false → cs.length=10 → decT B cs=some ts[i] → ∃ q b H' N',RecOk Tryz.prog q 0 ∧ yieldF q l [iv i,.agg ⟨cs⟩] ((N,.cells cs 159) :: H) (N + 1)=some (.bool b,H',N') ∧ (if b=true then I (i + 1) H' N' else D H' N'))
   {H:Heap} {n:Nat} (h0:I 0 H n):∃ v H' n',AC Tryz.prog 239 [fnY l,.pointer (some ⟨kb,0,none⟩)] H n v H' n' ∧ (I ts.length H' n' ∨ D H' n'):=by
 have hr:=recT_ok (P:=Tryz.prog) (l:=[]) (by simp)
 obtain ⟨_,_,e,hlt,_,hrow⟩:=trcV_form ht
 injection e with e1 e2 e3
 subst e1 e3
 have hk1:cellA H kb 1=some (.slice oa ts.length c):=by rw [cellA_eq,hI _ _ _ h0 _ _ hbox]; rfl
 have hl1:loadA Tryz.prog 108 H (.pointer (some ⟨kb,1,none⟩))=some (.slice oa ts.length c):=by simp [-cellA,hk1]
 refine AC.bodyX (Q:=fun _ H' n'=>I ts.length H' n' ∨ D H' n') Tryz.func239 rfl (by kernel_rfl) rfl [0,6,7,8] ?_
 refine E.seq (E.reg hr (by simp [-loadA,hl1]; rfl) ?_)
 refine E.block (E.loop ?_)
 refine EL.ind (fun x:Nat × Heap × Nat=>{ fr:=[(0,fnY l),(6,.slice oa ts.length c),(7,iv ts.length),(8,iv x.1)],sz:=24,H:=x.2.1,n:=x.2.2,marks:=[],vs:=[0,6,7,8] }) (fun x=>ts.length - x.1) (fun x=>x.1 ≤ ts.length ∧ I x.1 x.2.1 x.2.2) (0,H,n) (.keep rfl rfl rfl (by simp) (Sub.refl _)) ⟨Nat.zero_le _,h0⟩ (fun _=>rfl) ?_
 rintro ⟨i,Hx,N⟩ ⟨hi,hG⟩
 dsimp only at hi hG ⊢
 have hw:IntKind.i64.wrap ((i:Int) + 1)=(i:Int) + 1:=W_in (by omega) (by omega)
 refine E.seq (E.reg hr (by simp; rfl) ?_)
 refine E.seq ?_
 by_cases hil:i < ts.length
 · refine E.cond (t:=true) (by simp [hil]) (fun _=>?_) (fun h=>by cases h)
   obtain ⟨a,q,rfl,hf,hcs,h8,hq⟩:=hrow i hil
   have hdec:=decT_mk h8 hq
   obtain ⟨oq,cq,rfl,_,_,_⟩:=reaV_form hq
   obtain ⟨a0,a1,a2,a3,a4,a5,a6,a7,hhd⟩:=len8 h8
   have hld:=load159 ((hI _ _ _ hG).cells hcs)
   have hyy:=fun (hh:ts[i].hole=false)=>hy i Hx N _ hil hG hh (by rw [List.length_append,List.length_map,h8]; rfl) hdec
   have hsk:=fun (hh:ts[i].hole=true)=>hskip i Hx N (ts[i].hd.map iv ++ [.bool ts[i].hole,.slice oq ts[i].smp.length cq]) hil hG hh
   obtain ⟨ho,hho⟩:∃ ho,ts[i].hole=ho:=⟨_,rfl⟩
   rw [hhd,hho] at hld hyy hsk
   simp only [List.map_cons,List.map_nil,List.cons_append,List.nil_append] at hld hyy hsk
   refine E.skip (E.seq ?_)
   refine E.block (E.seq (E.reg hr (by simp [-loadA,-flat,hil,hf,hld]; rfl) ?_))
   cases ho with
   | true=>
     refine E.seq (E.reg hr (by simp; rfl) ?_)
     refine E.cond (t:=false) (by simp) (fun h=>by cases h) (fun _=>?_)
     refine E.skip (E.reg hr (by simp [hw]; rfl) ?_)
     exact ⟨(i + 1,_,N + 1),.keep rfl rfl rfl (by simp) (Sub.refl _),⟨hil,hsk rfl⟩,by dsimp only; omega⟩
   | false=>
     obtain ⟨p,b,H',N',hp,hyd,hb⟩:=hyy rfl
     refine E.seq (E.reg hp (by simp [run_vcall_tmp,vcallF,target,hyd]; rfl) ?_)
     cases b with
     | true=>
       refine E.cond (t:=false) (by simp) (fun h=>by cases h) (fun _=>?_)
       refine E.skip (E.reg hr (by simp [hw]; rfl) ?_)
       exact ⟨(i + 1,H',N'),.keep rfl rfl rfl (by simp) (Sub.refl _),⟨hil,hb⟩,by dsimp only; omega⟩
     | false=>
       refine E.cond (t:=true) (by simp) (fun _=>?_) (fun h=>by cases h)
       refine E.ret ?_
       exact ⟨.inr rfl,_,_,_,by simp [leaveF,shutA,resultsA,Tryz.results239,dropOk]; first | exact ⟨rfl,rfl,rfl⟩ | rfl,.inr hb⟩
 · have hil':i=ts.length:=by omega
   subst hil'
   refine E.cond (t:=false) (by simp) (fun h=>by cases h) (fun _=>?_)
   refine E.exit ?_
   exact ⟨.inl rfl,_,_,_,by simp [leaveF,shutA,resultsA,Tryz.results239,dropOk]; first | exact ⟨rfl,rfl,rfl⟩ | rfl,.inl hG⟩
noncomputable def asg192:Code:=match rfOf (bodyOf' Tryz.f192) with
 | some x=>x.1
 | none=>.skip
noncomputable def bdy192:Code:=match rfOf (bodyOf' Tryz.f192) with
 | some x=>x.2
 | none=>.skip
abbrev ptA (k:Nat):Value:=.pointer (some ⟨k,0,none⟩)
abbrev fn239 (k:Nat):Value:=.func (.func 239) #[] #[ptA k]
noncomputable abbrev lb192 (n:Nat) (ls:LoopState) (pe:Option Code):Blk:=.loop ls pe [(7,fn239 (n + 3)),(2,ptA (n + 1)),(3,ptA (n + 2))] 13 [2,3] #[8,9] asg192 bdy192 (n + 4)
structure I192 (B:Heap) (n:Nat) (ls:LoopState) (pe:Option Code) (w:Int) (b:Bool) (H:Heap) (N:Nat):Prop where
 sub:Sub B H
 lt:∀ k b,hget H k=some b → k < N
 big:n + 6 ≤ N
 loop:hget H (n + 5)=some (lb192 n ls pe)
 mark:hget H (n + 4)=some .defd
 c2:hget H (n + 1)=some (.cells [iv w] 3)
 c3:hget H (n + 2)=some (.cells [.bool b] 4)
theorem lt_cons {H:Heap} {N:Nat} {b:Blk} (h:∀ k c,hget H k=some c → k < N):∀ k c,hget ((N,b) :: H) k=some c → k < N + 1:=fun k c hk=>by
 rw [hget_cons] at hk
 split at hk
 · omega
 · have:=h k c hk; omega
theorem lt_hset {H:Heap} {N l:Nat} {b:Blk} (h:∀ k c,hget H k=some c → k < N):∀ k c,hget (hset H l b) k=some c → k < N:=fun k c hk=>by
 rw [hget_hset] at hk
 split at hk
 · rename_i e
   subst e
   rw [Option.map_eq_some_iff] at hk
   obtain ⟨x,hx,_⟩:=hk
   exact h _ _ hx
 · exact h k c hk
theorem I192.skip {B:Heap} {n:Nat} {ls:LoopState} {pe:Option Code} {w:Int} {b:Bool} {H:Heap} {N:Nat} (h:I192 B n ls pe w b H N) (hB:∀ k b,hget B k=some b → k < N) (x:Blk):I192 B n ls pe w b ((N,x) :: H) (N + 1):=by
 have hb:=h.big
 refine ⟨fun k c hk=>?_,lt_cons h.lt,by omega,?_,?_,?_,?_⟩
 · have:=hB k c hk
   rw [hget_cons,if_neg (by omega)]
   exact h.sub k c hk
 · rw [hget_cons,if_neg (by omega)]; exact h.loop
 · rw [hget_cons,if_neg (by omega)]; exact h.mark
 · rw [hget_cons,if_neg (by omega)]; exact h.c2
 · rw [hget_cons,if_neg (by omega)]; exact h.c3
set_option maxHeartbeats 1600000 in
set_option maxRecDepth 100000 in
theorem w192 {H:Heap} {n:Nat} {v:Value} {s:ByteArray} {ts:List Trc} (hv:shtV H v=some (s,ts)):AC Tryz.prog 192 [v] H n (.tuple #[iv (widF ts).1,.bool (widF ts).2]) H n:=by
 refine AC.given fun hold hsc hgn=>AC.tidied (B:=[]) (by simp) ?_
 replace hv:=shtV_tidy (fun k b h=>(hold k b h).1) hv
 replace hold:=tidy_old hold
 have hr:=recT_ok (P:=Tryz.prog) (l:=[(216,g216)]) (by simp [ok216])
 have hr0:=recT_ok (P:=Tryz.prog) (l:=[]) (by simp)
 obtain ⟨u,rfl,ht⟩:=shtV_form hv
 obtain ⟨oa,c,rfl,hlt,_,_⟩:=trcV_form ht
 have hT:∀ j,n ≤ j → hget (tidy n H) j=none:=fun j hj=>by
   cases hc:hget (tidy n H) j with
   | none=>rfl
   | some b=>exact absurd (tidy_lt _ _ hc) (by omega)
 obtain ⟨B,hB⟩:∃ B,(n + 3,Blk.cells [.string s,.slice oa ts.length c] 110) :: tidy n H=B:=⟨_,rfl⟩
 have hBb:hget B (n + 3)=some (.cells [.string s,.slice oa ts.length c] 110):=by rw [← hB,hget_cons,if_pos rfl]
 have hSB:Sub (tidy n H) B:=by rw [← hB]; exact Sub.cons (hT _ (by omega)) (Sub.refl _)
 have hBlt:∀ k b,hget B k=some b → k < n ∨ k=n + 3:=fun k b hk=>by
   rw [← hB,hget_cons] at hk
   split at hk
   · exact .inr (by omega)
   · exact .inl (tidy_lt _ _ hk)
 have htB:trcV B (.slice oa ts.length c)=some ts:=listV_mono decT_mono hSB ht
 refine AC.pureM Tryz.func192 rfl (by kernel_rfl) rfl [2,3] rfl ?_
 refine E.seq (E.reg hr (by simp; rfl) ?_)
 refine E.seq (E.seq ?_)
 have hl1:∀ X,hget X n=some (Blk.cells [.string s,.slice oa ts.length c] 110) → loadA Tryz.prog 110 X (.pointer (some ⟨n,0,none⟩))=some (.agg ⟨[.string s,.slice oa ts.length c]⟩):=fun X h=>load110 h
 refine E.reg hr (by simp [-loadA,hl1,g216]; rfl) ?_
 refine E.block ?_
 refine E.lead { fr:=[(7,fn239 (n + 3)),(2,ptA (n + 1)),(3,ptA (n + 2))],sz:=13,H:=(n + 3,Blk.cells [.string s,.slice oa ts.length c] 110) :: (n + 2,.cells [.bool false] 4) :: (n + 1,.cells [iv 0] 3) :: tidy n H,n:=n + 4,marks:=[],vs:=[2,3] } (.keep rfl rfl rfl (by simp) (fun k b hk=>by
   rw [hget_cons,hget_cons,hget_cons] at hk
   rw [hget_cons,hget_cons,hget_cons,hget_cons]
   split
   · rename_i e; rw [if_pos e] at hk; exact hk
   · rename_i e; rw [if_neg e] at hk
     split
     · rename_i e; rw [if_pos e] at hk; exact hk
     · rename_i e; rw [if_neg e] at hk
       split
       · rename_i e; rw [if_pos e] at hk; exact hk
       · rename_i e; rw [if_neg e] at hk
         rw [if_neg fun e=>by subst e; rw [hT _ (Nat.le_refl _)] at hk; cases hk]
         exact hk)) ?_
 refine E.rangeX (x:=asg192) (y:=bdy192) rfl ent239 ?_
 have hstart:I192 B n .ready none 0 false ((n + 5,lb192 n .ready none) :: (n + 4,.defd) :: (n + 3,Blk.cells [.string s,.slice oa ts.length c] 110) :: (n + 2,.cells [.bool false] 4) :: (n + 1,.cells [iv 0] 3) :: tidy n H) (n + 6):=by
   refine ⟨fun k b hk=>?_,?_,Nat.le_refl _,by simp,by simp,by simp,by simp⟩
   · rcases hBlt k b hk with h | h
     · rw [← hB,hget_cons,if_neg (by omega)] at hk
       simp only [hget_cons]
       rw [if_neg (by omega),if_neg (by omega),if_neg (by omega),if_neg (by omega),if_neg (by omega)]
       exact hk
     · subst h
       rw [hBb] at hk
       rw [← hk]
       simp
   · exact lt_cons (lt_cons (lt_cons (lt_cons (lt_cons (N:=n + 1) fun k b hk=>by have:=tidy_lt _ _ hk; omega))))
 obtain ⟨v',H',n',hAC,hend⟩:=it239 (B:=B) (l:=n + 5) (kb:=n + 3) hBb htB (fun i H N=>I192 B n .ready none 0 false H N ∧ widF ts=widF (ts.drop i)) (fun H N=>I192 B n .done (some .ret) (widF ts).1 true H N ∧ (widF ts).2=true) (fun i H N h=>h.1.sub) (fun i H N h=>h.1.lt)
   (fun i H N cs hi h hh=>⟨h.1.skip (fun k b hk=>by have:=h.1.big; rcases hBlt k b hk with h | h <;> omega) _,by rw [h.2,widF_drop hi,if_pos hh]⟩)
   (fun i Hx N cs hi hI hh hl10 hd=>by
     obtain ⟨hI,hg⟩:=hI
     have hb:=hI.big
     have hBN:∀ k b,hget B k=some b → k < N:=fun k b hk=>by rcases hBlt k b hk with h | h <;> omega
     have hS1:=hI.skip hBN (.cells cs 159)
     obtain ⟨q,rfl,h8,hq⟩:=decT_form hd
     obtain ⟨oq,cq,rfl,hlq,_,_⟩:=reaV_form hq
     rw [widF_drop hi,if_neg (by rw [hh]; decide)] at hg
     rw [hh] at hS1 ⊢
     obtain ⟨X,hX⟩:∃ X,(N,Blk.cells (ts[i].hd.map iv ++ [.bool false,.slice oq ts[i].smp.length cq]) 159) :: Hx=X:=⟨_,rfl⟩
     rw [hX] at hS1 ⊢
     obtain ⟨a0,a1,a2,a3,a4,a5,a6,a7,hhd⟩:=len8 h8
     refine (yieldF_ex (K:=fun b H' N'=>if b=true then I192 B n .ready none 0 false H' N' ∧ widF ts=widF (ts.drop (i + 1)) else I192 B n .done (some .ret) (widF ts).1 true H' N' ∧ (widF ts).2=true) hS1.loop rfl (fun c h=>by cases h) (fun c h=>by cases h) ?_)
     rw [hhd]
     refine E.reg hr0 (by simp; rfl) ?_
     have hS2:=hS1.skip (fun k b hk=>by have:=hBN k b hk; omega) (.cells [iv a0,iv a1,iv a2,iv a3,iv a4,iv a5,iv a6,iv a7,.bool false,.slice oq ts[i].smp.length cq] 159)
     refine ⟨rfl,hS2.loop,?_⟩
     obtain ⟨Y,hY⟩:∃ Y,hset ((N + 1,Blk.cells [iv a0,iv a1,iv a2,iv a3,iv a4,iv a5,iv a6,iv a7,.bool false,.slice oq ts[i].smp.length cq] 159) :: X) (n + 5) (lb192 n .busy none)=Y:=⟨_,rfl⟩
     have hy9:cellA Y (N + 1) 9=some (.slice oq ts[i].smp.length cq):=by
       rw [cellA_eq,← hY,hget_hset,if_neg (by omega),hget_cons,if_pos rfl]
       rfl
     have hy2:hget Y (n + 1)=some (.cells [iv 0] 3):=by rw [← hY,hget_hset,if_neg (by omega)]; exact hS2.c2
     have hy3:hget Y (n + 2)=some (.cells [.bool false] 4):=by rw [← hY,hget_hset,if_neg (by omega)]; exact hS2.c3
     have hyl:hget Y (n + 5)=some (lb192 n .busy none):=by rw [← hY,hget_hset,if_pos rfl,hS2.loop]; rfl
     have hym:hget Y (n + 4)=some .defd:=by rw [← hY,hget_hset,if_neg (by omega)]; exact hS2.mark
     have hys:Sub B Y:=by
       rw [← hY]
       exact sub_hset hS2.sub (by
         cases hc:hget B (n + 5) with
         | none=>rfl
         | some b=>rcases hBlt _ _ hc with h | h <;> omega)
     have hylt:∀ k b,hget Y k=some b → k < N + 2:=by rw [← hY]; exact lt_hset hS2.lt
     rw [hY]
     have s1:=store_at (v:=iv ts[i].smp.length) hy2 (i:=0) (by decide)
     obtain ⟨Z,hZ⟩:∃ Z,hset Y (n + 1) (.cells ([iv 0].set 0 (iv ts[i].smp.length)) 3)=Z:=⟨_,rfl⟩
     rw [hZ] at s1
     have hz3:hget Z (n + 2)=some (.cells [.bool false] 4):=by rw [← hZ,hget_hset,if_neg (by omega)]; exact hy3
     have s2:=store_at (v:=.bool true) hz3 (i:=0) (by decide)
     refine E.block (E.seq (E.reg hr0 (by simp [-cellA,-storeA,hy9,s1,s2]; rfl) ?_))
     refine E.ret ?_
     have hsub2:Sub B (hset (hset Z (n + 2) (.cells ([Value.bool false].set 0 (.bool true)) 4)) (n + 5) (lb192 n .done (some .ret))):=by
       have hno:∀ j,j ≠ n + 3 → n ≤ j → hget B j=none:=fun j h1 h2=>by
         cases hc:hget B j with
         | none=>rfl
         | some b=>rcases hBlt _ _ hc with h | h <;> omega
       rw [← hZ]
       exact sub_hset (sub_hset (sub_hset hys (hno _ (by omega) (by omega))) (hno _ (by omega) (by omega))) (hno _ (by omega) (by omega))
     refine ⟨?_,.inr ⟨rfl,⟨hsub2,?_,(by show n + 6 ≤ N + 1 + 1; omega),?_,?_,?_,?_⟩,by rw [hg]⟩⟩
     · rw [hget_hset,if_neg (by omega),← hZ,hget_hset,if_neg (by omega)]; exact hyl
     · rw [← hZ]; exact lt_hset (lt_hset (lt_hset hylt))
     · rw [hget_hset,if_pos rfl,hget_hset,if_neg (by omega),← hZ,hget_hset,if_neg (by omega),hyl]; rfl
     · rw [hget_hset,if_neg (by omega),hget_hset,if_neg (by omega),← hZ,hget_hset,if_neg (by omega)]; exact hym
     · rw [hget_hset,if_neg (by omega),hget_hset,if_neg (by omega),← hZ,hget_hset,if_pos rfl,hy2,hg]; rfl
     · rw [hget_hset,if_neg (by omega),hget_hset,if_pos rfl,hz3]; rfl)
   ⟨hstart,by rw [List.drop_zero]⟩
 refine ⟨v',H',n',hAC,?_⟩
 have hno:∀ j,j ≠ n + 3 → n ≤ j → hget B j=none:=fun j h1 h2=>by
   cases hc:hget B j with
   | none=>rfl
   | some b=>rcases hBlt _ _ hc with h | h <;> omega
 rcases hend with ⟨hI,hg⟩ | ⟨hI,hg⟩
 · refine .inl ⟨hI.loop,?_⟩
   rw [List.drop_length,widF_nil] at hg
   obtain ⟨Y,hY⟩:∃ Y,hset H' (n + 5) (lb192 n .exhausted none)=Y:=⟨_,rfl⟩
   have hy2:hget Y (n + 1)=some (.cells [iv 0] 3):=by rw [← hY,hget_hset,if_neg (by omega)]; exact hI.c2
   have hy3:hget Y (n + 2)=some (.cells [.bool false] 4):=by rw [← hY,hget_hset,if_neg (by omega)]; exact hI.c3
   have hym:hget Y (n + 4)=some .defd:=by rw [← hY,hget_hset,if_neg (by omega)]; exact hI.mark
   have hys:Sub B Y:=by rw [← hY]; exact sub_hset hI.sub (hno _ (by omega) (by omega))
   have s1:=store_at (v:=iv 0) hy2 (i:=0) (by decide)
   obtain ⟨Z,hZ⟩:∃ Z,hset Y (n + 1) (.cells ([iv 0].set 0 (iv 0)) 3)=Z:=⟨_,rfl⟩
   rw [hZ] at s1
   have hz3:hget Z (n + 2)=some (.cells [.bool false] 4):=by rw [← hZ,hget_hset,if_neg (by omega)]; exact hy3
   have s2:=store_at (v:=.bool false) hz3 (i:=0) (by decide)
   obtain ⟨W,hW⟩:∃ W,hset Z (n + 2) (.cells ([Value.bool false].set 0 (.bool false)) 4)=W:=⟨_,rfl⟩
   rw [hW] at s2
   have hw2:cellA W (n + 1) 0=some (iv 0):=by rw [cellA_eq,← hW,hget_hset,if_neg (by omega),← hZ,hget_hset,if_pos rfl,hy2]; rfl
   have hw3:cellA W (n + 2) 0=some (.bool false):=by rw [cellA_eq,← hW,hget_hset,if_pos rfl,hz3]; rfl
   have hwm:hget W (n + 4)=some .defd:=by rw [← hW,hget_hset,if_neg (by omega),← hZ,hget_hset,if_neg (by omega)]; exact hym
   have hws:Sub B W:=by
     rw [← hW,← hZ]
     exact sub_hset (sub_hset hys (hno _ (by omega) (by omega))) (hno _ (by omega) (by omega))
   show E Tryz.prog n none _ { fr:=[(7,fn239 (n + 3)),(2,ptA (n + 1)),(3,ptA (n + 2))],sz:=13,H:=hset H' (n + 5) (lb192 n .exhausted none),n:=n',marks:=[n + 4],vs:=[2,3] } _
   rw [hY]
   refine E.seq (E.reg hr0 (by simp [-storeA,s1,s2]; rfl) ?_)
   refine E.ret ?_
   have d2:cellA (hdel W (n + 4)) (n + 1) 0=some (iv 0):=by rw [cellA_eq,hget_hdel,if_neg (by omega),← cellA_eq]; exact hw2
   have d3:cellA (hdel W (n + 4)) (n + 2) 0=some (.bool false):=by rw [cellA_eq,hget_hdel,if_neg (by omega),← cellA_eq]; exact hw3
   refine outM.ret (hdel W (n + 4)) (shut_one hwm) (vs:=[iv 0,.bool false]) (by simp [-cellA,resultsA,resultA,Tryz.results192,d2,d3]) ⟨by rw [hg]; rfl,?_⟩
   exact sub_hdel (hSB.trans hws) (hT _ (by omega))
 · refine .inr ⟨hI.loop,?_⟩
   obtain ⟨Y,hY⟩:∃ Y,hset H' (n + 5) (lb192 n .exhausted (some .ret))=Y:=⟨_,rfl⟩
   have hy2:cellA Y (n + 1) 0=some (iv (widF ts).1):=by rw [cellA_eq,← hY,hget_hset,if_neg (by omega),hI.c2]; rfl
   have hy3:cellA Y (n + 2) 0=some (.bool true):=by rw [cellA_eq,← hY,hget_hset,if_neg (by omega),hI.c3]; rfl
   have hym:hget Y (n + 4)=some .defd:=by rw [← hY,hget_hset,if_neg (by omega)]; exact hI.mark
   have hys:Sub B Y:=by rw [← hY]; exact sub_hset hI.sub (hno _ (by omega) (by omega))
   show Ab.outM Tryz.prog Tryz.f192 (fun u H2 _=>u = .tuple #[iv (widF ts).1,.bool (widF ts).2] ∧ Ab.Sub (tidy n H) H2) .ret { fr:=[(7,fn239 (n + 3)),(2,ptA (n + 1)),(3,ptA (n + 2))],sz:=13,H:=hset H' (n + 5) (lb192 n .exhausted (some .ret)),n:=n',marks:=[n + 4],vs:=[2,3] }
   rw [hY]
   have d2:cellA (hdel Y (n + 4)) (n + 1) 0=some (iv (widF ts).1):=by rw [cellA_eq,hget_hdel,if_neg (by omega),← cellA_eq]; exact hy2
   have d3:cellA (hdel Y (n + 4)) (n + 2) 0=some (.bool true):=by rw [cellA_eq,hget_hdel,if_neg (by omega),← cellA_eq]; exact hy3
   refine outM.ret (hdel Y (n + 4)) (shut_one hym) (vs:=[iv (widF ts).1,.bool true]) (by simp [-cellA,resultsA,resultA,Tryz.results192,d2,d3]) ⟨by rw [hg]; rfl,?_⟩
   exact sub_hdel (hSB.trans hys) (hT _ (by omega))
def g192 (args:List Value) (H:Heap) (n:Nat):R:=match args with
 | [v]=>match shtV H v with
   | some x=>some (.tuple #[iv (widF x.2).1,.bool (widF x.2).2],H,n)
   | none=>none
 | _=>none
theorem ok192:EntOk Tryz.prog (192,g192):=by
 intro args H n v H' n' h
 simp only [g192] at h
 split at h
 · split at h
   · rename_i x hx
     injection h with h; injection h with e1 e2; injection e2 with e2 e3; subst e1 e2 e3
     exact w192 (s:=x.1) (ts:=x.2) hx
   · cases h
 · cases h
set_option maxHeartbeats 1000000 in
set_option maxRecDepth 50000 in
theorem w214 {H:Heap} {n:Nat} {v:Value} {ts:List Trc} (hR:dR H) (hV:trcV H v=some ts):AC Tryz.prog 214 [v,.func (.func 215) #[] #[]] H n (outS n ts.length) (outSB n 29 1 ts.length ((ts.map trcE).map iv) ++ H) (n + 1):=by
 refine AC.given fun hold hsc hgn=>AC.tidied (fun x hx=>outSB_ge x hx) ?_
 replace hV:trcV (tidy n H) v=some ts:=listV_tidy decT_tidy (fun k b h=>(hold k b h).1) hV
 have h1n:1 < n:=by rw [gsz] at hgn; omega
 replace hR:hget (tidy n H) 1=some (.inp 0 rangesV):=hget_tidy.2 ⟨hR,h1n,rfl⟩
 have hr:=recT_ok (P:=Tryz.prog) (l:=[(215,g215)]) (by simp [ok215])
 obtain ⟨oa,c,rfl,hlt,_,hrow⟩:=trcV_form hV
 refine AC.grown Tryz.func214 rfl (by kernel_rfl) rfl [1,5,8,9,10] ?_
 refine E.seq (E.reg hr (by simp; rfl) ?_)
 refine E.seq (E.reg hr (by simp; rfl) ?_)
 refine E.seq (E.seq (E.reg hr (by simp; rfl) ?_))
 refine E.block (E.loop ?_)
 refine EL.ind (fun x:Nat × Heap × Nat × Nat=>{ fr:=[(1,.func (.func 215) #[] #[]),(5,outS x.2.2.2 x.1),(8,.slice oa ts.length c),(9,iv ts.length),(10,iv x.1)],sz:=22,H:=x.2.1,n:=x.2.2.1,marks:=[],vs:=[1,5,8,9,10] }) (fun x=>ts.length - x.1) (fun x=>x.1 ≤ ts.length ∧ GL (tidy n H) n 29 1 (((ts.take x.1).map trcE).map iv) x.1 x.2.1 x.2.2.1 x.2.2.2) (0,tidy n H,n,n) (.keep rfl rfl rfl (by simp) (Sub.refl _)) ⟨Nat.zero_le _,by simpa using GL.start (t:=29) (sz:=1) (Sub.refl (tidy n H)) namesOk_tidy (Nat.le_refl n) (by simp)⟩ (fun _=>rfl) ?_
 rintro ⟨i,Hx,N,o⟩ ⟨hi,hG⟩
 dsimp only at hi hG ⊢
 have hw:IntKind.i64.wrap ((i:Int) + 1)=(i:Int) + 1:=W_in (by omega) (by omega)
 refine E.seq (E.reg hr (by simp; rfl) ?_)
 refine E.seq ?_
 by_cases hil:i < ts.length
 · obtain ⟨a,q,rfl,hf,hcs,h8,hq⟩:=hrow i hil
   have hdec:=decT_mk h8 hq
   obtain ⟨oq,cq,rfl,_,_,_⟩:=reaV_form hq
   have htk:ts.take (i + 1)=ts.take i ++ [ts[i]]:=List.take_succ_eq_append_getElem hil
   have hsn:((ts.take i).map trcE).map iv ++ [iv (trcE ts[i])]=((ts.take (i + 1)).map trcE).map iv:=by rw [htk,List.map_append,List.map_append]; rfl
   have hld:=load159 (hG.sub.cells hcs)
   obtain ⟨e,he⟩:∃ e,trcE ts[i]=e:=⟨_,rfl⟩
   obtain ⟨a0,a1,a2,a3,a4,a5,a6,a7,hhd⟩:=len8 h8
   have hgg:∀ X m,Sub Hx X → g215 [.agg ⟨ts[i].hd.map iv ++ [.bool ts[i].hole,.slice oq ts[i].smp.length cq]⟩] X m=some (iv e,X,m):=fun X m hX=>by
     have h1:=decT_mono _ _ _ _ (hG.sub.trans hX) hdec
     have h2:dR X:=hX _ _ (hG.sub _ _ hR)
     simp only [g215,h1,h2,if_true,he]
   rw [hhd] at hld hgg
   simp only [List.map_cons,List.map_nil,List.cons_append,List.nil_append] at hld hgg
   rw [he] at hsn
   have hGs:=hG.skip tidy_lt (.cells [iv a0,iv a1,iv a2,iv a3,iv a4,iv a5,iv a6,iv a7,.bool ts[i].hole,.slice oq ts[i].smp.length cq] 159) rfl
   have hgX:=hgg ((N,.cells [iv a0,iv a1,iv a2,iv a3,iv a4,iv a5,iv a6,iv a7,.bool ts[i].hole,.slice oq ts[i].smp.length cq] 159) :: Hx) (N + 1) (Sub.cons (by
     cases hc:hget Hx N with
     | none=>rfl
     | some b=>exact absurd (namesOk_iff.1 hG.nm _ (hget_mem _ _ _ hc)) (by simp)) (Sub.refl _))
   obtain ⟨Hz,happ,hGz⟩:=hGs.app (P:=Tryz.prog) (st:=170) (i:=Tryz.t29) (new:=[iv e]) tidy_lt Tryz.underlying170 inf29 sz29i zo29 by29 (by omega) rfl (by omega) rfl rfl
   rw [hsn] at hGz
   refine E.cond (t:=true) (by simp [hil]) (fun _=>?_) (fun h=>by cases h)
   refine E.skip (E.seq ?_)
   refine E.block (E.seq (E.reg hr (by simp [-loadA,-flat,hil,hf,hld]; rfl) ?_))
   refine E.reg hr (by simp [-builtinA,run_vcall_tmp,vcallF,target,hgX,happ]; rfl) ?_
   refine E.reg hr (by simp [hw]; rfl) ?_
   exact ⟨(i + 1,Hz,N + 1 + 1 + 1,N + 1 + 1),.keep rfl rfl rfl (by simp) (Sub.refl _),⟨hil,hGz⟩,by dsimp only; omega⟩
 · have hil':i=ts.length:=by omega
   subst hil'
   rw [List.take_length] at hG
   refine E.cond (t:=false) (by simp) (fun h=>by cases h) (fun _=>?_)
   refine E.exit ?_
   refine E.seq (E.reg hr (by simp; rfl) ?_)
   refine E.ret ?_
   exact outK.ret rfl rfl (hG.fresh (Nat.le_refl _) (afL_iv _) fun ρ=>ivs_ren ρ _)
open Classical in
noncomputable def g214 (args:List Value) (H:Heap) (n:Nat):R:=match args with
 | [v,.func (.func 215) a b]=>if a=#[] ∧ b=#[] ∧ dR H then (match trcV H v with
   | some ts=>some (outS n ts.length,outSB n 29 1 ts.length ((ts.map trcE).map iv) ++ H,n + 1)
   | none=>none) else none
 | _=>none
theorem ok214:EntOk Tryz.prog (214,g214):=by
 intro args H n v H' n' h
 simp only [g214] at h
 split at h
 · split at h
   · rename_i hab
     obtain ⟨rfl,rfl,hR⟩:=hab
     split at h
     · rename_i l hl
       injection h with h; injection h with e1 e2; injection e2 with e2 e3; subst e1 e2 e3
       exact w214 hR hl
     · cases h
   · cases h
 · cases h
end Go.Proofs.YtkongcnmkiihjaaGreatDoor
namespace Go.Ab
open Go
theorem Step.framedP {P : Program} {p : Nat → Prop} {φ φ' : Vl} {n n' : Nat} {w w' : World} {H H0 H1 H2 : Heap} {fr : Fr} {a : Act} (hB : Base P p φ n (hget H) w fr a) (hsub : ∀ k b, hget H0 k = some b → hget H k = some b)
   (h2:∀ k b,hget H2 k=some b → hget H1 k=some b ∨ (hget H k=some b ∧ hget H0 k=none)) (hd:SM (Nx p n n') (hget H1) ∧ Step P φ n (hget H0) w φ' n' (hget H1) w'):SM (Nx p n n') (hget H2) ∧ Step P φ n (hget H) w φ' n' (hget H2) w':=by
 obtain ⟨hsm,hst⟩:=hd
 have hagr:Agr p φ φ':=fun k hk=>hst.only k (.inl (hB.lt k hk))
 have hloc:∀ k b,hget H k=some b → φ'.loc k=φ.loc k:=fun k b hk=>(hagr k (hB.sm k b hk).1).1
 have hkeep:∀ k b,hget H k=some b → hget H0 k=none → w'.heap[φ.loc k]? = w.heap[φ.loc k]?:=fun k b hk hn=>hst.frm.keep _ (hB.rel.lt hk) fun j x hj ho=>hB.rel.apart j x k b (hsub j x hj) hk (fun e=>by subst e; rw [hn] at hj; cases hj) ho
 refine ⟨fun k b hk=>?_,hst.le,hst.only,⟨fun k b hk=>?_,fun k b k' b' g1 g2 hne ho=>?_,hst.rel.glob⟩,fun k b hk ho=>?_,fun k b hk ho=>?_,⟨hst.frm.os,hst.frm.tape,hst.frm.output,hst.frm.size,fun b hb hx=>hst.frm.keep b hb fun k x hk ho=>hx k x (hsub k x hk) ho⟩⟩
 · rcases h2 k b hk with h | ⟨h,_⟩
   · exact hsm k b h
   · exact ⟨.inl (hB.sm k b h).1,scB_mono (fun _ h=>.inl h) _ (hB.sm k b h).2⟩
 · rcases h2 k b hk with h | ⟨h,hn⟩
   · exact hst.rel.blk k b h
   · rw [hloc k b h,hkeep k b h hn]
     exact (hB.rel.blk k b h).congr hagr (hB.sm k b h).1 (hB.sm k b h).2
 · rcases h2 k b g1 with h | ⟨h,hn⟩ <;> rcases h2 k' b' g2 with h' | ⟨h',hn'⟩
   · exact hst.rel.apart k b k' b' h h' hne ho
   · rw [hloc k' b' h']
     rcases hst.new k b h ho with g | ⟨k0,b0,e1,e2,e3⟩
     · have:=hB.rel.lt h'
       omega
     · rw [← e3]
       exact hB.rel.apart k0 b0 k' b' (hsub _ _ e1) h' (fun e=>by subst e; rw [hn'] at e1; cases e1) e2
   · rw [hloc k b h]
     cases hb:b'.own with
     | true=>
       rcases hst.new k' b' h' hb with g | ⟨k0,b0,e1,e2,e3⟩
       · have:=hB.rel.lt h
         omega
       · rw [← e3]
         exact hB.rel.apart k b k0 b0 h (hsub _ _ e1) (fun e=>by subst e; rw [hn] at e1; cases e1) ho
     | false=>
       have e1:=hst.inp k' b' h' hb
       rw [hloc k' b' (hsub _ _ e1)]
       exact hB.rel.apart k b k' b' h (hsub _ _ e1) hne ho
   · rw [hloc k b h,hloc k' b' h']
     exact hB.rel.apart k b k' b' h h' hne ho
 · rcases h2 k b hk with h | ⟨h,_⟩
   · rcases hst.new k b h ho with g | ⟨k0,b0,e1,e2,e3⟩
     · exact .inl g
     · exact .inr ⟨k0,b0,hsub _ _ e1,e2,e3⟩
   · exact .inr ⟨k,b,h,ho,(hloc k b h).symm⟩
 · rcases h2 k b hk with h | ⟨h,_⟩
   · exact hsub _ _ (hst.inp k b h ho)
   · exact h
theorem AT.frameP {P : Program} {ro : Option Nat} {c : Code} {st st' : St} {e : Ex} {H H2 : Heap} (h : AT P ro c st e st') (hsub : ∀ k b, hget st.H k = some b → hget H k = some b)
   (h2:∀ k b,hget H2 k=some b → hget st'.H k=some b ∨ (hget H k=some b ∧ hget st.H k=none)):AT P ro c { st with H:=H } e { st' with H:=H2 }:=by
 intro p φ a w hS hl
 have hS0:SRel P p φ st a w:=⟨⟨hS.base.rel.sub hsub,hS.base.lt,hS.base.gl,hS.base.gn,fun k b hk=>hS.base.sm k b (hsub k b hk),hS.base.ar,hS.base.sf⟩,hS.size,hS.defs,hS.marks⟩
 refine wpIn_mono (h p φ a w hS0 hl) fun e2 a' w' hh=>?_
 obtain ⟨he,φ',hS',hs'⟩:=hh
 obtain ⟨hsm,hst⟩:=Step.framedP hS.base hsub h2 ⟨hS'.base.sm,hs'⟩
 exact ⟨he,φ',⟨⟨hst.rel,hS'.base.lt,hS'.base.gl,hS'.base.gn,hsm,hS'.base.ar,hS'.base.sf⟩,hS'.size,hS'.defs,hS'.marks⟩,hst⟩
theorem E.part {P : Program} {n0 : Nat} {ro : Option Nat} {c : Code} {K : Ex → St → Prop} {st : St} {fr : Fr} {sz n : Nat} {marks vs : List Nat} (hlt : ∀ k b, hget st.H k = some b → k < st.n)
   (h:E P st.n ro c { st with H:=tidy st.n st.H } fun e s=>e = .normal ∧ s=⟨fr,sz,tidy st.n st.H,n,marks,vs⟩) (k:K .normal ⟨fr,sz,st.H,n,marks,vs⟩):E P n0 ro c st K:=by
 obtain ⟨e,s',hat,rfl,rfl⟩:=E.toEx (s:={ st with H:=tidy st.n st.H }) h
 have hf:=AT.frameP (st:={ st with H:=tidy st.n st.H }) (st':=⟨fr,sz,tidy st.n st.H,n,marks,vs⟩) (H:=st.H) (H2:=st.H) hat (fun k b hk=>(hget_tidy.1 hk).1) fun k b hk=>?_
 · exact E.at hf k
 by_cases hp:plainB2 b=true
 · exact .inl (hget_tidy.2 ⟨hk,hlt k b hk,hp⟩)
 · refine .inr ⟨hk,?_⟩
   cases hc:hget (tidy st.n st.H) k with
   | none=>first | exact hc | rfl
   | some c=>
     have:=hget_tidy.1 hc
     rw [hk] at this
     obtain ⟨h1,_,h3⟩:=this
     injection h1 with h1
     subst h1
     exact absurd h3 hp
structure Kp (B:Heap) (b:Nat) (fs:List (Nat × Blk)) (H:Heap) (N:Nat):Prop where
 sub:Sub B H
 nm:namesOk N H=true
 big:b ≤ N
 bl:∀ k c,hget B k=some c → k < b
 low:∀ (i:Nat) x,fs[i]? = some x → x.1 < b ∧ hget B x.1=none
 nd:(fs.map (·.1)).Nodup
 at':∀ (i:Nat) x,fs[i]? = some x → hget H x.1=some x.2
section
variable {B H:Heap} {b N:Nat} {fs:List (Nat × Blk)}
theorem Kp.lt (h:Kp B b fs H N):∀ k c,hget H k=some c → k < N:=fun k c hk=>namesOk_iff.1 h.nm (k,c) (hget_mem _ _ _ hk)
theorem Kp.new (h:Kp B b fs H N):hget H N=none:=by
 cases hc:hget H N with
 | none=>rfl
 | some c=>exact absurd (h.lt _ _ hc) (by omega)
theorem Kp.skip (h:Kp B b fs H N) (x:Blk):Kp B b fs ((N,x) :: H) (N + 1):=by
 have hb:=h.big
 refine ⟨fun k c hk=>?_,namesOk_put (Nat.lt_succ_self _) (namesOk_mono (Nat.le_succ _) _ h.nm),by omega,h.bl,h.low,h.nd,fun i y hy=>?_⟩
 · have:=h.bl k c hk
   rw [hget_cons,if_neg (by omega)]
   exact h.sub k c hk
 · have:=(h.low i y hy).1
   rw [hget_cons,if_neg (by omega)]
   exact h.at' i y hy
theorem Kp.put (h:Kp B b fs H N) (i:Nat) {l:Nat} {c0:Blk} (hx:fs[i]? = some (l,c0)) (c:Blk):Kp B b (fs.set i (l,c)) (hset H l c) N:=by
 have hi:=(List.getElem?_eq_some_iff.1 hx).1
 have hnm:(fs.set i (l,c)).map (·.1)=fs.map (·.1):=by
   apply List.ext_getElem?
   intro j
   rw [List.getElem?_map,List.getElem?_map,List.getElem?_set]
   split
   · rename_i e
     subst e
     rw [hx]
     rfl
   · rfl
 have hl:=(h.low i _ hx).2
 refine ⟨sub_hset h.sub hl,namesOk_hset h.nm,h.big,h.bl,fun j x hj=>?_,by rw [hnm]; exact h.nd,fun j x hj=>?_⟩
 · rw [List.getElem?_set] at hj
   split at hj
   · injection hj with hj
     subst hj
     exact ⟨(h.low i _ hx).1,hl⟩
   · exact h.low j x hj
 · rw [List.getElem?_set] at hj
   split at hj
   · injection hj with hj
     subst hj
     rw [hget_hset,if_pos rfl,h.at' i _ hx]
     rfl
   · rename_i hne
     rw [hget_hset,if_neg fun e=>?_]
     · exact h.at' j x hj
     · have hd:=List.nodup_iff_pairwise_ne.1 h.nd
       rw [List.pairwise_iff_getElem] at hd
       have hj':=(List.getElem?_eq_some_iff.1 hj).1
       have e1:(fs.map (·.1))[i]'(by rw [List.length_map]; exact hi)=l:=by
         rw [List.getElem_map]
         have:=(List.getElem?_eq_some_iff.1 hx).2
         rw [this]
       have e2:(fs.map (·.1))[j]'(by rw [List.length_map]; exact hj')=x.1:=by
         rw [List.getElem_map]
         have:=(List.getElem?_eq_some_iff.1 hj).2
         rw [this]
       rcases Nat.lt_trichotomy i j with hlt | hlt | hlt
       · exact hd i j (by rw [List.length_map]; exact hi) (by rw [List.length_map]; exact hj') hlt (by rw [e1,e2]; exact e)
       · exact hne hlt
       · exact hd j i (by rw [List.length_map]; exact hj') (by rw [List.length_map]; exact hi) hlt (by rw [e1,e2]; exact e.symm)
theorem Kp.cell (h:Kp B b fs H N) (i:Nat) {l:Nat} {cs:List Value} {t:TypeId} (hx:fs[i]? = some (l,.cells cs t)) (j:Nat):cellA H l j=cs[j]?:=by
 rw [cellA_eq,h.at' i _ hx]
 simp [cellB]
theorem Kp.store (h:Kp B b fs H N) (i:Nat) {l:Nat} {v0 v:Value} {t:TypeId} (hx:fs[i]? = some (l,.cells [v0] t)):storeA H l 0 [v]=some (hset H l (.cells [v] t)):=
 store_at (h.at' i _ hx) (i:=0) (Nat.zero_lt_one)
theorem Kp.del {d:Nat} {x:Blk} (h:Kp B b ((d,x) :: fs) H N):Sub B (hdel H d):=sub_hdel h.sub (h.low 0 _ rfl).2
theorem Kp.start (hb:∀ k c,hget B k=some c → k < b) (hB:Sub B H) (hn:namesOk N H=true) (hbig:b ≤ N):Kp B b [] H N:=
 ⟨hB,hn,hbig,hb,fun i x hx=>by simp at hx,List.nodup_nil,fun i x hx=>by simp at hx⟩
theorem Kp.more (h:Kp B b fs H N) {l:Nat} {c:Blk} (hl:hget H l=some c) (hb:l < b) (hB:hget B l=none) (hn:l ∉ fs.map (·.1)):Kp B b ((l,c) :: fs) H N:=
 ⟨h.sub,h.nm,h.big,h.bl,fun i x hx=>by
   cases i with
   | zero=>simp at hx; subst hx; exact ⟨hb,hB⟩
   | succ i=>exact h.low i x (by simpa using hx),List.nodup_cons.2 ⟨hn,h.nd⟩,fun i x hx=>by
   cases i with
   | zero=>simp at hx; subst hx; exact hl
   | succ i=>exact h.at' i x (by simpa using hx)⟩
theorem Kp.drop (h:Kp B b fs H N) {o:Nat} (ho:b ≤ o):Kp B b fs (hdel H o) N:=by
 refine ⟨sub_hdel h.sub ?_,namesOk_hdel h.nm,h.big,h.bl,h.low,h.nd,fun i x hx=>?_⟩
 · cases hc:hget B o with
   | none=>rfl
   | some c=>have:=h.bl _ _ hc; omega
 · have:=(h.low i x hx).1
   rw [hget_hdel,if_neg (by omega)]
   exact h.at' i x hx
end
theorem app_at {P : Program} {st t : TypeId} {i : TypeInfo} {X : Heap} {N o k sz : Nat} {cs new : List Value} (hu : P.underlying st = some (.slice t)) (hi : P.info? t = some i) (hsz : i.size = sz) (hz : zeroOk i = true) (hby : i.bytes ≤ 128) (hk : k < 2147483647) (hxN : hget X N = some (.cells new t)) (hlen : cs.length = k * sz) (hnew : new.length = sz) (hs0 : 0 < sz) (hone : oneL new = true) (ho : k ≠ 0 → hget X o = some (.ext cs t sz)) :
   builtinA P .append #[st,st] X (N + 1) [outS o k,.slice (some ⟨N,0,none⟩) 1 1]=some (outS (N + 1) (k + 1),(N + 1,.ext (cs ++ new) t sz) :: (if k=0 then X else hdel X o),N + 1 + 1):=by
 have hc:cellsA X N 0 (1 * sz)=some new:=by
   rw [cellsA_eq,hxN]
   simp only [Option.bind_some,cellsB]
   rw [if_pos (by omega),List.drop_zero,List.take_of_length_le (by omega)]
 have hsm1:smallA i.bytes 1=true:=by
   unfold smallA
   rw [Bool.and_eq_true]
   exact ⟨decide_eq_true (by omega),decide_eq_true (by omega)⟩
 have hsm:smallA i.bytes (k + 1)=true:=by
   unfold smallA
   rw [Bool.and_eq_true]
   refine ⟨decide_eq_true ?_,decide_eq_true ?_⟩
   · have:=Nat.mul_le_mul_left (k + 1) hby
     omega
   · omega
 have h1:¬ 1 * sz=0:=by omega
 show appendA P #[st,st] _ _ _ _=_
 unfold appendA
 have hnb:Nat.beq new.length (1 * sz)=true:=by rw [hnew,Nat.one_mul,Nat.beq_refl]
 rw [outS_ne (Nat.succ_ne_zero k)]
 by_cases hk0:k=0
 · subst hk0
   simp only [outS_nil,List.getElem?_toArray,List.getElem?_cons_zero,List.getElem?_cons_succ,hu,hi,lenX,lenV,srcX,srcA,hsz,if_neg h1,flat_n,if_true,hc,hnb,hone,Bool.and_self]
   unfold appendTo
   have hcs:cs=[]:=List.eq_nil_of_length_eq_zero (by rw [hlen,Nat.zero_mul])
   subst hcs
   simp only [and_self,if_true,Nat.one_ne_zero,if_false,hsm1,hz,Bool.and_self,hsz]
   rfl
 · have hle:¬ (k + 1) * sz ≤ cs.length:=by rw [hlen,Nat.succ_mul]; omega
   have hle2:k * sz ≤ cs.length:=by rw [hlen]; omega
   have htk:cs.take (k * sz)=cs:=List.take_of_length_le (by rw [hlen]; omega)
   rw [outS_ne hk0]
   simp only [List.getElem?_toArray,List.getElem?_cons_zero,List.getElem?_cons_succ,hu,hi,lenX,lenV,srcX,srcA,hsz,if_neg h1,flat_n,if_true,hc,hnb,hone,Bool.and_self]
   unfold appendTo
   simp only [ho hk0,hsz,hle2,and_self,if_true,if_neg hle,hsm,hz,Bool.and_self,htk,if_neg hk0]
   rfl
structure Ls (B:Heap) (b:Nat) (fs:List (Nat × Blk)) (kb tb t:Nat) (l:List Value) (H:Heap) (N o:Nat):Prop where
 kp:Kp B b ((kb,.cells [outS o l.length] tb) :: fs) H N
 out:l ≠ [] → hget H o=some (.ext l t 1) ∧ b ≤ o ∧ o < N
 low:b ≤ o
end Go.Ab
namespace Go.Proofs.YtkongcnmkiihjaaGreatDoor
open Go Go.Ab Go.Proofs
def widB (W:Int) (x:Trc):Bool:=x.hole || decide ((x.smp.length:Int)=W)
def shtE (s:ByteArray) (ts:List Trc):Int:=
 let e1:=firstV [whenV (!Gn.nameB s) 8,whenV (decide (ts.length=0)) 12,whenV (decide (64 < ts.length)) 5]
 if e1=0 then (if firstV (ts.map trcE)=0 then (if ts.all (widB (widF ts).1) then 0 else 2) else firstV (ts.map trcE)) else e1
noncomputable def asg191:Code:=match rfOf (bodyOf' Tryz.f191) with
 | some x=>x.1
 | none=>.skip
noncomputable def bdy191:Code:=match rfOf (bodyOf' Tryz.f191) with
 | some x=>x.2
 | none=>.skip
abbrev fr191 (n:Nat):Fr:=[(42,fn239 (n + 5)),(2,ptA (n + 1)),(5,ptA (n + 4))]
noncomputable abbrev lb191 (n:Nat) (ls:LoopState) (pe:Option Code):Blk:=.loop ls pe (fr191 n) 50 [2,5] #[43,44] asg191 bdy191 (n + 6)
noncomputable abbrev fs191 (n:Nat) (W e:Int) (ls:LoopState) (pe:Option Code):List (Nat × Blk):=[(n + 6,.defd),(n + 7,lb191 n ls pe),(n + 1,.cells [iv e] 29),(n + 4,.cells [iv W] 3)]
set_option maxHeartbeats 3200000 in
set_option maxRecDepth 100000 in
theorem w191 {H:Heap} {n:Nat} {v:Value} {s:ByteArray} {ts:List Trc} (hR:dR H) (hv:shtV H v=some (s,ts)):AC Tryz.prog 191 [v] H n (iv (shtE s ts)) H n:=by
 refine AC.given fun hold hsc hgn=>AC.tidied (B:=[]) (by simp) ?_
 replace hv:=shtV_tidy (fun k b h=>(hold k b h).1) hv
 replace hold:=tidy_old hold
 have h1n:1 < n:=by rw [gsz] at hgn; omega
 replace hR:hget (tidy n H) 1=some (.inp 0 rangesV):=hget_tidy.2 ⟨hR,h1n,rfl⟩
 have hr:=recT_ok (P:=Tryz.prog) (l:=[(216,g216),(213,Gn.gSB Gn.nameB),(212,Gn.g114),(211,g211),(214,g214),(192,g192)]) (by simp only [List.forall_mem_cons]; exact ⟨ok216,Gn.ok213,Gn.ok212,ok211,ok214,ok192,by simp⟩)
 have hr0:=recT_ok (P:=Tryz.prog) (l:=[]) (by simp)
 have hv0:=hv
 obtain ⟨u,rfl,ht⟩:=shtV_form hv
 obtain ⟨oa,c,rfl,hlt,_,_⟩:=trcV_form ht
 have hT:∀ j,n ≤ j → hget (tidy n H) j=none:=fun j hj=>by
   cases hc:hget (tidy n H) j with
   | none=>rfl
   | some b=>exact absurd (tidy_lt _ _ hc) (by omega)
 have hTl:∀ k b,hget (tidy n H) k=some b → k < n:=fun k b h=>tidy_lt _ _ h
 obtain ⟨X,hX⟩:∃ X,(n + 1,Blk.cells [iv 0] 29) :: (n,Blk.cells [.string s,.slice oa ts.length c] 110) :: tidy n H=X:=⟨_,rfl⟩
 have hS:Sub (tidy n H) X:=by rw [← hX]; exact (Sub.cons (hT _ (Nat.le_refl _)) (Sub.refl _)).trans (Sub.cons (by rw [hget_cons,if_neg (by omega)]; exact hT _ (by omega)) (Sub.refl _))
 have hnm:namesOk (n + 2) X=true:=by rw [← hX]; exact namesOk_put (by omega) (namesOk_put (by omega) (by simp))
 have hnm3:namesOk (n + 2 + 1) X=true:=namesOk_mono (Nat.le_succ _) _ hnm
 have htk:=takeNew_frz hnm
 have hpl:plainH X=true:=by rw [← hX]; rw [plainH,plainH]; simp [plainB2]
 have hbx:hget X n=some (.cells [.string s,.slice oa ts.length c] 110):=by rw [← hX,hget_cons,if_neg (by omega),hget_cons,if_pos rfl]
 have hc2:hget X (n + 1)=some (.cells [iv 0] 29):=by rw [← hX,hget_cons,if_pos rfl]
 have hc0:cellA X n 0=some (.string s):=by rw [cellA_eq,hbx]; rfl
 have hc1:cellA X n 1=some (.slice oa ts.length c):=by rw [cellA_eq,hbx]; rfl
 have hXlt:∀ k b,hget X k=some b → k < n + 2:=fun k b hk=>namesOk_iff.1 hnm (k,b) (hget_mem _ _ _ hk)
 have hXn:∀ j,n + 2 ≤ j → hget X j=none:=fun j hj=>by
   cases hc:hget X j with
   | none=>rfl
   | some b=>exact absurd (hXlt _ _ hc) (by omega)
 have hI3:∀ (N:Nat) (Y:Heap) (a b d:Int),intV ((N,.cells [iv a,iv b,iv d] 29) :: Y) (.slice (some ⟨N,0,none⟩) 3 3)=some [a,b,d]:=fun N Y a b d=>by
   refine listV_mk (cs:=[iv a,iv b,iv d]) (l:=[a,b,d]) rfl (by rw [cellsA_eq,hget_cons,if_pos rfl]; rfl) rfl (by simp) fun i v hv=>?_
   match i,hv with
   | 0,hv=>simp at hv; subst hv; rfl
   | 1,hv=>simp at hv; subst hv; rfl
   | 2,hv=>simp at hv; subst hv; rfl
 obtain ⟨b1,hb1⟩:∃ b1,Gn.nameB s=b1:=⟨_,rfl⟩
 obtain ⟨b2,hb2⟩:∃ b2,decide (ts.length=0)=b2:=⟨_,rfl⟩
 obtain ⟨b3,hb3⟩:∃ b3,decide (64 < ts.length)=b3:=⟨_,rfl⟩
 have hb2':decide (ts=[])=b2:=by rw [← hb2]; exact decide_eq_decide.2 List.length_eq_zero_iff.symm
 have hb3':decide ((64:Int) < ts.length)=b3:=by rw [← hb3]; exact decide_eq_decide.2 (by omega)
 obtain ⟨e1,he1⟩:∃ e1,firstV [whenV (!b1) 8,whenV b2 12,whenV b3 5]=e1:=⟨_,rfl⟩
 have hE:shtE s ts=if e1=0 then (if firstV (ts.map trcE)=0 then (if ts.all (widB (widF ts).1) then 0 else 2) else firstV (ts.map trcE)) else e1:=by
   rw [← he1,← hb1,← hb2,← hb3]; rfl
 have hw212:∀ (b:Bool) (e:Int) X m,Gn.g114 [.bool b,iv e] X m=some (iv (whenV b e),X,m):=fun _ _ _ _=>rfl
 have hw213:∀ X m,Gn.gSB Gn.nameB [.string s] X m=some (.bool b1,X,m):=fun X m=>by rw [← hb1]
 have hw211:∀ (N:Nat) (Y:Heap) m,g211 [.slice (some ⟨N,0,none⟩) 3 3] ((N,.cells [iv (whenV (!b1) 8),iv (whenV b2 12),iv (whenV b3 5)] 29) :: Y) m=some (iv e1,(N,.cells [iv (whenV (!b1) 8),iv (whenV b2 12),iv (whenV b3 5)] 29) :: Y,m):=fun N Y m=>by
   simp only [g211,hI3,Option.map_some,he1]
 have hl110:=load110 hbx
 refine AC.pureM Tryz.func191 rfl (by kernel_rfl) rfl [1,2,5] rfl ?_
 refine E.seq (E.reg hr (by simp; rfl) ?_)
 rw [hX]
 refine E.seq (E.seq ?_)
 refine E.drawU mixed hr [14,15,16] [2,4,9,14,15,16] [1,2,4,9,14,15,16] (by kernel_rfl) (by simp [-cellA,-readA,-decide_eq_true_eq,cellA_read,htk,hpl,hnm,hnm3,hc0,hc1,hb2',hb3',hw213,hw212,hw211]; rfl) ?_
 refine E.lead { fr:=[(1,ptA n),(2,ptA (n + 1)),(3,iv e1)],sz:=50,H:=X,n:=n + 3,marks:=[],vs:=[1,2,5] } (.keep rfl rfl rfl (by simp) (Sub.cons (hXn _ (by omega)) (Sub.refl _))) ?_
 have hst:∀ e:Int,storeA X (n + 1) 0 [iv e]=some (hset X (n + 1) (.cells [iv e] 29)):=fun e=>store_at hc2 (i:=0) (Nat.zero_lt_one)
 have hrs:∀ e:Int,cellA (hset X (n + 1) (.cells [iv e] 29)) (n + 1) 0=some (iv e):=fun e=>by rw [cellA_eq,hget_hset,if_pos rfl,hc2]; rfl
 have hss:∀ e:Int,Sub (tidy n H) (hset X (n + 1) (.cells [iv e] 29)):=fun e=>sub_hset hS (hT _ (by omega))
 refine E.seq (E.reg hr0 (by simp; rfl) ?_)
 by_cases h1:e1=0
 rotate_left
 · rw [if_neg h1] at hE
   refine E.cond (t:=true) (by simp [h1]) (fun _=>?_) (fun h=>by cases h)
   refine E.seq (E.reg hr0 (by simp [-storeA,hst]; rfl) ?_)
   refine E.ret ?_
   show Ab.outM Tryz.prog Tryz.f191 (fun u H2 _=>u=iv (shtE s ts) ∧ Ab.Sub (tidy n H) H2) .ret _
   exact outM.ret (hset X (n + 1) (.cells [iv e1] 29)) rfl (vs:=[iv e1]) (by simp [-cellA,resultsA,resultA,Tryz.results191,hrs]) ⟨by rw [hE]; rfl,hss _⟩
 rw [if_pos h1] at hE
 refine E.cond (t:=false) (by simp [h1]) (fun h=>by cases h) (fun _=>?_)
 refine E.skip (E.seq ?_)
 refine E.seq ?_
 obtain ⟨e2,he2⟩:∃ e2,firstV (ts.map trcE)=e2:=⟨_,rfl⟩
 rw [he2] at hE
 have h214:g214 [.slice oa ts.length c,.func (.func 215) #[] #[]] X (n + 3)=some (outS (n + 3) ts.length,outSB (n + 3) 29 1 ts.length ((ts.map trcE).map iv) ++ X,n + 3 + 1):=by
   have h1:=listV_mono decT_mono hS ht
   have h2:dR X:=hS _ _ hR
   simp only [g214,h1,h2,and_self,if_true]
 have h211:∀ m,g211 [outS (n + 3) ts.length] (outSB (n + 3) 29 1 ts.length ((ts.map trcE).map iv) ++ X) m=some (iv e2,outSB (n + 3) 29 1 ts.length ((ts.map trcE).map iv) ++ X,m):=fun m=>by
   have:=intV_outS (N:=n + 3) (t:=29) (Z:=X) (l:=ts.map trcE) (by rw [List.length_map]; exact hlt)
   rw [List.length_map] at this
   simp only [g211,this,Option.map_some,he2]
 refine E.reg hr (by simp [-List.map_map,-cellA,hc1,h214,h211]; rfl) ?_
 refine E.lead { fr:=[(1,ptA n),(2,ptA (n + 1)),(4,iv e2)],sz:=50,H:=X,n:=n + 4,marks:=[],vs:=[1,2,5] } (.keep rfl rfl rfl (by simp) (Sub.app (fun x hx=>hXn _ (by have:=outSB_ge x hx; omega)) (Sub.refl _))) ?_
 refine E.seq (E.reg hr0 (by simp; rfl) ?_)
 by_cases h2:e2=0
 rotate_left
 · rw [if_neg h2] at hE
   refine E.cond (t:=true) (by simp [h2]) (fun _=>?_) (fun h=>by cases h)
   refine E.seq (E.reg hr0 (by simp [-storeA,hst]; rfl) ?_)
   refine E.ret ?_
   show Ab.outM Tryz.prog Tryz.f191 (fun u H2 _=>u=iv (shtE s ts) ∧ Ab.Sub (tidy n H) H2) .ret _
   exact outM.ret (hset X (n + 1) (.cells [iv e2] 29)) rfl (vs:=[iv e2]) (by simp [-cellA,resultsA,resultA,Tryz.results191,hrs]) ⟨by rw [hE]; rfl,hss _⟩
 rw [if_pos h2] at hE
 refine E.cond (t:=false) (by simp [h2]) (fun h=>by cases h) (fun _=>?_)
 refine E.skip (E.seq ?_)
 have h192:∀ m,g192 [.agg ⟨[.string s,.slice oa ts.length c]⟩] X m=some (.tuple #[iv (widF ts).1,.bool (widF ts).2],X,m):=fun m=>by
   simp only [g192,shtV_mono hS hv0]
 obtain ⟨W,hW⟩:∃ W,(widF ts).1=W:=⟨_,rfl⟩
 rw [hW] at h192 hE
 refine E.reg hr (by simp [-loadA,hl110,h192]; rfl) ?_
 refine E.seq (E.seq ?_)
 have hl':=load110 (H:=(n + 4,Blk.cells [iv W] 3) :: X) (n:=n) (s:=s) (u:=.slice oa ts.length c) (by rw [hget_cons,if_neg (by omega)]; exact hbx)
 refine E.reg hr (by simp [-loadA,hl',g216]; rfl) ?_
 refine E.block ?_
 refine E.lead { fr:=fr191 n,sz:=50,H:=(n + 5,Blk.cells [.string s,.slice oa ts.length c] 110) :: (n + 4,.cells [iv W] 3) :: X,n:=n + 6,marks:=[],vs:=[2,5] } (.keep rfl rfl rfl (by simp) (Sub.refl _)) ?_
 refine E.rangeX (x:=asg191) (y:=bdy191) rfl ent239 ?_
 obtain ⟨B,hB⟩:∃ B,(n + 5,Blk.cells [.string s,.slice oa ts.length c] 110) :: tidy n H=B:=⟨_,rfl⟩
 have hBb:hget B (n + 5)=some (.cells [.string s,.slice oa ts.length c] 110):=by rw [← hB,hget_cons,if_pos rfl]
 have hSB:Sub (tidy n H) B:=by rw [← hB]; exact Sub.cons (hT _ (by omega)) (Sub.refl _)
 have htB:trcV B (.slice oa ts.length c)=some ts:=listV_mono decT_mono hSB ht
 have hBlt:∀ k b,hget B k=some b → k < n + 8:=fun k b hk=>by
   rw [← hB,hget_cons] at hk
   split at hk
   · omega
   · have:=tidy_lt _ _ hk; omega
 have hBn:∀ j,n ≤ j → j ≠ n + 5 → hget B j=none:=fun j h1 h2=>by
   rw [← hB,hget_cons,if_neg (fun e=>h2 e.symm)]
   exact hT j h1
 have hstart:Kp B (n + 8) (fs191 n W 0 .ready none) ((n + 7,lb191 n .ready none) :: (n + 6,.defd) :: (n + 5,Blk.cells [.string s,.slice oa ts.length c] 110) :: (n + 4,.cells [iv W] 3) :: X) (n + 8):=by
   have hs0:Sub B ((n + 7,lb191 n .ready none) :: (n + 6,.defd) :: (n + 5,Blk.cells [.string s,.slice oa ts.length c] 110) :: (n + 4,.cells [iv W] 3) :: X):=fun k b hk=>by
     rw [← hB,hget_cons] at hk
     split at hk
     · rename_i e
       subst e
       injection hk with hk
       subst hk
       simp
     · have:=tidy_lt _ _ hk
       rw [hget_cons,if_neg (by omega),hget_cons,if_neg (by omega),hget_cons,if_neg (by omega),hget_cons,if_neg (by omega)]
       exact hS _ _ hk
   have hn0:namesOk (n + 8) ((n + 7,lb191 n .ready none) :: (n + 6,.defd) :: (n + 5,Blk.cells [.string s,.slice oa ts.length c] 110) :: (n + 4,.cells [iv W] 3) :: X)=true:=
     namesOk_put (by omega) (namesOk_put (by omega) (namesOk_put (by omega) (namesOk_put (by omega) (namesOk_mono (by omega) _ hnm))))
   refine ((((Kp.start hBlt hs0 hn0 (Nat.le_refl _)).more (l:=n + 4) (c:=.cells [iv W] 3) (by simp) (by omega) (hBn _ (by omega) (by omega)) (by simp)).more (l:=n + 1) (c:=.cells [iv 0] 29) ?_ (by omega) (hBn _ (by omega) (by omega)) (by simp)).more (l:=n + 7) (c:=lb191 n .ready none) (by simp) (by omega) (hBn _ (by omega) (by omega)) (by simp)).more (l:=n + 6) (c:=.defd) (by simp) (by omega) (hBn _ (by omega) (by omega)) (by simp)
   rw [hget_cons,if_neg (by omega),hget_cons,if_neg (by omega),hget_cons,if_neg (by omega),hget_cons,if_neg (by omega)]
   exact hc2
 obtain ⟨v',H',n',hAC,hend⟩:=it239 (B:=B) (l:=n + 7) (kb:=n + 5) hBb htB (fun i H N=>Kp B (n + 8) (fs191 n W 0 .ready none) H N ∧ ts.all (widB W)=(ts.drop i).all (widB W)) (fun H N=>Kp B (n + 8) (fs191 n W 2 .done (some .ret)) H N ∧ ts.all (widB W)=false) (fun i H N h=>h.1.sub) (fun i H N h=>h.1.lt)
   (fun i H N cs hi h hh=>⟨h.1.skip _,by rw [h.2,List.drop_eq_getElem_cons hi,List.all_cons,widB,hh,Bool.true_or,Bool.true_and]⟩)
   (fun i Hx N cs hi hI hh hl10 hd=>by
     obtain ⟨hI,hg⟩:=hI
     have hb:=hI.big
     obtain ⟨q,rfl,h8,hq⟩:=decT_form hd
     obtain ⟨oq,cq,rfl,hlq,_,_⟩:=reaV_form hq
     rw [List.drop_eq_getElem_cons hi,List.all_cons,widB,hh,Bool.false_or] at hg
     rw [hh]
     obtain ⟨a0,a1,a2,a3,a4,a5,a6,a7,hhd⟩:=len8 h8
     have hS1:=hI.skip (.cells (ts[i].hd.map iv ++ [.bool false,.slice oq ts[i].smp.length cq]) 159)
     obtain ⟨X1,hX1⟩:∃ X1,(N,Blk.cells (ts[i].hd.map iv ++ [.bool false,.slice oq ts[i].smp.length cq]) 159) :: Hx=X1:=⟨_,rfl⟩
     rw [hX1] at hS1 ⊢
     refine (yieldF_ex (K:=fun b H' N'=>if b=true then Kp B (n + 8) (fs191 n W 0 .ready none) H' N' ∧ ts.all (widB W)=(ts.drop (i + 1)).all (widB W) else Kp B (n + 8) (fs191 n W 2 .done (some .ret)) H' N' ∧ ts.all (widB W)=false) (hS1.at' 1 _ rfl) rfl (fun c h=>by cases h) (fun c h=>by cases h) ?_)
     rw [hhd]
     refine E.reg hr0 (by simp; rfl) ?_
     have hS2:=hS1.skip (.cells [iv a0,iv a1,iv a2,iv a3,iv a4,iv a5,iv a6,iv a7,.bool false,.slice oq ts[i].smp.length cq] 159)
     refine ⟨rfl,hS2.at' 1 _ rfl,?_⟩
     have hY:=hS2.put 1 rfl (lb191 n .busy none)
     have hy9:cellA (hset ((N + 1,Blk.cells [iv a0,iv a1,iv a2,iv a3,iv a4,iv a5,iv a6,iv a7,.bool false,.slice oq ts[i].smp.length cq] 159) :: X1) (n + 7) (lb191 n .busy none)) (N + 1) 9=some (.slice oq ts[i].smp.length cq):=by
       rw [cellA_eq,hget_hset,if_neg (by omega),hget_cons,if_pos rfl]
       rfl
     obtain ⟨Y,hYe⟩:∃ Y,hset ((N + 1,Blk.cells [iv a0,iv a1,iv a2,iv a3,iv a4,iv a5,iv a6,iv a7,.bool false,.slice oq ts[i].smp.length cq] 159) :: X1) (n + 7) (lb191 n .busy none)=Y:=⟨_,rfl⟩
     rw [hYe] at hY hy9 ⊢
     have hy5:cellA Y (n + 4) 0=some (iv W):=hY.cell 3 rfl 0
     refine E.block (E.seq ?_)
     by_cases hw:(ts[i].smp.length:Int)=W
     · refine E.reg hr0 (by simp [-cellA,hy9,hy5,hw]; rfl) ?_
       refine E.cond (t:=false) (by simp) (fun h=>by cases h) (fun _=>?_)
       refine E.skip ?_
       rw [decide_eq_true hw,Bool.true_and] at hg
       exact ⟨hY.at' 1 _ rfl,.inl ⟨rfl,hY.put 1 rfl (lb191 n .ready none),hg⟩⟩
     · refine E.reg hr0 (by simp [-cellA,hy9,hy5,hw]; rfl) ?_
       refine E.cond (t:=true) (by simp) (fun _=>?_) (fun h=>by cases h)
       refine E.seq ?_
       have s1:=hY.store 2 (v:=iv 2) rfl
       have hZ:=hY.put 2 rfl (.cells [iv 2] 29)
       refine E.reg hr0 (by simp [-storeA,s1]; rfl) ?_
       refine E.ret ?_
       rw [decide_eq_false hw,Bool.false_and] at hg
       exact ⟨hZ.at' 1 _ rfl,.inr ⟨rfl,hZ.put 1 rfl (lb191 n .done (some .ret)),hg⟩⟩)
   ⟨hstart,by rw [List.drop_zero]⟩
 refine ⟨v',H',n',hAC,?_⟩
 rcases hend with ⟨hI,hg⟩ | ⟨hI,hg⟩
 · refine .inl ⟨hI.at' 1 _ rfl,?_⟩
   rw [List.drop_length,List.all_nil] at hg
   rw [hg,if_pos rfl] at hE
   have hY:=hI.put 1 rfl (lb191 n .exhausted none)
   obtain ⟨Y,hYe⟩:∃ Y,hset H' (n + 7) (lb191 n .exhausted none)=Y:=⟨_,rfl⟩
   show E Tryz.prog n none _ { fr:=fr191 n,sz:=50,H:=hset H' (n + 7) (lb191 n .exhausted none),n:=n',marks:=[n + 6],vs:=[2,5] } _
   rw [hYe] at hY ⊢
   have s1:=hY.store 2 (v:=iv 0) rfl
   have hZ:=hY.put 2 rfl (.cells [iv 0] 29)
   refine E.seq (E.reg hr0 (by simp [-storeA,s1]; rfl) ?_)
   refine E.ret ?_
   have d:cellA (hdel (hset Y (n + 1) (.cells [iv 0] 29)) (n + 6)) (n + 1) 0=some (iv 0):=by rw [cellA_eq,hget_hdel,if_neg (by omega),hZ.at' 2 _ rfl]; rfl
   exact outM.ret _ (shut_one (hZ.at' 0 _ rfl)) (vs:=[iv 0]) (by simp [-cellA,resultsA,resultA,Tryz.results191,d]) ⟨by rw [hE]; rfl,hSB.trans hZ.del⟩
 · refine .inr ⟨hI.at' 1 _ rfl,?_⟩
   rw [hg,if_neg (by decide)] at hE
   have hY:=hI.put 1 rfl (lb191 n .exhausted (some .ret))
   obtain ⟨Y,hYe⟩:∃ Y,hset H' (n + 7) (lb191 n .exhausted (some .ret))=Y:=⟨_,rfl⟩
   show Ab.outM Tryz.prog Tryz.f191 (fun u H2 _=>u=iv (shtE s ts) ∧ Ab.Sub (tidy n H) H2) .ret { fr:=fr191 n,sz:=50,H:=hset H' (n + 7) (lb191 n .exhausted (some .ret)),n:=n',marks:=[n + 6],vs:=[2,5] }
   rw [hYe] at hY ⊢
   have d:cellA (hdel Y (n + 6)) (n + 1) 0=some (iv 2):=by rw [cellA_eq,hget_hdel,if_neg (by omega),hY.at' 2 _ rfl]; rfl
   exact outM.ret _ (shut_one (hY.at' 0 _ rfl)) (vs:=[iv 2]) (by simp [-cellA,resultsA,resultA,Tryz.results191,d]) ⟨by rw [hE]; rfl,hSB.trans hY.del⟩
open Classical in
noncomputable def g191 (args:List Value) (H:Heap) (n:Nat):R:=match args with
 | [v]=>match shtV H v with
   | some x=>if dR H then some (iv (shtE x.1 x.2),H,n) else none
   | none=>none
 | _=>none
theorem ok191:EntOk Tryz.prog (191,g191):=by
 intro args H n v H' n' h
 simp only [g191] at h
 split at h
 · split at h
   · rename_i x hx
     split at h
     · rename_i hR
       injection h with h; injection h with e1 e2; injection e2 with e2 e3; subst e1 e2 e3
       exact w191 (s:=x.1) (ts:=x.2) hR hx
     · cases h
   · cases h
 · cases h
def widE (s:ByteArray) (ts:List Trc):Int:=if shtE s ts=0 then (widF ts).1 else 0
set_option maxHeartbeats 600000 in
set_option maxRecDepth 50000 in
theorem w168 {H:Heap} {n:Nat} {v:Value} {s:ByteArray} {ts:List Trc} (hR:dR H) (hv:shtV H v=some (s,ts)):AC Tryz.prog 168 [v] H n (.tuple #[iv (widE s ts),iv (shtE s ts)]) H n:=by
 refine AC.given fun hold hsc hgn=>AC.tidied (B:=[]) (by simp) ?_
 replace hv:=shtV_tidy (fun k b h=>(hold k b h).1) hv
 have h1n:1 < n:=by rw [gsz] at hgn; omega
 replace hR:hget (tidy n H) 1=some (.inp 0 rangesV):=hget_tidy.2 ⟨hR,h1n,rfl⟩
 have hr:=recT_ok (P:=Tryz.prog) (l:=[(191,g191),(192,g192)]) (by simp only [List.forall_mem_cons]; exact ⟨ok191,ok192,by simp⟩)
 have hv2:=hv
 obtain ⟨u,rfl,ht⟩:=shtV_form hv
 obtain ⟨X,hX⟩:∃ X,(n,Blk.cells [.string s,u] 110) :: tidy n H=X:=⟨_,rfl⟩
 have hS:Sub (tidy n H) X:=by rw [← hX]; exact Sub.cons (by simp) (Sub.refl _)
 have hb:hget X n=some (.cells [.string s,u] 110):=by rw [← hX,hget_cons,if_pos rfl]
 have hld:=load110 hb
 have hRX:dR X:=hS _ _ hR
 have h191:∀ m,g191 [.agg ⟨[.string s,u]⟩] X m=some (iv (shtE s ts),X,m):=fun m=>by
   simp only [g191,shtV_mono hS hv2,hRX,if_true]
 have h192:∀ m,g192 [.agg ⟨[.string s,u]⟩] X m=some (.tuple #[iv (widF ts).1,.bool (widF ts).2],X,m):=fun m=>by
   simp only [g192,shtV_mono hS hv2]
 have hE:widE s ts=if shtE s ts=0 then (widF ts).1 else 0:=rfl
 obtain ⟨e,he⟩:∃ e,shtE s ts=e:=⟨_,rfl⟩
 rw [he] at h191 hE
 refine AC.pure Tryz.func168 rfl (by kernel_rfl) rfl [1,2,3] rfl ?_
 refine E.seq (E.reg hr (by simp; rfl) ?_)
 rw [hX]
 refine E.seq (E.seq (E.reg hr (by simp [-loadA,hld,h191]; rfl) ?_))
 refine E.seq (E.reg hr (by simp; rfl) ?_)
 by_cases hz:e=0
 · rw [if_pos hz] at hE
   refine E.cond (t:=false) (by simp [hz]) (fun h=>by cases h) (fun _=>?_)
   refine E.skip (E.seq (E.reg hr (by simp [-loadA,hld,h192]; rfl) ?_))
   refine E.seq (E.reg hr (by simp; rfl) ?_)
   refine E.ret ?_
   exact pureK.ret rfl rfl (by rw [hE,he,hz]; rfl) hS
 · rw [if_neg hz] at hE
   refine E.cond (t:=true) (by simp [hz]) (fun _=>?_) (fun h=>by cases h)
   refine E.seq (E.reg hr (by simp; rfl) ?_)
   refine E.ret ?_
   exact pureK.ret rfl rfl (by rw [hE,he]; rfl) hS
open Classical in
noncomputable def g168 (args:List Value) (H:Heap) (n:Nat):R:=match args with
 | [v]=>match shtV H v with
   | some x=>if dR H then some (.tuple #[iv (widE x.1 x.2),iv (shtE x.1 x.2)],H,n) else none
   | none=>none
 | _=>none
theorem ok168:EntOk Tryz.prog (168,g168):=by
 intro args H n v H' n' h
 simp only [g168] at h
 split at h
 · split at h
   · rename_i x hx
     split at h
     · rename_i hR
       injection h with h; injection h with e1 e2; injection e2 with e2 e3; subst e1 e2 e3
       exact w168 (s:=x.1) (ts:=x.2) hR hx
     · cases h
   · cases h
 · cases h
set_option maxHeartbeats 1000000 in
set_option maxRecDepth 50000 in
theorem w193 {H:Heap} {n:Nat} {cs:List Value} {t:Trc} (hR:dR H) (ht:decT H cs=some t) (hz:trcE t=0):AC Tryz.prog 193 [.agg ⟨cs⟩] H n (.tuple #[iv (offV t.hd),iv 0]) H n:=by
 refine AC.given fun hold hsc hgn=>AC.tidied (B:=[]) (by simp) ?_
 replace ht:decT (tidy n H) cs=some t:=decT_tidy _ _ _ _ (fun k b h=>(hold k b h).1) ht
 have h1n:1 < n:=by rw [gsz] at hgn; omega
 replace hR:hget (tidy n H) 1=some (.inp 0 rangesV):=hget_tidy.2 ⟨hR,h1n,rfl⟩
 have hr:=recT_ok (P:=Tryz.prog) (l:=[(215,g215)]) (by simp [ok215])
 have ht2:=ht
 obtain ⟨q,rfl,h8,hq⟩:=decT_form ht
 obtain ⟨X,hX⟩:∃ X,(n,Blk.cells (t.hd.map iv ++ [.bool t.hole,q]) 159) :: tidy n H=X:=⟨_,rfl⟩
 have hS:Sub (tidy n H) X:=by rw [← hX]; exact Sub.cons (by simp) (Sub.refl _)
 have hnm:namesOk (n + 1) X=true:=by rw [← hX]; exact namesOk_put (by omega) (by simp)
 have hbx:hget X n=some (.cells (t.hd.map iv ++ [.bool t.hole,q]) 159):=by rw [← hX,hget_cons,if_pos rfl]
 have hlen:(t.hd.map iv ++ [Value.bool t.hole,q]).length=10:=by rw [List.length_append,List.length_map,h8]; rfl
 have hcsA:cellsA X n 0 10=some (t.hd.map iv ++ [.bool t.hole,q]):=by
   rw [cellsA_eq,hbx]
   simp only [Option.bind_some,cellsB]
   rw [if_pos (by rw [hlen]; omega),List.drop_zero,List.take_of_length_le (by rw [hlen]; omega)]
 have hld:=load159 hcsA
 have hRX:dR X:=hS _ _ hR
 have h215:∀ m,g215 [.agg ⟨t.hd.map iv ++ [.bool t.hole,q]⟩] X m=some (iv 0,X,m):=fun m=>by
   simp only [g215,decT_mono _ _ _ _ hS ht2,hRX,if_true,hz]
 have hb:hdE t.hd=0:=by
   unfold trcE at hz
   split at hz
   · assumption
   · rename_i h; exact absurd hz h
 have hc:∀ i,i < 8 → cellA X n i=some (iv (t.hd.getD i 0)):=fun i hi=>by
   rw [cellA_eq,hbx]
   show (t.hd.map iv ++ _)[i]? = _
   rw [List.getElem?_append_left (by rw [List.length_map]; omega),List.getElem?_map,List.getD_eq_getElem?_getD,List.getElem?_eq_getElem (by omega)]
   rfl
 have c0:=hc 0 (by omega)
 have c1:=hc 1 (by omega)
 have c2:=hc 2 (by omega)
 have c3:=hc 3 (by omega)
 obtain ⟨b4,b5,b6⟩:=off_bound hb
 have b0:=b4 0 (by omega)
 have b1:=b4 1 (by omega)
 have b2:=b4 2 (by omega)
 have b3:=b4 3 (by omega)
 have hoff:offV t.hd=(t.hd.getD 2 0 - t.hd.getD 0 0) * (t.hd.getD 2 0 - t.hd.getD 0 0) + (t.hd.getD 3 0 - t.hd.getD 1 0) * (t.hd.getD 3 0 - t.hd.getD 1 0):=rfl
 generalize t.hd.getD 0 0=x0 at c0 b0 hoff
 generalize t.hd.getD 1 0=x1 at c1 b1 hoff
 generalize t.hd.getD 2 0=x2 at c2 b2 hoff
 generalize t.hd.getD 3 0=x3 at c3 b3 hoff
 have sq:∀ x:Int,-200000 ≤ x → x ≤ 200000 → 0 ≤ x * x ∧ x * x ≤ 40000000000:=fun x h1 h2=>by
   have h3:x * x=(x.natAbs:Int) * (x.natAbs:Int):=(Int.natAbs_mul_self' x).symm
   have h4:x.natAbs ≤ 200000:=by omega
   have h5:x.natAbs * x.natAbs ≤ 200000 * 200000:=Nat.mul_le_mul h4 h4
   rw [h3]
   omega
 have s1:=sq (x2 - x0) (by omega) (by omega)
 have s2:=sq (x3 - x1) (by omega) (by omega)
 have w1:IntKind.i64.wrap (x2 - x0)=x2 - x0:=W_in (by omega) (by omega)
 have w2:IntKind.i64.wrap (x3 - x1)=x3 - x1:=W_in (by omega) (by omega)
 have w3:IntKind.i64.wrap ((x2 - x0) * (x2 - x0))=(x2 - x0) * (x2 - x0):=W_in (by omega) (by omega)
 have w4:IntKind.i64.wrap ((x3 - x1) * (x3 - x1))=(x3 - x1) * (x3 - x1):=W_in (by omega) (by omega)
 have w5:IntKind.i64.wrap ((x2 - x0) * (x2 - x0) + (x3 - x1) * (x3 - x1))=(x2 - x0) * (x2 - x0) + (x3 - x1) * (x3 - x1):=W_in (by omega) (by omega)
 refine AC.pure Tryz.func193 rfl (by kernel_rfl) rfl [1,2,3,5,6] rfl ?_
 refine E.seq (E.reg hr (by simp; rfl) ?_)
 rw [hX]
 refine E.seq (E.seq (E.reg hr (by simp [-loadA,hld,h215]; rfl) ?_))
 refine E.seq (E.reg hr (by simp; rfl) ?_)
 refine E.cond (t:=false) (by simp) (fun h=>by cases h) (fun _=>?_)
 refine E.skip (E.seq ?_)
 refine E.drawU mixed hr [] [] [2,5,9,12] (by kernel_rfl) (by simp [-cellA,-readA,cellA_read,hnm,c0,c1,c2,c3,w1,w2]; rfl) ?_
 refine E.seq (E.reg hr (by simp [w3,w4,w5]; rfl) ?_)
 refine E.ret ?_
 exact pureK.ret rfl rfl (by rw [hoff]; rfl) hS
open Classical in
noncomputable def g193 (args:List Value) (H:Heap) (n:Nat):R:=match args with
 | [.agg a]=>match decT H a.toList with
   | some t=>if dR H ∧ trcE t=0 then some (.tuple #[iv (offV t.hd),iv 0],H,n) else none
   | none=>none
 | _=>none
theorem ok193:EntOk Tryz.prog (193,g193):=by
 intro args H n v H' n' h
 simp only [g193] at h
 split at h
 · split at h
   · rename_i t ht
     split at h
     · rename_i hR
       injection h with h; injection h with e1 e2; injection e2 with e2 e3; subst e1 e2 e3
       exact w193 hR.1 ht hR.2
     · cases h
   · cases h
 · cases h
set_option maxRecDepth 50000 in
theorem w170 {H:Heap} {n:Nat} {cs:List Value} {t:Trc} (hR:dR H) (ht:decT H cs=some t) (hz:trcE t=0):AC Tryz.prog 170 [.agg ⟨cs⟩] H n (iv (offV t.hd)) H n:=by
 refine AC.given fun hold hsc hgn=>AC.tidied (B:=[]) (by simp) ?_
 replace ht:decT (tidy n H) cs=some t:=decT_tidy _ _ _ _ (fun k b h=>(hold k b h).1) ht
 have h1n:1 < n:=by rw [gsz] at hgn; omega
 replace hR:hget (tidy n H) 1=some (.inp 0 rangesV):=hget_tidy.2 ⟨hR,h1n,rfl⟩
 have hr:=recT_ok (P:=Tryz.prog) (l:=[(193,g193)]) (by simp [ok193])
 have ht2:=ht
 obtain ⟨q,rfl,h8,hq⟩:=decT_form ht
 obtain ⟨X,hX⟩:∃ X,(n,Blk.cells (t.hd.map iv ++ [.bool t.hole,q]) 159) :: tidy n H=X:=⟨_,rfl⟩
 have hS:Sub (tidy n H) X:=by rw [← hX]; exact Sub.cons (by simp) (Sub.refl _)
 have hbx:hget X n=some (.cells (t.hd.map iv ++ [.bool t.hole,q]) 159):=by rw [← hX,hget_cons,if_pos rfl]
 have hlen:(t.hd.map iv ++ [Value.bool t.hole,q]).length=10:=by rw [List.length_append,List.length_map,h8]; rfl
 have hcsA:cellsA X n 0 10=some (t.hd.map iv ++ [.bool t.hole,q]):=by
   rw [cellsA_eq,hbx]
   simp only [Option.bind_some,cellsB]
   rw [if_pos (by rw [hlen]; omega),List.drop_zero,List.take_of_length_le (by rw [hlen]; omega)]
 have hld:=load159 hcsA
 have hRX:dR X:=hS _ _ hR
 have h193:∀ m,g193 [.agg ⟨t.hd.map iv ++ [.bool t.hole,q]⟩] X m=some (.tuple #[iv (offV t.hd),iv 0],X,m):=fun m=>by
   simp only [g193,decT_mono _ _ _ _ hS ht2,hRX,hz,and_self,if_true]
 refine AC.pure Tryz.func170 rfl (by kernel_rfl) rfl [2] rfl ?_
 refine E.seq (E.reg hr (by simp; rfl) ?_)
 rw [hX]
 refine E.seq (E.reg hr (by simp [-loadA,hld,h193]; rfl) ?_)
 refine E.seq (E.reg hr (by simp; rfl) ?_)
 refine E.ret ?_
 exact pureK.ret rfl rfl rfl hS
open Classical in
noncomputable def g170 (args:List Value) (H:Heap) (n:Nat):R:=match args with
 | [.agg a]=>match decT H a.toList with
   | some t=>if dR H ∧ trcE t=0 then some (iv (offV t.hd),H,n) else none
   | none=>none
 | _=>none
theorem ok170:EntOk Tryz.prog (170,g170):=by
 intro args H n v H' n' h
 simp only [g170] at h
 split at h
 · split at h
   · rename_i t ht
     split at h
     · rename_i hR
       injection h with h; injection h with e1 e2; injection e2 with e2 e3; subst e1 e2 e3
       exact w170 hR.1 ht hR.2
     · cases h
   · cases h
 · cases h
end Go.Proofs.YtkongcnmkiihjaaGreatDoor
