/-
From a contract of the evaluator's to the seat's statements; a world in which the laid variables lie.
-/
import Derived.Test.YtkongcnmkiihjaaGreatDoorCards
import Derived.Test.YtkongcnmkiihjaaGreatDoorTie
import Derived.WalkKit
import Derived.ProofKit
import Derived.OpenShut
import Derived.Deep.DeepHandedRow
import Derived.Lib.LaidTab
import Derived.LaidSub
import Derived.Carry
import Derived.Test.YtkongcnmkiihjaaGreatDoorJa
namespace Go.Proofs.YtkongcnmkiihjaaGreatDoor
open Go Go.Ab Go.Proofs Go.ChangeShapes Go.WideShapes Go.ChangeAt Go.RowKit
theorem own:ownKnob Tryz.prog.godebug=none:=by kernel_rfl
theorem laidOutT:laidOutB Tryz.prog=true:=by kernel_rfl
theorem lies_of {w:World} {g:Nat} {cs:List Value} (hne:cs ≠ []) (h:∀ i,i < cs.length → w.cell? ⟨g,i,none⟩=cs[i]?):Lies w g cs:=by
 have h0:=h 0 (by cases cs with | nil=>exact absurd rfl hne | cons=>simp)
 unfold World.cell? at h0
 have hc:cs[0]? ≠ none:=by cases cs with | nil=>exact absurd rfl hne | cons=>simp
 split at h0
 · rename_i c t fz hw
   refine ⟨c,t,fz,hw,fun i hi=>?_⟩
   have:=h i hi
   unfold World.cell? at this
   rw [hw] at this
   simpa using this
 · exact absurd h0.symm hc
theorem cells_of_ints {H : Type} {enc : TypeId × Value → H} {P : Program} {w : World} {base : Nat} {sp : Nat → Bool} {held : Bool} {fuel : Nat} {t e : TypeId} {n : Nat} {k : IntKind} {cs : List Value} {zs : List Int} {p : List MemPlace}
   (ht:P.underlying t=some (.array n e)) (he:P.underlying e=some (.int k)) (hce:P.cellsOf e=1) (hct:P.cellsOf t=n)
   (h:DataW.trod enc P w base sp held fuel t cs=some (.agg (zs.map fun z=>.lit (.int k z)),p)):cs=zs.map fun z=>Value.int k z:=by
 obtain ⟨xs,m,rfl,hx,hl,hxl,hf⟩:=DataW.trod_array ht h
 have hxs:xs.map (·.1)=zs.map fun z=>(DataW.lit (.int k z):DataW H):=by
   have:=congrArg Prod.fst hx
   simpa using this.symm
 rw [hct] at hl
 have hzl:zs.length=n:=by
   have:=congrArg List.length hxs
   simp at this
   omega
 apply List.ext_getElem?
 intro i
 by_cases hi:i < n
 · have hfi:=hf i hi
   rw [hce,Nat.mul_one] at hfi
   obtain ⟨y,hy⟩:∃ y,xs[i]? = some y:=⟨xs[i],by simp⟩
   rw [hy] at hfi
   obtain ⟨z,hc,rfl,_⟩:=DataW.trod_int he hfi
   have h1:cs[i]? = some (.int k z):=by
     have:=congrArg (·[0]?) hc
     simpa [List.getElem?_take,List.getElem?_drop] using this
   have h2:(xs.map (·.1))[i]? = some (DataW.lit (.int k z):DataW H):=by simp [hy]
   rw [hxs] at h2
   simp only [List.getElem?_map,Option.map_eq_some_iff,DataW.lit.injEq,Lit.int.injEq] at h2
   obtain ⟨z',hz',_,hz2⟩:=h2
   rw [h1,List.getElem?_map,hz',Option.map_some,hz2]
 · rw [List.getElem?_eq_none (by omega),List.getElem?_eq_none (by simp; omega)]
theorem pairs_flat (f:Int → Value):∀ (zs:List (Int × Int)) (cs:List Value),cs.length=zs.length * 2 → (∀ i z,zs[i]? = some z → (cs.drop (i * 2)).take 2=[f z.1,f z.2]) → cs=zs.flatMap fun z=>[f z.1,f z.2]
 | [],cs,hl,_=>by
   simp at hl
   simp [hl]
 | z :: zs,cs,hl,h=>by
   have h0:=h 0 z rfl
   rw [Nat.zero_mul,List.drop_zero] at h0
   have ih:=pairs_flat f zs (cs.drop 2) (by simp at hl ⊢; omega) fun i y hy=>by
     have:=h (i + 1) y (by simpa using hy)
     rw [List.drop_drop,show 2 + i * 2=(i + 1) * 2 by omega]
     exact this
   rw [List.flatMap_cons,← ih,← h0,List.take_append_drop]
theorem cells_of_pairs {H : Type} {enc : TypeId × Value → H} {P : Program} {w : World} {base : Nat} {sp : Nat → Bool} {held : Bool} {fuel : Nat} {t e e2 : TypeId} {n : Nat} {k : IntKind} {cs : List Value} {zs : List (Int × Int)} {p : List MemPlace}
   (ht:P.underlying t=some (.array n e)) (he:P.underlying e=some (.array 2 e2)) (he2:P.underlying e2=some (.int k)) (hce2:P.cellsOf e2=1) (hce:P.cellsOf e=2) (hct:P.cellsOf t=n * 2)
   (h:DataW.trod enc P w base sp held fuel t cs=some (.agg (zs.map fun z=>.agg [.lit (.int k z.1),.lit (.int k z.2)]),p)):cs=zs.flatMap fun z=>[Value.int k z.1,Value.int k z.2]:=by
 obtain ⟨xs,m,rfl,hx,hl,hxl,hf⟩:=DataW.trod_array ht h
 have hxs:xs.map (·.1)=zs.map fun z=>(DataW.agg [.lit (.int k z.1),.lit (.int k z.2)]:DataW H):=by
   have:=congrArg Prod.fst hx
   simpa using this.symm
 rw [hct] at hl
 have hzl:zs.length=n:=by
   have:=congrArg List.length hxs
   simp at this
   omega
 refine pairs_flat (Value.int k) zs cs (by omega) fun i z hz=>?_
 have hi:i < n:=by have:=(List.getElem?_eq_some_iff.1 hz).1; omega
 have hfi:=hf i hi
 rw [hce] at hfi
 obtain ⟨y,hy⟩:∃ y,xs[i]? = some y:=⟨xs[i],by simp⟩
 have h2:(xs.map (·.1))[i]? = some y.1:=by simp [hy]
 rw [hxs,List.getElem?_map,hz] at h2
 rw [hy] at hfi
 obtain ⟨d,q⟩:=y
 simp only [Option.map_some,Option.some.injEq] at h2
 subst h2
 exact cells_of_ints (zs:=[z.1,z.2]) he he2 hce2 hce hfi
abbrev laidAll:List (String × DataW Unit):=Rows.velocityHyperbolasRow.laid
theorem gFree:Tryz.prog.globalNamed "moveout/velocity.free" = some 0:=by kernel_rfl
theorem gFreeT:(Tryz.prog.globals[0]?).map (·.type)=some 45:=by kernel_rfl
theorem gRanges:Tryz.prog.globalNamed "moveout/trace.ranges" = some 1:=by kernel_rfl
theorem gRangesT:(Tryz.prog.globals[1]?).map (·.type)=some 298:=by kernel_rfl
def ranges8:List (Int × Int):=[(-100000,100000),(-100000,100000),(-100000,100000),(-100000,100000),(0,100000),(-999999999,999999999),(-999999999,999999999),(-999999999,999999999)]
theorem lies1 {W:World} (h:laidMetH Tryz.prog laidAll W):Lies W 1 rangesV:=by
 have h1:laidMet Tryz.prog [("moveout/trace.ranges",Rows.laid_moveout_trace_ranges)] W:=laidMetH.filter (fun x=>x.1 == "moveout/trace.ranges") h
 obtain ⟨ps,⟨g',t',cs,fuel,p,q,hg',ht',hvar,hd,_,_⟩,_⟩:=h1
 obtain rfl:=Option.some.inj (gRanges.symm.trans hg')
 obtain rfl:=Option.some.inj (gRangesT.symm.trans ht')
 have hc:=cells_of_pairs (zs:=ranges8) Tryz.underlying298 Tryz.underlying76 Tryz.underlying3 (by kernel_rfl) (by kernel_rfl) (by kernel_rfl) hd
 have hn:rangesV=ranges8.flatMap fun z=>[Value.int .i64 z.1,Value.int .i64 z.2]:=by kernel_rfl
 exact lies_of (by simp [rangesV]) fun i hi=>by
   rw [World.var?_cell gRanges hvar i,← Array.getElem?_toList,hc,hn]
theorem lies0 {W:World} (h:laidMetH Tryz.prog laidAll W):Lies W 0 freeV:=by
 have h1:laidMet Tryz.prog [("moveout/velocity.free",Rows.laid_moveout_velocity_free)] W:=laidMetH.filter (fun x=>x.1 == "moveout/velocity.free") h
 obtain ⟨ps,⟨g',t',cs,fuel,p,q,hg',ht',hvar,hd,_,_⟩,_⟩:=h1
 obtain rfl:=Option.some.inj (gFree.symm.trans hg')
 obtain rfl:=Option.some.inj (gFreeT.symm.trans ht')
 obtain ⟨⟨d0,p0⟩,⟨d1,p1⟩,n,hx,hl,h0,h1⟩:=trod_struct2 Tryz.underlying45 hd
 simp only [Prod.mk.injEq,Rows.laid_moveout_velocity_free,DataW.agg.injEq,List.cons.injEq,and_true] at hx
 obtain ⟨⟨e0,e1⟩,_⟩:=hx
 subst e0 e1
 obtain ⟨z0,hc0,hz0,_⟩:=DataW.trod_int Tryz.underlying3 h0
 obtain ⟨z1,hc1,hz1,_⟩:=DataW.trod_int Tryz.underlying3 h1
 simp only [Prod.mk.injEq,DataW.lit.injEq,Lit.int.injEq,true_and] at hz0 hz1
 obtain ⟨rfl,_⟩:=hz0
 obtain ⟨rfl,_⟩:=hz1
 exact lies_of (by simp [freeV]) fun i hi=>by
   rw [World.var?_cell gFree hvar i,← Array.getElem?_toList]
   match i,hi with
   | 0,_=>
     have:=congrArg (·[0]?) hc0
     simpa [freeV,List.getElem?_take,List.getElem?_drop,show Tryz.prog.cellsOf 3=1 by kernel_rfl] using this
   | 1,_=>
     have:=congrArg (·[0]?) hc1
     simpa [freeV,List.getElem?_take,List.getElem?_drop,show Tryz.prog.cellsOf 3=1 by kernel_rfl] using this
abbrev G0:Heap:=[(1,.inp 0 rangesV),(0,.inp 0 freeV)]
theorem af_rangesV:afL rangesV=true:=by kernel_rfl
theorem af_freeV:afL freeV=true:=by kernel_rfl
theorem trodAll_stays {H : Type} {enc : TypeId × Value → H} {P : Program} (hl : laidOutB P = true) {W W' : World} {sp : Nat → Bool} : ∀ (ts : List TypeId) (vs : List Value) (ds : List (DataW H)) (ps : List MemPlace), (∀ t ∈ ts, P.readableRec t = true ∧ t < P.types.size) →
   DataW.TrodAll enc P W 0 (fun _=>true) true ts vs ds ps → (∀ p ∈ ps,W.sameAt W' p) → (∀ p ∈ ps,sp p.block=true) → DataW.TrodAll enc P W' 0 sp true ts vs ds ps
 | [],vs,ds,ps,_,h,_,_=>by
   obtain ⟨rfl,rfl,rfl⟩:=trodAll_nil h
   exact trodAll_mk0
 | t :: ts,vs,ds,ps,ht,h,h1,h2=>by
   obtain ⟨v,vs',d,ds',p,q,rfl,rfl,rfl,h1x,h4⟩:=trodAll_cons h
   have:=ht t (List.mem_cons_self ..)
   exact trodAll_cons_mk (WideElems.Trod_stays hl this.1 this.2 h1x (fun x hx=>h1 x (List.mem_append_left _ hx)) (fun x hx=>h2 x (List.mem_append_left _ hx)))
     (trodAll_stays hl ts vs' ds' q (fun t ht'=>ht t (List.mem_cons_of_mem _ ht')) h4 (fun x hx=>h1 x (List.mem_append_right _ hx)) (fun x hx=>h2 x (List.mem_append_right _ hx)))
theorem lawPost {H : Type} {enc : TypeId × Value → H} {f : Func} {s : ChangeSpec} {W W' : World} {args : Array Value} {ds gs : List (DataW H)} {before : List MemPlace} (hread : ∀ t ∈ f.params.toList, Tryz.prog.readableRec t = true ∧ t < Tryz.prog.types.size)
   (hvars:s.vars=[]) (hfn:s.fn H ds = { results:=[.lit (.bool true)],args:=ds }) (hres:f.resultTypes=#[4]) (hW:DataW.Whole enc Tryz.prog f.params.toList s.vars false W args.toList ds gs before) (hb:Below W.heap.size W W') :
   s.post enc Tryz.prog f false true false false W args (.bool true) W':=by
 have hlt:=hW.lt
 have hW':=hW
 obtain ⟨p,q,hA,hV,rfl,_,_⟩:=hW
 rw [hvars] at hV
 obtain ⟨rfl,rfl⟩:=trodVars_none hV
 simp only [List.append_nil] at hlt
 refine ⟨ds,[],p ++ [],[],p,[],hW',?_,?_,?_,hb.frame _,fun h=>by cases h⟩
 · rw [List.append_nil,hfn,hres]
   exact trodAll_cons_mk (shut_bool Tryz.underlying4 _) trodAll_mk0
 · rw [List.append_nil,hfn]
   exact trodAll_stays laidOutT _ _ _ _ hread hA (fun x hx=>hb.same (hlt x hx)) (fun x hx=>by simpa using hlt x hx)
 · rw [List.append_nil,hfn,hvars]
   rfl
def tab3:List Value:=(List.range 20).map fun (i:Nat)=>.int .u64 (10 ^ i)
def tab7:List Value:=[0,1,28,2,29,14,24,3,30,22,20,15,25,17,4,8,31,27,13,23,21,19,16,7,26,12,18,6,11,5,10,9].map fun (i:Nat)=>.int .u8 i
def tab8:List Value:=[0,1,56,2,57,49,28,3,61,58,42,50,38,29,17,4,62,47,59,36,45,43,51,22,53,39,33,30,24,18,12,5,63,55,48,27,60,41,37,16,46,35,44,21,52,32,23,11,54,26,40,15,34,20,31,10,25,14,19,9,13,8,7,6].map fun (i:Nat)=>.int .u8 i
def layIn (cs:List Value):Obj → Obj
 | .cells _ t frozen=>.cells cs.toArray t frozen
 | o=>o
noncomputable def laidWorld (os:Os):World:=
 { World.holding Tryz.prog os ⟨#[],#[],[]⟩ with heap:=(((((World.holding Tryz.prog os ⟨#[],#[],[]⟩).heap.modify 0 (layIn freeV)).modify 1 (layIn rangesV)).modify 3 (layIn tab3)).modify 7 (layIn tab7)).modify 8 (layIn tab8) }
theorem laid_met3 (os:Os) (a b c:Value):laidMet Tryz.prog laidAll ((laidWorld os).forCall (fun _ _=>0) ⟨#[],#[a,b,c],[]⟩).memory:=
 laidMet_of_run' 8 (by kernel_rfl) (by kernel_rfl)
end Go.Proofs.YtkongcnmkiihjaaGreatDoor
