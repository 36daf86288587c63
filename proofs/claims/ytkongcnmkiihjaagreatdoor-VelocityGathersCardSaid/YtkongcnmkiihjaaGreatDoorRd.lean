/-
Contracts and plain reckonings behind the law VelocityGathers, part 4 of 8 (each under the conditions in its statement).
-/
import Derived.Test.YtkongcnmkiihjaaGreatDoorRc
import Derived.Test.YtkongcnmkiihjaaGreatDoorAg
import Derived.Test.YtkongcnmkiihjaaGreatDoorRa
import Derived.Test.YtkongcnmkiihjaaGreatDoorRb
namespace Go.Proofs.YtkongcnmkiihjaaGreatDoor
open Go Go.Ab Go.Proofs
set_option maxHeartbeats 1000000 in
set_option maxRecDepth 50000 in
theorem w214 {H : Heap} {n : Nat} {v : Value} {ts : List Trc} (hR : dR H) (hV : trcV H v = some ts) : AC Tryz.prog 214 [v, .func (.func 215) #[] #[]] H n (outS n ts.length) (outSB n 29 1 ts.length ((ts.map trcE).map iv) ++ H) (n + 1) := by
 refine AC.given fun hold hsc hgn => AC.tidied (fun x hx => outSB_ge x hx) ?_
 replace hV : trcV (tidy n H) v = some ts := listV_tidy decT_tidy (fun k b h => (hold k b h).1) hV
 have h1n : 1 < n := by rw [gsz] at hgn; omega
 replace hR : hget (tidy n H) 1 = some (.inp 0 rangesV) := hget_tidy.2 ⟨hR, h1n, rfl⟩
 have hr := recT_ok (P := Tryz.prog) (l := [(215, g215)]) (by simp [ok215])
 obtain ⟨oa, c, rfl, hlt, _, hrow⟩ := trcV_form hV
 refine AC.grown Tryz.func214 rfl (by kernel_rfl) rfl [1, 5, 8, 9, 10] ?_
 refine E.seq ?_
 refine E.reg hr (by simp; rfl) ?_
 refine E.seq ?_
 refine E.reg hr (by simp; rfl) ?_
 refine E.seq ?_
 refine E.seq ?_
 refine E.reg hr (by simp; rfl) ?_
 refine E.block ?_
 refine E.loop ?_
 refine EL.ind (fun x : Nat × Heap × Nat × Nat => { fr := [(1, .func (.func 215) #[] #[]), (5, outS x.2.2.2 x.1), (8, .slice oa ts.length c), (9, iv ts.length), (10, iv x.1)], sz := 22, H := x.2.1, n := x.2.2.1, marks := [], vs := [1, 5, 8, 9, 10] }) (fun x => ts.length - x.1) (fun x => x.1 ≤ ts.length ∧ GL (tidy n H) n 29 1 (((ts.take x.1).map trcE).map iv) x.1 x.2.1 x.2.2.1 x.2.2.2) (0, tidy n H, n, n) (.keep rfl rfl rfl (by simp) (Sub.refl _)) ⟨Nat.zero_le _, by simpa using GL.start (t := 29) (sz := 1) (Sub.refl (tidy n H)) namesOk_tidy (Nat.le_refl n) (by simp)⟩ (fun _ => rfl) ?_
 rintro ⟨i, Hx, N, o⟩ ⟨hi, hG⟩
 dsimp only at hi hG ⊢
 have hw : IntKind.i64.wrap ((i : Int) + 1) = (i : Int) + 1 := W_in (by omega) (by omega)
 refine E.seq ?_
 refine E.reg hr (by simp; rfl) ?_
 refine E.seq ?_
 by_cases hil : i < ts.length
 · obtain ⟨a, q, rfl, hf, hcs, h8, hq⟩ := hrow i hil
   have hdec := decT_mk h8 hq
   obtain ⟨oq, cq, rfl, _, _, _⟩ := reaV_form hq
   have htk : ts.take (i + 1) = ts.take i ++ [ts[i]] := List.take_succ_eq_append_getElem hil
   have hsn : ((ts.take i).map trcE).map iv ++ [iv (trcE ts[i])] = ((ts.take (i + 1)).map trcE).map iv := by rw [htk, List.map_append, List.map_append]; rfl
   have hld := load159 (hG.sub.cells hcs)
   obtain ⟨e, he⟩ : ∃ e, trcE ts[i] = e := ⟨_, rfl⟩
   obtain ⟨a0, a1, a2, a3, a4, a5, a6, a7, hhd⟩ := len8 h8
   have hgg : ∀ X m, Sub Hx X → g215 [.agg ⟨ts[i].hd.map iv ++ [.bool ts[i].hole, .slice oq ts[i].smp.length cq]⟩] X m = some (iv e, X, m) := fun X m hX => by
     have h1 := decT_mono _ _ _ _ (hG.sub.trans hX) hdec
     have h2 : dR X := hX _ _ (hG.sub _ _ hR)
     simp only [g215, h1, h2, if_true, he]
   rw [hhd] at hld hgg
   simp only [List.map_cons, List.map_nil, List.cons_append, List.nil_append] at hld hgg
   rw [he] at hsn
   have hGs := hG.skip tidy_lt (.cells [iv a0, iv a1, iv a2, iv a3, iv a4, iv a5, iv a6, iv a7, .bool ts[i].hole, .slice oq ts[i].smp.length cq] 159) rfl
   have hgX := hgg ((N, .cells [iv a0, iv a1, iv a2, iv a3, iv a4, iv a5, iv a6, iv a7, .bool ts[i].hole, .slice oq ts[i].smp.length cq] 159) :: Hx) (N + 1) (Sub.cons (by
     cases hc : hget Hx N with
     | none => rfl
     | some b => exact absurd (namesOk_iff.1 hG.nm _ (hget_mem _ _ _ hc)) (by simp)) (Sub.refl _))
   obtain ⟨Hz, happ, hGz⟩ := hGs.app (P := Tryz.prog) (st := 170) (i := Tryz.t29) (new := [iv e]) tidy_lt Tryz.underlying170 inf29 sz29i zo29 by29 (by omega) rfl (by omega) rfl rfl
   rw [hsn] at hGz
   refine E.cond (t := true) (by simp [hil]) (fun _ => ?_) (fun h => by cases h)
   refine E.skip ?_
   refine E.seq ?_
   refine E.block ?_
   refine E.seq ?_
   refine E.reg hr (by simp [-loadA, -flat, hil, hf, hld]; rfl) ?_
   refine E.reg hr (by simp [-builtinA, run_vcall_tmp, vcallF, target, hgX, happ]; rfl) ?_
   refine E.reg hr (by simp [hw]; rfl) ?_
   exact ⟨(i + 1, Hz, N + 1 + 1 + 1, N + 1 + 1), .keep rfl rfl rfl (by simp) (Sub.refl _), ⟨hil, hGz⟩, by dsimp only; omega⟩
 · have hil' : i = ts.length := by omega
   subst hil'
   rw [List.take_length] at hG
   refine E.cond (t := false) (by simp) (fun h => by cases h) (fun _ => ?_)
   refine E.exit ?_
   refine E.seq ?_
   refine E.reg hr (by simp; rfl) ?_
   refine E.ret ?_
   exact outK.ret rfl rfl (hG.fresh (Nat.le_refl _) (afL_iv _) fun ρ => ivs_ren ρ _)
open Classical in
noncomputable def g214 (args : List Value) (H : Heap) (n : Nat) : R := match args with
 | [v, .func (.func 215) a b] => if a = #[] ∧ b = #[] ∧ dR H then (match trcV H v with
   | some ts => some (outS n ts.length, outSB n 29 1 ts.length ((ts.map trcE).map iv) ++ H, n + 1)
   | none => none) else none
 | _ => none
theorem ok214 : EntOk Tryz.prog (214, g214) := by
 intro args H n v H' n' h
 simp only [g214] at h
 split at h
 · split at h
   · rename_i hab
     obtain ⟨rfl, rfl, hR⟩ := hab
     split at h
     · rename_i l hl
       injection h with h; injection h with e1 e2; injection e2 with e2 e3; subst e1 e2 e3
       exact w214 hR hl
     · cases h
   · cases h
 · cases h
end Go.Proofs.YtkongcnmkiihjaaGreatDoor

namespace Go.Ab
open Go
theorem Step.framedP {P : Program} {p : Nat → Prop} {φ φ' : Vl} {n n' : Nat} {w w' : World} {H H0 H1 H2 : Heap} {fr : Fr} {a : Act} (hB : Base P p φ n (hget H) w fr a) (hsub : ∀ k b, hget H0 k = some b → hget H k = some b)
   (h2 : ∀ k b, hget H2 k = some b → hget H1 k = some b ∨ (hget H k = some b ∧ hget H0 k = none)) (hd : SM (Nx p n n') (hget H1) ∧ Step P φ n (hget H0) w φ' n' (hget H1) w') : SM (Nx p n n') (hget H2) ∧ Step P φ n (hget H) w φ' n' (hget H2) w' := by
 obtain ⟨hsm, hst⟩ := hd
 have hagr : Agr p φ φ' := fun k hk => hst.only k (.inl (hB.lt k hk))
 have hloc : ∀ k b, hget H k = some b → φ'.loc k = φ.loc k := fun k b hk => (hagr k (hB.sm k b hk).1).1
 have hkeep : ∀ k b, hget H k = some b → hget H0 k = none → w'.heap[φ.loc k]? = w.heap[φ.loc k]? := fun k b hk hn => hst.frm.keep _ (hB.rel.lt hk) fun j x hj ho => hB.rel.apart j x k b (hsub j x hj) hk (fun e => by subst e; rw [hn] at hj; cases hj) ho
 refine ⟨fun k b hk => ?_, hst.le, hst.only, ⟨fun k b hk => ?_, fun k b k' b' g1 g2 hne ho => ?_, hst.rel.glob⟩, fun k b hk ho => ?_, fun k b hk ho => ?_, ⟨hst.frm.os, hst.frm.tape, hst.frm.output, hst.frm.size, fun b hb hx => hst.frm.keep b hb fun k x hk ho => hx k x (hsub k x hk) ho⟩⟩
 · rcases h2 k b hk with h | ⟨h, _⟩
   · exact hsm k b h
   · exact ⟨.inl (hB.sm k b h).1, scB_mono (fun _ h => .inl h) _ (hB.sm k b h).2⟩
 · rcases h2 k b hk with h | ⟨h, hn⟩
   · exact hst.rel.blk k b h
   · rw [hloc k b h, hkeep k b h hn]
     exact (hB.rel.blk k b h).congr hagr (hB.sm k b h).1 (hB.sm k b h).2
 · rcases h2 k b g1 with h | ⟨h, hn⟩ <;> rcases h2 k' b' g2 with h' | ⟨h', hn'⟩
   · exact hst.rel.apart k b k' b' h h' hne ho
   · rw [hloc k' b' h']
     rcases hst.new k b h ho with g | ⟨k0, b0, e1, e2, e3⟩
     · have := hB.rel.lt h'
       omega
     · rw [← e3]
       exact hB.rel.apart k0 b0 k' b' (hsub _ _ e1) h' (fun e => by subst e; rw [hn'] at e1; cases e1) e2
   · rw [hloc k b h]
     cases hb : b'.own with
     | true =>
       rcases hst.new k' b' h' hb with g | ⟨k0, b0, e1, e2, e3⟩
       · have := hB.rel.lt h
         omega
       · rw [← e3]
         exact hB.rel.apart k b k0 b0 h (hsub _ _ e1) (fun e => by subst e; rw [hn] at e1; cases e1) ho
     | false =>
       have e1 := hst.inp k' b' h' hb
       rw [hloc k' b' (hsub _ _ e1)]
       exact hB.rel.apart k b k' b' h (hsub _ _ e1) hne ho
   · rw [hloc k b h, hloc k' b' h']
     exact hB.rel.apart k b k' b' h h' hne ho
 · rcases h2 k b hk with h | ⟨h, _⟩
   · rcases hst.new k b h ho with g | ⟨k0, b0, e1, e2, e3⟩
     · exact .inl g
     · exact .inr ⟨k0, b0, hsub _ _ e1, e2, e3⟩
   · exact .inr ⟨k, b, h, ho, (hloc k b h).symm⟩
 · rcases h2 k b hk with h | ⟨h, _⟩
   · exact hsub _ _ (hst.inp k b h ho)
   · exact h
theorem AT.frameP {P : Program} {ro : Option Nat} {c : Code} {st st' : St} {e : Ex} {H H2 : Heap} (h : AT P ro c st e st') (hsub : ∀ k b, hget st.H k = some b → hget H k = some b)
   (h2 : ∀ k b, hget H2 k = some b → hget st'.H k = some b ∨ (hget H k = some b ∧ hget st.H k = none)) : AT P ro c { st with H := H } e { st' with H := H2 } := by
 intro p φ a w hS hl
 have hS0 : SRel P p φ st a w := ⟨⟨hS.base.rel.sub hsub, hS.base.lt, hS.base.gl, hS.base.gn, fun k b hk => hS.base.sm k b (hsub k b hk), hS.base.ar, hS.base.sf⟩, hS.size, hS.defs, hS.marks⟩
 refine wpIn_mono (h p φ a w hS0 hl) fun e2 a' w' hh => ?_
 obtain ⟨he, φ', hS', hs'⟩ := hh
 obtain ⟨hsm, hst⟩ := Step.framedP hS.base hsub h2 ⟨hS'.base.sm, hs'⟩
 exact ⟨he, φ', ⟨⟨hst.rel, hS'.base.lt, hS'.base.gl, hS'.base.gn, hsm, hS'.base.ar, hS'.base.sf⟩, hS'.size, hS'.defs, hS'.marks⟩, hst⟩
end Go.Ab

namespace Go.Ab
open Go
theorem E.part {P : Program} {n0 : Nat} {ro : Option Nat} {c : Code} {K : Ex → St → Prop} {st : St} {fr : Fr} {sz n : Nat} {marks vs : List Nat} (hlt : ∀ k b, hget st.H k = some b → k < st.n)
   (h : E P st.n ro c { st with H := tidy st.n st.H } fun e s => e = .normal ∧ s = ⟨fr, sz, tidy st.n st.H, n, marks, vs⟩) (k : K .normal ⟨fr, sz, st.H, n, marks, vs⟩) : E P n0 ro c st K := by
 obtain ⟨e, s', hat, rfl, rfl⟩ := E.toEx (s := { st with H := tidy st.n st.H }) h
 have hf := AT.frameP (st := { st with H := tidy st.n st.H }) (st' := ⟨fr, sz, tidy st.n st.H, n, marks, vs⟩) (H := st.H) (H2 := st.H) hat (fun k b hk => (hget_tidy.1 hk).1) fun k b hk => ?_
 · exact E.at hf k
 by_cases hp : plainB2 b = true
 · exact .inl (hget_tidy.2 ⟨hk, hlt k b hk, hp⟩)
 · refine .inr ⟨hk, ?_⟩
   cases hc : hget (tidy st.n st.H) k with
   | none => first | exact hc | rfl
   | some c =>
     have := hget_tidy.1 hc
     rw [hk] at this
     obtain ⟨h1, _, h3⟩ := this
     injection h1 with h1
     subst h1
     exact absurd h3 hp
structure Kp (B : Heap) (b : Nat) (fs : List (Nat × Blk)) (H : Heap) (N : Nat) : Prop where
 sub : Sub B H
 nm : namesOk N H = true
 big : b ≤ N
 bl : ∀ k c, hget B k = some c → k < b
 low : ∀ (i : Nat) x, fs[i]? = some x → x.1 < b ∧ hget B x.1 = none
 nd : (fs.map (·.1)).Nodup
 at' : ∀ (i : Nat) x, fs[i]? = some x → hget H x.1 = some x.2
section
variable {B H : Heap} {b N : Nat} {fs : List (Nat × Blk)}
theorem Kp.lt (h : Kp B b fs H N) : ∀ k c, hget H k = some c → k < N := fun k c hk => namesOk_iff.1 h.nm (k, c) (hget_mem _ _ _ hk)
theorem Kp.skip (h : Kp B b fs H N) (x : Blk) : Kp B b fs ((N, x) :: H) (N + 1) := by
 have hb := h.big
 refine ⟨fun k c hk => ?_, namesOk_put (Nat.lt_succ_self _) (namesOk_mono (Nat.le_succ _) _ h.nm), by omega, h.bl, h.low, h.nd, fun i y hy => ?_⟩
 · have := h.bl k c hk
   rw [hget_cons, if_neg (by omega)]
   exact h.sub k c hk
 · have := (h.low i y hy).1
   rw [hget_cons, if_neg (by omega)]
   exact h.at' i y hy
theorem Kp.put (h : Kp B b fs H N) (i : Nat) {l : Nat} {c0 : Blk} (hx : fs[i]? = some (l, c0)) (c : Blk) : Kp B b (fs.set i (l, c)) (hset H l c) N := by
 have hi := (List.getElem?_eq_some_iff.1 hx).1
 have hnm : (fs.set i (l, c)).map (·.1) = fs.map (·.1) := by
   apply List.ext_getElem?
   intro j
   rw [List.getElem?_map, List.getElem?_map, List.getElem?_set]
   split
   · rename_i e
     subst e
     rw [hx]
     rfl
   · rfl
 have hl := (h.low i _ hx).2
 refine ⟨sub_hset h.sub hl, namesOk_hset h.nm, h.big, h.bl, fun j x hj => ?_, by rw [hnm]; exact h.nd, fun j x hj => ?_⟩
 · rw [List.getElem?_set] at hj
   split at hj
   · injection hj with hj
     subst hj
     exact ⟨(h.low i _ hx).1, hl⟩
   · exact h.low j x hj
 · rw [List.getElem?_set] at hj
   split at hj
   · injection hj with hj
     subst hj
     rw [hget_hset, if_pos rfl, h.at' i _ hx]
     rfl
   · rename_i hne
     rw [hget_hset, if_neg fun e => ?_]
     · exact h.at' j x hj
     · have hd := List.nodup_iff_pairwise_ne.1 h.nd
       rw [List.pairwise_iff_getElem] at hd
       have hj' := (List.getElem?_eq_some_iff.1 hj).1
       have e1 : (fs.map (·.1))[i]'(by rw [List.length_map]; exact hi) = l := by
         rw [List.getElem_map]
         have := (List.getElem?_eq_some_iff.1 hx).2
         rw [this]
       have e2 : (fs.map (·.1))[j]'(by rw [List.length_map]; exact hj') = x.1 := by
         rw [List.getElem_map]
         have := (List.getElem?_eq_some_iff.1 hj).2
         rw [this]
       rcases Nat.lt_trichotomy i j with hlt | hlt | hlt
       · exact hd i j (by rw [List.length_map]; exact hi) (by rw [List.length_map]; exact hj') hlt (by rw [e1, e2]; exact e)
       · exact hne hlt
       · exact hd j i (by rw [List.length_map]; exact hj') (by rw [List.length_map]; exact hi) hlt (by rw [e1, e2]; exact e.symm)
theorem Kp.cell (h : Kp B b fs H N) (i : Nat) {l : Nat} {cs : List Value} {t : TypeId} (hx : fs[i]? = some (l, .cells cs t)) (j : Nat) : cellA H l j = cs[j]? := by
 rw [cellA_eq, h.at' i _ hx]
 simp [cellB]
theorem Kp.store (h : Kp B b fs H N) (i : Nat) {l : Nat} {v0 v : Value} {t : TypeId} (hx : fs[i]? = some (l, .cells [v0] t)) : storeA H l 0 [v] = some (hset H l (.cells [v] t)) :=
 store_at (h.at' i _ hx) (i := 0) (Nat.zero_lt_one)
theorem Kp.del {d : Nat} {x : Blk} (h : Kp B b ((d, x) :: fs) H N) : Sub B (hdel H d) := sub_hdel h.sub (h.low 0 _ rfl).2
theorem Kp.start (hb : ∀ k c, hget B k = some c → k < b) (hB : Sub B H) (hn : namesOk N H = true) (hbig : b ≤ N) : Kp B b [] H N :=
 ⟨hB, hn, hbig, hb, fun i x hx => by simp at hx, List.nodup_nil, fun i x hx => by simp at hx⟩
theorem Kp.more (h : Kp B b fs H N) {l : Nat} {c : Blk} (hl : hget H l = some c) (hb : l < b) (hB : hget B l = none) (hn : l ∉ fs.map (·.1)) : Kp B b ((l, c) :: fs) H N :=
 ⟨h.sub, h.nm, h.big, h.bl, fun i x hx => by
   cases i with
   | zero => simp at hx; subst hx; exact ⟨hb, hB⟩
   | succ i => exact h.low i x (by simpa using hx), List.nodup_cons.2 ⟨hn, h.nd⟩, fun i x hx => by
   cases i with
   | zero => simp at hx; subst hx; exact hl
   | succ i => exact h.at' i x (by simpa using hx)⟩
theorem Kp.drop (h : Kp B b fs H N) {o : Nat} (ho : b ≤ o) : Kp B b fs (hdel H o) N := by
 refine ⟨sub_hdel h.sub ?_, namesOk_hdel h.nm, h.big, h.bl, h.low, h.nd, fun i x hx => ?_⟩
 · cases hc : hget B o with
   | none => rfl
   | some c => have := h.bl _ _ hc; omega
 · have := (h.low i x hx).1
   rw [hget_hdel, if_neg (by omega)]
   exact h.at' i x hx
end
theorem app_at {P : Program} {st t : TypeId} {i : TypeInfo} {X : Heap} {N o k sz : Nat} {cs new : List Value} (hu : P.underlying st = some (.slice t)) (hi : P.info? t = some i) (hsz : i.size = sz) (hz : zeroOk i = true) (hby : i.bytes ≤ 128) (hk : k < 2147483647) (hxN : hget X N = some (.cells new t)) (hlen : cs.length = k * sz) (hnew : new.length = sz) (hs0 : 0 < sz) (hone : oneL new = true) (ho : k ≠ 0 → hget X o = some (.ext cs t sz)) :
   builtinA P .append #[st, st] X (N + 1) [outS o k, .slice (some ⟨N, 0, none⟩) 1 1] = some (outS (N + 1) (k + 1), (N + 1, .ext (cs ++ new) t sz) :: (if k = 0 then X else hdel X o), N + 1 + 1) := by
 have hc : cellsA X N 0 (1 * sz) = some new := by
   rw [cellsA_eq, hxN]
   simp only [Option.bind_some, cellsB]
   rw [if_pos (by omega), List.drop_zero, List.take_of_length_le (by omega)]
 have hsm1 : smallA i.bytes 1 = true := by
   unfold smallA
   rw [Bool.and_eq_true]
   exact ⟨decide_eq_true (by omega), decide_eq_true (by omega)⟩
 have hsm : smallA i.bytes (k + 1) = true := by
   unfold smallA
   rw [Bool.and_eq_true]
   refine ⟨decide_eq_true ?_, decide_eq_true ?_⟩
   · have := Nat.mul_le_mul_left (k + 1) hby
     omega
   · omega
 have h1 : ¬ 1 * sz = 0 := by omega
 show appendA P #[st, st] _ _ _ _ = _
 unfold appendA
 have hnb : Nat.beq new.length (1 * sz) = true := by rw [hnew, Nat.one_mul, Nat.beq_refl]
 rw [outS_ne (Nat.succ_ne_zero k)]
 by_cases hk0 : k = 0
 · subst hk0
   simp only [outS_nil, List.getElem?_toArray, List.getElem?_cons_zero, List.getElem?_cons_succ, hu, hi, lenX, lenV, srcX, srcA, hsz, if_neg h1, flat_n, if_true, hc, hnb, hone, Bool.and_self]
   unfold appendTo
   have hcs : cs = [] := List.eq_nil_of_length_eq_zero (by rw [hlen, Nat.zero_mul])
   subst hcs
   simp only [and_self, if_true, Nat.one_ne_zero, if_false, hsm1, hz, Bool.and_self, hsz]
   rfl
 · have hle : ¬ (k + 1) * sz ≤ cs.length := by rw [hlen, Nat.succ_mul]; omega
   have hle2 : k * sz ≤ cs.length := by rw [hlen]; omega
   have htk : cs.take (k * sz) = cs := List.take_of_length_le (by rw [hlen]; omega)
   rw [outS_ne hk0]
   simp only [List.getElem?_toArray, List.getElem?_cons_zero, List.getElem?_cons_succ, hu, hi, lenX, lenV, srcX, srcA, hsz, if_neg h1, flat_n, if_true, hc, hnb, hone, Bool.and_self]
   unfold appendTo
   simp only [ho hk0, hsz, hle2, and_self, if_true, if_neg hle, hsm, hz, Bool.and_self, htk, if_neg hk0]
   rfl
structure Ls (B : Heap) (b : Nat) (fs : List (Nat × Blk)) (kb tb t : Nat) (l : List Value) (H : Heap) (N o : Nat) : Prop where
 kp : Kp B b ((kb, .cells [outS o l.length] tb) :: fs) H N
 out : l ≠ [] → hget H o = some (.ext l t 1) ∧ b ≤ o ∧ o < N
 low : b ≤ o
section
variable {B H : Heap} {b N kb tb t o : Nat} {fs : List (Nat × Blk)} {l : List Value}
theorem Ls.skip (h : Ls B b fs kb tb t l H N o) (x : Blk) : Ls B b fs kb tb t l ((N, x) :: H) (N + 1) o :=
 ⟨h.kp.skip x, fun hl => by
   obtain ⟨h1, h2, h3⟩ := h.out hl
   rw [hget_cons, if_neg (by omega)]
   exact ⟨h1, h2, by omega⟩, h.low⟩
theorem Ls.other (h : Ls B b fs kb tb t l H N o) (i : Nat) {k : Nat} {c0 : Blk} (hx : fs[i]? = some (k, c0)) (c : Blk) : Ls B b (fs.set i (k, c)) kb tb t l (hset H k c) N o :=
 ⟨h.kp.put (i + 1) (by simpa using hx) c, fun hl => by
   obtain ⟨h1, h2, h3⟩ := h.out hl
   have := (h.kp.low (i + 1) (k, c0) (by simpa using hx)).1
   rw [hget_hset, if_neg (by dsimp only at this; omega)]
   exact ⟨h1, h2, h3⟩, h.low⟩
theorem Ls.app {P : Program} {st : TypeId} {i : TypeInfo} {v : Value} (hu : P.underlying st = some (.slice t)) (hi : P.info? t = some i) (hsz : i.size = 1) (hz : zeroOk i = true) (hby : i.bytes ≤ 128) (h : Ls B b fs kb tb t l H N o) (hk : l.length < 2147483647) (hone : oneL [v] = true) :
   ∃ Hy Hz, builtinA P .append #[st, st] ((N, .cells [v] t) :: H) (N + 1) [outS o l.length, .slice (some ⟨N, 0, none⟩) 1 1] = some (outS (N + 1) (l.length + 1), Hy, N + 1 + 1) ∧ storeA Hy kb 0 [outS (N + 1) (l.length + 1)] = some Hz ∧ Ls B b fs kb tb t (l ++ [v]) Hz (N + 1 + 1) (N + 1) := by
 have h2 := h.skip (.cells [v] t)
 have hbig := h.kp.big
 obtain ⟨X, hX⟩ : ∃ X, (N, Blk.cells [v] t) :: H = X := ⟨_, rfl⟩
 have hxN : hget X N = some (.cells [v] t) := by rw [← hX, hget_cons, if_pos rfl]
 rw [hX] at h2 ⊢
 have hap := app_at (P := P) (st := st) (t := t) (i := i) (X := X) (N := N) (o := o) (k := l.length) (sz := 1) (cs := l) (new := [v]) hu hi hsz hz hby hk hxN (by omega) rfl (by decide) hone (fun hl => (h2.out fun e => hl (by rw [e]; rfl)).1)
 have hY : Kp B b ((kb, .cells [outS o l.length] tb) :: fs) ((N + 1, .ext (l ++ [v]) t 1) :: (if l.length = 0 then X else hdel X o)) (N + 1 + 1) := by
   refine Kp.skip ?_ _
   split
   · exact h2.kp
   · exact h2.kp.drop h.low
 have hs := hY.store 0 (v := outS (N + 1) (l.length + 1)) rfl
 have hZ := hY.put 0 rfl (.cells [outS (N + 1) (l.length + 1)] tb)
 refine ⟨_, _, hap, hs, ?_⟩
 refine ⟨?_, fun _ => ⟨?_, by omega, by omega⟩, by omega⟩
 · rw [List.length_append]; exact hZ
 · have := (hY.low 0 _ rfl).1
   rw [hget_hset, if_neg (by dsimp only at this; omega), hget_cons, if_pos rfl]
end
theorem fresh_ls {n o k t sz : Nat} {cs : List Value} {H H1 : Heap} {e : Int} (ho : k ≠ 0 → hget H1 o = some (.ext cs t sz)) (hn : n ≤ o) (haf : afL cs = true) (hren : ∀ ρ, renL ρ cs = cs) (hs : Sub H H1) : Fresh n (n + 1) H (.tuple #[outS n k, .int .i64 e]) (outSB n t sz k cs) (.tuple #[outS o k, .int .i64 e]) H1 := by
 refine ⟨fun j => if j = n then o else j, fun j hj => if_neg (by omega), ?_, fun j b hj => ?_, fun j b j' c hj hj' _ => ?_, hs⟩
 · show _ = Value.tuple (renL _ [outS n k, .int .i64 e]).toArray
   simp only [renL]
   rw [ren_outS (ρ := fun j => if j = n then o else j) (m := o) (by simp)]
   rfl
 · by_cases hk : k = 0
   · rw [outSB, if_pos hk] at hj; cases hj
   · rw [outSB, if_neg hk, hget_cons] at hj
     split at hj
     · rename_i e; subst e; injection hj with hj; subst hj
       refine ⟨Nat.le_refl _, Nat.lt_succ_self _, by simpa using hn, ?_, scL_af _ _ haf, trivial, rfl⟩
       simp [renB, hren, ho hk]
     · cases hj
 · by_cases hk : k = 0
   · rw [outSB, if_pos hk] at hj; cases hj
   · rw [outSB, if_neg hk, hget_cons] at hj hj'
     split at hj
     · split at hj'
       · omega
       · cases hj'
     · cases hj
end Go.Ab

namespace Go.Proofs.YtkongcnmkiihjaaGreatDoor
open Go Go.Ab Go.Proofs
def widB (W : Int) (x : Trc) : Bool := x.hole || decide ((x.smp.length : Int) = W)
def shtE (s : ByteArray) (ts : List Trc) : Int :=
 let e1 := firstV [whenV (!Gn.nameB s) 8, whenV (decide (ts.length = 0)) 12, whenV (decide (64 < ts.length)) 5]
 if e1 = 0 then (if firstV (ts.map trcE) = 0 then (if ts.all (widB (widF ts).1) then 0 else 2) else firstV (ts.map trcE)) else e1
noncomputable def asg191 : Code := match rfOf (bodyOf' Tryz.f191) with
 | some x => x.1
 | none => .skip
noncomputable def bdy191 : Code := match rfOf (bodyOf' Tryz.f191) with
 | some x => x.2
 | none => .skip
abbrev fr191 (n : Nat) : Fr := [(42, fn239 (n + 5)), (2, ptA (n + 1)), (5, ptA (n + 4))]
noncomputable abbrev lb191 (n : Nat) (ls : LoopState) (pe : Option Code) : Blk := .loop ls pe (fr191 n) 50 [2, 5] #[43, 44] asg191 bdy191 (n + 6)
noncomputable abbrev fs191 (n : Nat) (W e : Int) (ls : LoopState) (pe : Option Code) : List (Nat × Blk) := [(n + 6, .defd), (n + 7, lb191 n ls pe), (n + 1, .cells [iv e] 29), (n + 4, .cells [iv W] 3)]
set_option maxHeartbeats 3200000 in
set_option maxRecDepth 100000 in
theorem w191 {H : Heap} {n : Nat} {v : Value} {s : ByteArray} {ts : List Trc} (hR : dR H) (hv : shtV H v = some (s, ts)) : AC Tryz.prog 191 [v] H n (iv (shtE s ts)) H n := by
 refine AC.given fun hold hsc hgn => AC.tidied (B := []) (by simp) ?_
 replace hv := shtV_tidy (fun k b h => (hold k b h).1) hv
 replace hold := tidy_old hold
 have h1n : 1 < n := by rw [gsz] at hgn; omega
 replace hR : hget (tidy n H) 1 = some (.inp 0 rangesV) := hget_tidy.2 ⟨hR, h1n, rfl⟩
 have hr := recT_ok (P := Tryz.prog) (l := [(216, g216), (213, Gn.gSB Gn.nameB), (212, Gn.g114), (211, g211), (214, g214), (192, g192)]) (by simp only [List.forall_mem_cons]; exact ⟨ok216, Gn.ok213, Gn.ok212, ok211, ok214, ok192, by simp⟩)
 have hr0 := recT_ok (P := Tryz.prog) (l := []) (by simp)
 have hv0 := hv
 obtain ⟨u, rfl, ht⟩ := shtV_form hv
 obtain ⟨oa, c, rfl, hlt, _, _⟩ := trcV_form ht
 have hT : ∀ j, n ≤ j → hget (tidy n H) j = none := fun j hj => by
   cases hc : hget (tidy n H) j with
   | none => rfl
   | some b => exact absurd (tidy_lt _ _ hc) (by omega)
 have hTl : ∀ k b, hget (tidy n H) k = some b → k < n := fun k b h => tidy_lt _ _ h
 obtain ⟨X, hX⟩ : ∃ X, (n + 1, Blk.cells [iv 0] 29) :: (n, Blk.cells [.string s, .slice oa ts.length c] 110) :: tidy n H = X := ⟨_, rfl⟩
 have hS : Sub (tidy n H) X := by rw [← hX]; exact (Sub.cons (hT _ (Nat.le_refl _)) (Sub.refl _)).trans (Sub.cons (by rw [hget_cons, if_neg (by omega)]; exact hT _ (by omega)) (Sub.refl _))
 have hnm : namesOk (n + 2) X = true := by rw [← hX]; exact namesOk_put (by omega) (namesOk_put (by omega) (by simp))
 have hnm3 : namesOk (n + 2 + 1) X = true := namesOk_mono (Nat.le_succ _) _ hnm
 have htk := takeNew_frz hnm
 have hpl : plainH X = true := by rw [← hX]; rw [plainH, plainH]; simp [plainB2]
 have hbx : hget X n = some (.cells [.string s, .slice oa ts.length c] 110) := by rw [← hX, hget_cons, if_neg (by omega), hget_cons, if_pos rfl]
 have hc2 : hget X (n + 1) = some (.cells [iv 0] 29) := by rw [← hX, hget_cons, if_pos rfl]
 have hc0 : cellA X n 0 = some (.string s) := by rw [cellA_eq, hbx]; rfl
 have hc1 : cellA X n 1 = some (.slice oa ts.length c) := by rw [cellA_eq, hbx]; rfl
 have hXlt : ∀ k b, hget X k = some b → k < n + 2 := fun k b hk => namesOk_iff.1 hnm (k, b) (hget_mem _ _ _ hk)
 have hXn : ∀ j, n + 2 ≤ j → hget X j = none := fun j hj => by
   cases hc : hget X j with
   | none => rfl
   | some b => exact absurd (hXlt _ _ hc) (by omega)
 have hI3 : ∀ (N : Nat) (Y : Heap) (a b d : Int), intV ((N, .cells [iv a, iv b, iv d] 29) :: Y) (.slice (some ⟨N, 0, none⟩) 3 3) = some [a, b, d] := fun N Y a b d => by
   refine listV_mk (cs := [iv a, iv b, iv d]) (l := [a, b, d]) rfl (by rw [cellsA_eq, hget_cons, if_pos rfl]; rfl) rfl (by simp) fun i v hv => ?_
   match i, hv with
   | 0, hv => simp at hv; subst hv; rfl
   | 1, hv => simp at hv; subst hv; rfl
   | 2, hv => simp at hv; subst hv; rfl
 obtain ⟨b1, hb1⟩ : ∃ b1, Gn.nameB s = b1 := ⟨_, rfl⟩
 obtain ⟨b2, hb2⟩ : ∃ b2, decide (ts.length = 0) = b2 := ⟨_, rfl⟩
 obtain ⟨b3, hb3⟩ : ∃ b3, decide (64 < ts.length) = b3 := ⟨_, rfl⟩
 have hb2' : decide (ts = []) = b2 := by rw [← hb2]; exact decide_eq_decide.2 List.length_eq_zero_iff.symm
 have hb3' : decide ((64 : Int) < ts.length) = b3 := by rw [← hb3]; exact decide_eq_decide.2 (by omega)
 obtain ⟨e1, he1⟩ : ∃ e1, firstV [whenV (!b1) 8, whenV b2 12, whenV b3 5] = e1 := ⟨_, rfl⟩
 have hE : shtE s ts = if e1 = 0 then (if firstV (ts.map trcE) = 0 then (if ts.all (widB (widF ts).1) then 0 else 2) else firstV (ts.map trcE)) else e1 := by
   rw [← he1, ← hb1, ← hb2, ← hb3]; rfl
 have hw212 : ∀ (b : Bool) (e : Int) X m, Gn.g114 [.bool b, iv e] X m = some (iv (whenV b e), X, m) := fun _ _ _ _ => rfl
 have hw213 : ∀ X m, Gn.gSB Gn.nameB [.string s] X m = some (.bool b1, X, m) := fun X m => by rw [← hb1]
 have hw211 : ∀ (N : Nat) (Y : Heap) m, g211 [.slice (some ⟨N, 0, none⟩) 3 3] ((N, .cells [iv (whenV (!b1) 8), iv (whenV b2 12), iv (whenV b3 5)] 29) :: Y) m = some (iv e1, (N, .cells [iv (whenV (!b1) 8), iv (whenV b2 12), iv (whenV b3 5)] 29) :: Y, m) := fun N Y m => by
   simp only [g211, hI3, Option.map_some, he1]
 have hl110 := load110 hbx
 refine AC.pureM Tryz.func191 rfl (by kernel_rfl) rfl [1, 2, 5] rfl ?_
 refine E.seq ?_
 refine E.reg hr (by simp; rfl) ?_
 rw [hX]
 refine E.seq ?_
 refine E.seq ?_
 refine E.drawU mixed hr [14, 15, 16] [2, 4, 9, 14, 15, 16] [1, 2, 4, 9, 14, 15, 16] (by kernel_rfl) (by simp [-cellA, -readA, -decide_eq_true_eq, cellA_read, htk, hpl, hnm, hnm3, hc0, hc1, hb2', hb3', hw213, hw212, hw211]; rfl) ?_
 refine E.lead { fr := [(1, ptA n), (2, ptA (n + 1)), (3, iv e1)], sz := 50, H := X, n := n + 3, marks := [], vs := [1, 2, 5] } (.keep rfl rfl rfl (by simp) (Sub.cons (hXn _ (by omega)) (Sub.refl _))) ?_
 have hst : ∀ e : Int, storeA X (n + 1) 0 [iv e] = some (hset X (n + 1) (.cells [iv e] 29)) := fun e => store_at hc2 (i := 0) (Nat.zero_lt_one)
 have hrs : ∀ e : Int, cellA (hset X (n + 1) (.cells [iv e] 29)) (n + 1) 0 = some (iv e) := fun e => by rw [cellA_eq, hget_hset, if_pos rfl, hc2]; rfl
 have hss : ∀ e : Int, Sub (tidy n H) (hset X (n + 1) (.cells [iv e] 29)) := fun e => sub_hset hS (hT _ (by omega))
 refine E.seq ?_
 refine E.reg hr0 (by simp; rfl) ?_
 by_cases h1 : e1 = 0
 rotate_left
 · rw [if_neg h1] at hE
   refine E.cond (t := true) (by simp [h1]) (fun _ => ?_) (fun h => by cases h)
   refine E.seq ?_
   refine E.reg hr0 (by simp [-storeA, hst]; rfl) ?_
   refine E.ret ?_
   show Ab.outM Tryz.prog Tryz.f191 (fun u H2 _ => u = iv (shtE s ts) ∧ Ab.Sub (tidy n H) H2) .ret _
   exact outM.ret (hset X (n + 1) (.cells [iv e1] 29)) rfl (vs := [iv e1]) (by simp [-cellA, resultsA, resultA, Tryz.results191, hrs]) ⟨by rw [hE]; rfl, hss _⟩
 rw [if_pos h1] at hE
 refine E.cond (t := false) (by simp [h1]) (fun h => by cases h) (fun _ => ?_)
 refine E.skip ?_
 refine E.seq ?_
 refine E.seq ?_
 obtain ⟨e2, he2⟩ : ∃ e2, firstV (ts.map trcE) = e2 := ⟨_, rfl⟩
 rw [he2] at hE
 have h214 : g214 [.slice oa ts.length c, .func (.func 215) #[] #[]] X (n + 3) = some (outS (n + 3) ts.length, outSB (n + 3) 29 1 ts.length ((ts.map trcE).map iv) ++ X, n + 3 + 1) := by
   have h1 := listV_mono decT_mono hS ht
   have h2 : dR X := hS _ _ hR
   simp only [g214, h1, h2, and_self, if_true]
 have h211 : ∀ m, g211 [outS (n + 3) ts.length] (outSB (n + 3) 29 1 ts.length ((ts.map trcE).map iv) ++ X) m = some (iv e2, outSB (n + 3) 29 1 ts.length ((ts.map trcE).map iv) ++ X, m) := fun m => by
   have := intV_outS (N := n + 3) (t := 29) (Z := X) (l := ts.map trcE) (by rw [List.length_map]; exact hlt)
   rw [List.length_map] at this
   simp only [g211, this, Option.map_some, he2]
 refine E.reg hr (by simp [-List.map_map, -cellA, hc1, h214, h211]; rfl) ?_
 refine E.lead { fr := [(1, ptA n), (2, ptA (n + 1)), (4, iv e2)], sz := 50, H := X, n := n + 4, marks := [], vs := [1, 2, 5] } (.keep rfl rfl rfl (by simp) (Sub.app (fun x hx => hXn _ (by have := outSB_ge x hx; omega)) (Sub.refl _))) ?_
 refine E.seq ?_
 refine E.reg hr0 (by simp; rfl) ?_
 by_cases h2 : e2 = 0
 rotate_left
 · rw [if_neg h2] at hE
   refine E.cond (t := true) (by simp [h2]) (fun _ => ?_) (fun h => by cases h)
   refine E.seq ?_
   refine E.reg hr0 (by simp [-storeA, hst]; rfl) ?_
   refine E.ret ?_
   show Ab.outM Tryz.prog Tryz.f191 (fun u H2 _ => u = iv (shtE s ts) ∧ Ab.Sub (tidy n H) H2) .ret _
   exact outM.ret (hset X (n + 1) (.cells [iv e2] 29)) rfl (vs := [iv e2]) (by simp [-cellA, resultsA, resultA, Tryz.results191, hrs]) ⟨by rw [hE]; rfl, hss _⟩
 rw [if_pos h2] at hE
 refine E.cond (t := false) (by simp [h2]) (fun h => by cases h) (fun _ => ?_)
 refine E.skip ?_
 refine E.seq ?_
 have h192 : ∀ m, g192 [.agg ⟨[.string s, .slice oa ts.length c]⟩] X m = some (.tuple #[iv (widF ts).1, .bool (widF ts).2], X, m) := fun m => by
   simp only [g192, shtV_mono hS hv0]
 obtain ⟨W, hW⟩ : ∃ W, (widF ts).1 = W := ⟨_, rfl⟩
 rw [hW] at h192 hE
 refine E.reg hr (by simp [-loadA, hl110, h192]; rfl) ?_
 refine E.seq ?_
 refine E.seq ?_
 have hl' := load110 (H := (n + 4, Blk.cells [iv W] 3) :: X) (n := n) (s := s) (u := .slice oa ts.length c) (by rw [hget_cons, if_neg (by omega)]; exact hbx)
 refine E.reg hr (by simp [-loadA, hl', g216]; rfl) ?_
 refine E.block ?_
 refine E.lead { fr := fr191 n, sz := 50, H := (n + 5, Blk.cells [.string s, .slice oa ts.length c] 110) :: (n + 4, .cells [iv W] 3) :: X, n := n + 6, marks := [], vs := [2, 5] } (.keep rfl rfl rfl (by simp) (Sub.refl _)) ?_
 refine E.rangeX (x := asg191) (y := bdy191) rfl ent239 ?_
 obtain ⟨B, hB⟩ : ∃ B, (n + 5, Blk.cells [.string s, .slice oa ts.length c] 110) :: tidy n H = B := ⟨_, rfl⟩
 have hBb : hget B (n + 5) = some (.cells [.string s, .slice oa ts.length c] 110) := by rw [← hB, hget_cons, if_pos rfl]
 have hSB : Sub (tidy n H) B := by rw [← hB]; exact Sub.cons (hT _ (by omega)) (Sub.refl _)
 have htB : trcV B (.slice oa ts.length c) = some ts := listV_mono decT_mono hSB ht
 have hBlt : ∀ k b, hget B k = some b → k < n + 8 := fun k b hk => by
   rw [← hB, hget_cons] at hk
   split at hk
   · omega
   · have := tidy_lt _ _ hk; omega
 have hBn : ∀ j, n ≤ j → j ≠ n + 5 → hget B j = none := fun j h1 h2 => by
   rw [← hB, hget_cons, if_neg (fun e => h2 e.symm)]
   exact hT j h1
 have hstart : Kp B (n + 8) (fs191 n W 0 .ready none) ((n + 7, lb191 n .ready none) :: (n + 6, .defd) :: (n + 5, Blk.cells [.string s, .slice oa ts.length c] 110) :: (n + 4, .cells [iv W] 3) :: X) (n + 8) := by
   have hs0 : Sub B ((n + 7, lb191 n .ready none) :: (n + 6, .defd) :: (n + 5, Blk.cells [.string s, .slice oa ts.length c] 110) :: (n + 4, .cells [iv W] 3) :: X) := fun k b hk => by
     rw [← hB, hget_cons] at hk
     split at hk
     · rename_i e
       subst e
       injection hk with hk
       subst hk
       simp
     · have := tidy_lt _ _ hk
       rw [hget_cons, if_neg (by omega), hget_cons, if_neg (by omega), hget_cons, if_neg (by omega), hget_cons, if_neg (by omega)]
       exact hS _ _ hk
   have hn0 : namesOk (n + 8) ((n + 7, lb191 n .ready none) :: (n + 6, .defd) :: (n + 5, Blk.cells [.string s, .slice oa ts.length c] 110) :: (n + 4, .cells [iv W] 3) :: X) = true :=
     namesOk_put (by omega) (namesOk_put (by omega) (namesOk_put (by omega) (namesOk_put (by omega) (namesOk_mono (by omega) _ hnm))))
   refine ((((Kp.start hBlt hs0 hn0 (Nat.le_refl _)).more (l := n + 4) (c := .cells [iv W] 3) (by simp) (by omega) (hBn _ (by omega) (by omega)) (by simp)).more (l := n + 1) (c := .cells [iv 0] 29) ?_ (by omega) (hBn _ (by omega) (by omega)) (by simp)).more (l := n + 7) (c := lb191 n .ready none) (by simp) (by omega) (hBn _ (by omega) (by omega)) (by simp)).more (l := n + 6) (c := .defd) (by simp) (by omega) (hBn _ (by omega) (by omega)) (by simp)
   rw [hget_cons, if_neg (by omega), hget_cons, if_neg (by omega), hget_cons, if_neg (by omega), hget_cons, if_neg (by omega)]
   exact hc2
 obtain ⟨v', H', n', hAC, hend⟩ := it239 (B := B) (l := n + 7) (kb := n + 5) hBb htB (fun i H N => Kp B (n + 8) (fs191 n W 0 .ready none) H N ∧ ts.all (widB W) = (ts.drop i).all (widB W)) (fun H N => Kp B (n + 8) (fs191 n W 2 .done (some .ret)) H N ∧ ts.all (widB W) = false) (fun i H N h => h.1.sub) (fun i H N h => h.1.lt)
   (fun i H N cs hi h hh => ⟨h.1.skip _, by rw [h.2, List.drop_eq_getElem_cons hi, List.all_cons, widB, hh, Bool.true_or, Bool.true_and]⟩)
   (fun i Hx N cs hi hI hh hl10 hd => by
     obtain ⟨hI, hg⟩ := hI
     have hb := hI.big
     obtain ⟨q, rfl, h8, hq⟩ := decT_form hd
     obtain ⟨oq, cq, rfl, hlq, _, _⟩ := reaV_form hq
     rw [List.drop_eq_getElem_cons hi, List.all_cons, widB, hh, Bool.false_or] at hg
     rw [hh]
     obtain ⟨a0, a1, a2, a3, a4, a5, a6, a7, hhd⟩ := len8 h8
     have hS1 := hI.skip (.cells (ts[i].hd.map iv ++ [.bool false, .slice oq ts[i].smp.length cq]) 159)
     obtain ⟨X1, hX1⟩ : ∃ X1, (N, Blk.cells (ts[i].hd.map iv ++ [.bool false, .slice oq ts[i].smp.length cq]) 159) :: Hx = X1 := ⟨_, rfl⟩
     rw [hX1] at hS1 ⊢
     refine (yieldF_ex (K := fun b H' N' => if b = true then Kp B (n + 8) (fs191 n W 0 .ready none) H' N' ∧ ts.all (widB W) = (ts.drop (i + 1)).all (widB W) else Kp B (n + 8) (fs191 n W 2 .done (some .ret)) H' N' ∧ ts.all (widB W) = false) (hS1.at' 1 _ rfl) rfl (fun c h => by cases h) (fun c h => by cases h) ?_)
     rw [hhd]
     refine E.reg hr0 (by simp; rfl) ?_
     have hS2 := hS1.skip (.cells [iv a0, iv a1, iv a2, iv a3, iv a4, iv a5, iv a6, iv a7, .bool false, .slice oq ts[i].smp.length cq] 159)
     refine ⟨rfl, hS2.at' 1 _ rfl, ?_⟩
     have hY := hS2.put 1 rfl (lb191 n .busy none)
     have hy9 : cellA (hset ((N + 1, Blk.cells [iv a0, iv a1, iv a2, iv a3, iv a4, iv a5, iv a6, iv a7, .bool false, .slice oq ts[i].smp.length cq] 159) :: X1) (n + 7) (lb191 n .busy none)) (N + 1) 9 = some (.slice oq ts[i].smp.length cq) := by
       rw [cellA_eq, hget_hset, if_neg (by omega), hget_cons, if_pos rfl]
       rfl
     obtain ⟨Y, hYe⟩ : ∃ Y, hset ((N + 1, Blk.cells [iv a0, iv a1, iv a2, iv a3, iv a4, iv a5, iv a6, iv a7, .bool false, .slice oq ts[i].smp.length cq] 159) :: X1) (n + 7) (lb191 n .busy none) = Y := ⟨_, rfl⟩
     rw [hYe] at hY hy9 ⊢
     have hy5 : cellA Y (n + 4) 0 = some (iv W) := hY.cell 3 rfl 0
     refine E.block ?_
     refine E.seq ?_
     by_cases hw : (ts[i].smp.length : Int) = W
     · refine E.reg hr0 (by simp [-cellA, hy9, hy5, hw]; rfl) ?_
       refine E.cond (t := false) (by simp) (fun h => by cases h) (fun _ => ?_)
       refine E.skip ?_
       rw [decide_eq_true hw, Bool.true_and] at hg
       exact ⟨hY.at' 1 _ rfl, .inl ⟨rfl, hY.put 1 rfl (lb191 n .ready none), hg⟩⟩
     · refine E.reg hr0 (by simp [-cellA, hy9, hy5, hw]; rfl) ?_
       refine E.cond (t := true) (by simp) (fun _ => ?_) (fun h => by cases h)
       refine E.seq ?_
       have s1 := hY.store 2 (v := iv 2) rfl
       have hZ := hY.put 2 rfl (.cells [iv 2] 29)
       refine E.reg hr0 (by simp [-storeA, s1]; rfl) ?_
       refine E.ret ?_
       rw [decide_eq_false hw, Bool.false_and] at hg
       exact ⟨hZ.at' 1 _ rfl, .inr ⟨rfl, hZ.put 1 rfl (lb191 n .done (some .ret)), hg⟩⟩)
   ⟨hstart, by rw [List.drop_zero]⟩
 refine ⟨v', H', n', hAC, ?_⟩
 rcases hend with ⟨hI, hg⟩ | ⟨hI, hg⟩
 · refine .inl ⟨hI.at' 1 _ rfl, ?_⟩
   rw [List.drop_length, List.all_nil] at hg
   rw [hg, if_pos rfl] at hE
   have hY := hI.put 1 rfl (lb191 n .exhausted none)
   obtain ⟨Y, hYe⟩ : ∃ Y, hset H' (n + 7) (lb191 n .exhausted none) = Y := ⟨_, rfl⟩
   show E Tryz.prog n none _ { fr := fr191 n, sz := 50, H := hset H' (n + 7) (lb191 n .exhausted none), n := n', marks := [n + 6], vs := [2, 5] } _
   rw [hYe] at hY ⊢
   have s1 := hY.store 2 (v := iv 0) rfl
   have hZ := hY.put 2 rfl (.cells [iv 0] 29)
   refine E.seq ?_
   refine E.reg hr0 (by simp [-storeA, s1]; rfl) ?_
   refine E.ret ?_
   have d : cellA (hdel (hset Y (n + 1) (.cells [iv 0] 29)) (n + 6)) (n + 1) 0 = some (iv 0) := by rw [cellA_eq, hget_hdel, if_neg (by omega), hZ.at' 2 _ rfl]; rfl
   exact outM.ret _ (shut_one (hZ.at' 0 _ rfl)) (vs := [iv 0]) (by simp [-cellA, resultsA, resultA, Tryz.results191, d]) ⟨by rw [hE]; rfl, hSB.trans hZ.del⟩
 · refine .inr ⟨hI.at' 1 _ rfl, ?_⟩
   rw [hg, if_neg (by decide)] at hE
   have hY := hI.put 1 rfl (lb191 n .exhausted (some .ret))
   obtain ⟨Y, hYe⟩ : ∃ Y, hset H' (n + 7) (lb191 n .exhausted (some .ret)) = Y := ⟨_, rfl⟩
   show Ab.outM Tryz.prog Tryz.f191 (fun u H2 _ => u = iv (shtE s ts) ∧ Ab.Sub (tidy n H) H2) .ret { fr := fr191 n, sz := 50, H := hset H' (n + 7) (lb191 n .exhausted (some .ret)), n := n', marks := [n + 6], vs := [2, 5] }
   rw [hYe] at hY ⊢
   have d : cellA (hdel Y (n + 6)) (n + 1) 0 = some (iv 2) := by rw [cellA_eq, hget_hdel, if_neg (by omega), hY.at' 2 _ rfl]; rfl
   exact outM.ret _ (shut_one (hY.at' 0 _ rfl)) (vs := [iv 2]) (by simp [-cellA, resultsA, resultA, Tryz.results191, d]) ⟨by rw [hE]; rfl, hSB.trans hY.del⟩
open Classical in
noncomputable def g191 (args : List Value) (H : Heap) (n : Nat) : R := match args with
 | [v] => match shtV H v with
   | some x => if dR H then some (iv (shtE x.1 x.2), H, n) else none
   | none => none
 | _ => none
theorem ok191 : EntOk Tryz.prog (191, g191) := by
 intro args H n v H' n' h
 simp only [g191] at h
 split at h
 · split at h
   · rename_i x hx
     split at h
     · rename_i hR
       injection h with h; injection h with e1 e2; injection e2 with e2 e3; subst e1 e2 e3
       exact w191 (s := x.1) (ts := x.2) hR hx
     · cases h
   · cases h
 · cases h
end Go.Proofs.YtkongcnmkiihjaaGreatDoor

namespace Go.Proofs.YtkongcnmkiihjaaGreatDoor
open Go Go.Ab Go.Proofs
def widE (s : ByteArray) (ts : List Trc) : Int := if shtE s ts = 0 then (widF ts).1 else 0
set_option maxHeartbeats 600000 in
set_option maxRecDepth 50000 in
theorem w168 {H : Heap} {n : Nat} {v : Value} {s : ByteArray} {ts : List Trc} (hR : dR H) (hv : shtV H v = some (s, ts)) : AC Tryz.prog 168 [v] H n (.tuple #[iv (widE s ts), iv (shtE s ts)]) H n := by
 refine AC.given fun hold hsc hgn => AC.tidied (B := []) (by simp) ?_
 replace hv := shtV_tidy (fun k b h => (hold k b h).1) hv
 have h1n : 1 < n := by rw [gsz] at hgn; omega
 replace hR : hget (tidy n H) 1 = some (.inp 0 rangesV) := hget_tidy.2 ⟨hR, h1n, rfl⟩
 have hr := recT_ok (P := Tryz.prog) (l := [(191, g191), (192, g192)]) (by simp only [List.forall_mem_cons]; exact ⟨ok191, ok192, by simp⟩)
 have hv2 := hv
 obtain ⟨u, rfl, ht⟩ := shtV_form hv
 obtain ⟨X, hX⟩ : ∃ X, (n, Blk.cells [.string s, u] 110) :: tidy n H = X := ⟨_, rfl⟩
 have hS : Sub (tidy n H) X := by rw [← hX]; exact Sub.cons (by simp) (Sub.refl _)
 have hb : hget X n = some (.cells [.string s, u] 110) := by rw [← hX, hget_cons, if_pos rfl]
 have hld := load110 hb
 have hRX : dR X := hS _ _ hR
 have h191 : ∀ m, g191 [.agg ⟨[.string s, u]⟩] X m = some (iv (shtE s ts), X, m) := fun m => by
   simp only [g191, shtV_mono hS hv2, hRX, if_true]
 have h192 : ∀ m, g192 [.agg ⟨[.string s, u]⟩] X m = some (.tuple #[iv (widF ts).1, .bool (widF ts).2], X, m) := fun m => by
   simp only [g192, shtV_mono hS hv2]
 have hE : widE s ts = if shtE s ts = 0 then (widF ts).1 else 0 := rfl
 obtain ⟨e, he⟩ : ∃ e, shtE s ts = e := ⟨_, rfl⟩
 rw [he] at h191 hE
 refine AC.pure Tryz.func168 rfl (by kernel_rfl) rfl [1, 2, 3] rfl ?_
 refine E.seq ?_
 refine E.reg hr (by simp; rfl) ?_
 rw [hX]
 refine E.seq ?_
 refine E.seq ?_
 refine E.reg hr (by simp [-loadA, hld, h191]; rfl) ?_
 refine E.seq ?_
 refine E.reg hr (by simp; rfl) ?_
 by_cases hz : e = 0
 · rw [if_pos hz] at hE
   refine E.cond (t := false) (by simp [hz]) (fun h => by cases h) (fun _ => ?_)
   refine E.skip ?_
   refine E.seq ?_
   refine E.reg hr (by simp [-loadA, hld, h192]; rfl) ?_
   refine E.seq ?_
   refine E.reg hr (by simp; rfl) ?_
   refine E.ret ?_
   exact pureK.ret rfl rfl (by rw [hE, he, hz]; rfl) hS
 · rw [if_neg hz] at hE
   refine E.cond (t := true) (by simp [hz]) (fun _ => ?_) (fun h => by cases h)
   refine E.seq ?_
   refine E.reg hr (by simp; rfl) ?_
   refine E.ret ?_
   exact pureK.ret rfl rfl (by rw [hE, he]; rfl) hS
open Classical in
noncomputable def g168 (args : List Value) (H : Heap) (n : Nat) : R := match args with
 | [v] => match shtV H v with
   | some x => if dR H then some (.tuple #[iv (widE x.1 x.2), iv (shtE x.1 x.2)], H, n) else none
   | none => none
 | _ => none
theorem ok168 : EntOk Tryz.prog (168, g168) := by
 intro args H n v H' n' h
 simp only [g168] at h
 split at h
 · split at h
   · rename_i x hx
     split at h
     · rename_i hR
       injection h with h; injection h with e1 e2; injection e2 with e2 e3; subst e1 e2 e3
       exact w168 (s := x.1) (ts := x.2) hR hx
     · cases h
   · cases h
 · cases h
set_option maxHeartbeats 1000000 in
set_option maxRecDepth 50000 in
theorem w193 {H : Heap} {n : Nat} {cs : List Value} {t : Trc} (hR : dR H) (ht : decT H cs = some t) (hz : trcE t = 0) : AC Tryz.prog 193 [.agg ⟨cs⟩] H n (.tuple #[iv (offV t.hd), iv 0]) H n := by
 refine AC.given fun hold hsc hgn => AC.tidied (B := []) (by simp) ?_
 replace ht : decT (tidy n H) cs = some t := decT_tidy _ _ _ _ (fun k b h => (hold k b h).1) ht
 have h1n : 1 < n := by rw [gsz] at hgn; omega
 replace hR : hget (tidy n H) 1 = some (.inp 0 rangesV) := hget_tidy.2 ⟨hR, h1n, rfl⟩
 have hr := recT_ok (P := Tryz.prog) (l := [(215, g215)]) (by simp [ok215])
 have ht2 := ht
 obtain ⟨q, rfl, h8, hq⟩ := decT_form ht
 obtain ⟨X, hX⟩ : ∃ X, (n, Blk.cells (t.hd.map iv ++ [.bool t.hole, q]) 159) :: tidy n H = X := ⟨_, rfl⟩
 have hS : Sub (tidy n H) X := by rw [← hX]; exact Sub.cons (by simp) (Sub.refl _)
 have hnm : namesOk (n + 1) X = true := by rw [← hX]; exact namesOk_put (by omega) (by simp)
 have hbx : hget X n = some (.cells (t.hd.map iv ++ [.bool t.hole, q]) 159) := by rw [← hX, hget_cons, if_pos rfl]
 have hlen : (t.hd.map iv ++ [Value.bool t.hole, q]).length = 10 := by rw [List.length_append, List.length_map, h8]; rfl
 have hcsA : cellsA X n 0 10 = some (t.hd.map iv ++ [.bool t.hole, q]) := by
   rw [cellsA_eq, hbx]
   simp only [Option.bind_some, cellsB]
   rw [if_pos (by rw [hlen]; omega), List.drop_zero, List.take_of_length_le (by rw [hlen]; omega)]
 have hld := load159 hcsA
 have hRX : dR X := hS _ _ hR
 have h215 : ∀ m, g215 [.agg ⟨t.hd.map iv ++ [.bool t.hole, q]⟩] X m = some (iv 0, X, m) := fun m => by
   simp only [g215, decT_mono _ _ _ _ hS ht2, hRX, if_true, hz]
 have hb : hdE t.hd = 0 := by
   unfold trcE at hz
   split at hz
   · assumption
   · rename_i h; exact absurd hz h
 have hc : ∀ i, i < 8 → cellA X n i = some (iv (t.hd.getD i 0)) := fun i hi => by
   rw [cellA_eq, hbx]
   show (t.hd.map iv ++ _)[i]? = _
   rw [List.getElem?_append_left (by rw [List.length_map]; omega), List.getElem?_map, List.getD_eq_getElem?_getD, List.getElem?_eq_getElem (by omega)]
   rfl
 have c0 := hc 0 (by omega)
 have c1 := hc 1 (by omega)
 have c2 := hc 2 (by omega)
 have c3 := hc 3 (by omega)
 obtain ⟨b4, b5, b6⟩ := off_bound hb
 have b0 := b4 0 (by omega)
 have b1 := b4 1 (by omega)
 have b2 := b4 2 (by omega)
 have b3 := b4 3 (by omega)
 have hoff : offV t.hd = (t.hd.getD 2 0 - t.hd.getD 0 0) * (t.hd.getD 2 0 - t.hd.getD 0 0) + (t.hd.getD 3 0 - t.hd.getD 1 0) * (t.hd.getD 3 0 - t.hd.getD 1 0) := rfl
 generalize t.hd.getD 0 0 = x0 at c0 b0 hoff
 generalize t.hd.getD 1 0 = x1 at c1 b1 hoff
 generalize t.hd.getD 2 0 = x2 at c2 b2 hoff
 generalize t.hd.getD 3 0 = x3 at c3 b3 hoff
 have sq : ∀ x : Int, -200000 ≤ x → x ≤ 200000 → 0 ≤ x * x ∧ x * x ≤ 40000000000 := fun x h1 h2 => by
   have h3 : x * x = (x.natAbs : Int) * (x.natAbs : Int) := (Int.natAbs_mul_self' x).symm
   have h4 : x.natAbs ≤ 200000 := by omega
   have h5 : x.natAbs * x.natAbs ≤ 200000 * 200000 := Nat.mul_le_mul h4 h4
   rw [h3]
   omega
 have s1 := sq (x2 - x0) (by omega) (by omega)
 have s2 := sq (x3 - x1) (by omega) (by omega)
 have w1 : IntKind.i64.wrap (x2 - x0) = x2 - x0 := W_in (by omega) (by omega)
 have w2 : IntKind.i64.wrap (x3 - x1) = x3 - x1 := W_in (by omega) (by omega)
 have w3 : IntKind.i64.wrap ((x2 - x0) * (x2 - x0)) = (x2 - x0) * (x2 - x0) := W_in (by omega) (by omega)
 have w4 : IntKind.i64.wrap ((x3 - x1) * (x3 - x1)) = (x3 - x1) * (x3 - x1) := W_in (by omega) (by omega)
 have w5 : IntKind.i64.wrap ((x2 - x0) * (x2 - x0) + (x3 - x1) * (x3 - x1)) = (x2 - x0) * (x2 - x0) + (x3 - x1) * (x3 - x1) := W_in (by omega) (by omega)
 refine AC.pure Tryz.func193 rfl (by kernel_rfl) rfl [1, 2, 3, 5, 6] rfl ?_
 refine E.seq ?_
 refine E.reg hr (by simp; rfl) ?_
 rw [hX]
 refine E.seq ?_
 refine E.seq ?_
 refine E.reg hr (by simp [-loadA, hld, h215]; rfl) ?_
 refine E.seq ?_
 refine E.reg hr (by simp; rfl) ?_
 refine E.cond (t := false) (by simp) (fun h => by cases h) (fun _ => ?_)
 refine E.skip ?_
 refine E.seq ?_
 refine E.drawU mixed hr [] [] [2, 5, 9, 12] (by kernel_rfl) (by simp [-cellA, -readA, cellA_read, hnm, c0, c1, c2, c3, w1, w2]; rfl) ?_
 refine E.seq ?_
 refine E.reg hr (by simp [w3, w4, w5]; rfl) ?_
 refine E.ret ?_
 exact pureK.ret rfl rfl (by rw [hoff]; rfl) hS
open Classical in
noncomputable def g193 (args : List Value) (H : Heap) (n : Nat) : R := match args with
 | [.agg a] => match decT H a.toList with
   | some t => if dR H ∧ trcE t = 0 then some (.tuple #[iv (offV t.hd), iv 0], H, n) else none
   | none => none
 | _ => none
theorem ok193 : EntOk Tryz.prog (193, g193) := by
 intro args H n v H' n' h
 simp only [g193] at h
 split at h
 · split at h
   · rename_i t ht
     split at h
     · rename_i hR
       injection h with h; injection h with e1 e2; injection e2 with e2 e3; subst e1 e2 e3
       exact w193 hR.1 ht hR.2
     · cases h
   · cases h
 · cases h
set_option maxRecDepth 50000 in
theorem w170 {H : Heap} {n : Nat} {cs : List Value} {t : Trc} (hR : dR H) (ht : decT H cs = some t) (hz : trcE t = 0) : AC Tryz.prog 170 [.agg ⟨cs⟩] H n (iv (offV t.hd)) H n := by
 refine AC.given fun hold hsc hgn => AC.tidied (B := []) (by simp) ?_
 replace ht : decT (tidy n H) cs = some t := decT_tidy _ _ _ _ (fun k b h => (hold k b h).1) ht
 have h1n : 1 < n := by rw [gsz] at hgn; omega
 replace hR : hget (tidy n H) 1 = some (.inp 0 rangesV) := hget_tidy.2 ⟨hR, h1n, rfl⟩
 have hr := recT_ok (P := Tryz.prog) (l := [(193, g193)]) (by simp [ok193])
 have ht2 := ht
 obtain ⟨q, rfl, h8, hq⟩ := decT_form ht
 obtain ⟨X, hX⟩ : ∃ X, (n, Blk.cells (t.hd.map iv ++ [.bool t.hole, q]) 159) :: tidy n H = X := ⟨_, rfl⟩
 have hS : Sub (tidy n H) X := by rw [← hX]; exact Sub.cons (by simp) (Sub.refl _)
 have hbx : hget X n = some (.cells (t.hd.map iv ++ [.bool t.hole, q]) 159) := by rw [← hX, hget_cons, if_pos rfl]
 have hlen : (t.hd.map iv ++ [Value.bool t.hole, q]).length = 10 := by rw [List.length_append, List.length_map, h8]; rfl
 have hcsA : cellsA X n 0 10 = some (t.hd.map iv ++ [.bool t.hole, q]) := by
   rw [cellsA_eq, hbx]
   simp only [Option.bind_some, cellsB]
   rw [if_pos (by rw [hlen]; omega), List.drop_zero, List.take_of_length_le (by rw [hlen]; omega)]
 have hld := load159 hcsA
 have hRX : dR X := hS _ _ hR
 have h193 : ∀ m, g193 [.agg ⟨t.hd.map iv ++ [.bool t.hole, q]⟩] X m = some (.tuple #[iv (offV t.hd), iv 0], X, m) := fun m => by
   simp only [g193, decT_mono _ _ _ _ hS ht2, hRX, hz, and_self, if_true]
 refine AC.pure Tryz.func170 rfl (by kernel_rfl) rfl [2] rfl ?_
 refine E.seq ?_
 refine E.reg hr (by simp; rfl) ?_
 rw [hX]
 refine E.seq ?_
 refine E.reg hr (by simp [-loadA, hld, h193]; rfl) ?_
 refine E.seq ?_
 refine E.reg hr (by simp; rfl) ?_
 refine E.ret ?_
 exact pureK.ret rfl rfl rfl hS
open Classical in
noncomputable def g170 (args : List Value) (H : Heap) (n : Nat) : R := match args with
 | [.agg a] => match decT H a.toList with
   | some t => if dR H ∧ trcE t = 0 then some (iv (offV t.hd), H, n) else none
   | none => none
 | _ => none
theorem ok170 : EntOk Tryz.prog (170, g170) := by
 intro args H n v H' n' h
 simp only [g170] at h
 split at h
 · split at h
   · rename_i t ht
     split at h
     · rename_i hR
       injection h with h; injection h with e1 e2; injection e2 with e2 e3; subst e1 e2 e3
       exact w170 hR.1 ht hR.2
     · cases h
   · cases h
 · cases h
end Go.Proofs.YtkongcnmkiihjaaGreatDoor

namespace Go.Proofs.YtkongcnmkiihjaaGreatDoor
open Go Go.Ab Go.Proofs
structure OkS (ts : List Trc) : Prop where
 err : ∀ x ∈ ts, trcE x = 0
 hd : ∀ x ∈ ts, hdE x.hd = 0
 good : ∀ x ∈ ts, ∀ b ∈ x.smp, good32 b = true
 wid : ∀ x ∈ ts, x.hole = false → (x.smp.length : Int) = (widF ts).1
 hol : ∀ x ∈ ts, x.hole = true → x.smp = []
 w0 : 0 ≤ (widF ts).1 ∧ (widF ts).1 ≤ 1024
 len : 1 ≤ ts.length ∧ ts.length ≤ 64
theorem first_zero : ∀ {l : List Int}, firstV l = 0 → ∀ x ∈ l, x = 0
 | [], _, _, h => by cases h
 | e :: l, h, x, hx => by
   rw [firstV] at h
   split at h
   · rename_i he
     rcases List.mem_cons.1 hx with rfl | hx
     · exact he
     · exact first_zero h x hx
   · rename_i he; exact absurd h he
theorem err_good {b : Nat} (h : err32 b = 0) : good32 b = true := by
 unfold err32 at h
 split at h
 · split at h
   · assumption
   · cases h
 · cases h
theorem trcE_ok {t : Trc} (h : trcE t = 0) : hdE t.hd = 0 ∧ (t.hole = true → t.smp = []) ∧ t.smp.length ≤ 1024 ∧ ∀ b ∈ t.smp, good32 b = true := by
 unfold trcE at h
 split at h
 · rename_i h0
   split at h
   · cases h
   · rename_i h1
     have h2 : Gn.chkV 1024 t.smp = if (1024 : Int) < t.smp.length then 5 else firstV (t.smp.map err32) := by rw [← first_same]; rfl
     rw [h2] at h
     split at h
     · cases h
     · rename_i h3
       refine ⟨h0, fun hh => ?_, by omega, fun b hb => err_good (first_zero h _ (List.mem_map.2 ⟨b, hb, rfl⟩))⟩
       cases hs : t.smp with
       | nil => rfl
       | cons x l => exact absurd ⟨hh, by rw [hs]; simp⟩ h1
 · rename_i h0; exact absurd h h0
theorem widF_of : ∀ (ts : List Trc), (widF ts).1 = 0 ∨ ∃ x ∈ ts, x.hole = false ∧ (widF ts).1 = x.smp.length := by
 intro ts
 unfold widF
 cases hf : ts.find? fun t => !t.hole with
 | none => exact .inl rfl
 | some t =>
   refine .inr ⟨t, List.mem_of_find?_eq_some hf, ?_, rfl⟩
   have := List.find?_some hf
   simpa using this
theorem shtE_ok {s : ByteArray} {ts : List Trc} (h : shtE s ts = 0) : OkS ts := by
 unfold shtE at h
 dsimp only at h
 split at h
 · rename_i h1
   split at h
   · rename_i h2
     split at h
     · rename_i h3
       have he : ∀ x ∈ ts, trcE x = 0 := fun x hx => first_zero h2 _ (List.mem_map.2 ⟨x, hx, rfl⟩)
       have e2 := first_zero h1 (whenV (decide (ts.length = 0)) 12) (by simp)
       have e3 := first_zero h1 (whenV (decide (64 < ts.length)) 5) (by simp)
       rw [List.all_eq_true] at h3
       have hw : ∀ x ∈ ts, x.hole = false → (x.smp.length : Int) = (widF ts).1 := fun x hx hh => by
         have := h3 x hx
         rw [widB, hh, Bool.false_or] at this
         exact of_decide_eq_true this
       refine ⟨he, fun x hx => (trcE_ok (he x hx)).1, fun x hx => (trcE_ok (he x hx)).2.2.2, hw, fun x hx => (trcE_ok (he x hx)).2.1, ?_, ?_, ?_⟩
       · rcases widF_of ts with e | ⟨x, hx, _, e⟩
         · rw [e]; omega
         · have := (trcE_ok (he x hx)).2.2.1
           rw [e]; omega
       · by_cases h0 : ts.length = 0
         · rw [decide_eq_true h0] at e2
           cases e2
         · omega
       · by_cases h0 : 64 < ts.length
         · rw [decide_eq_true h0] at e3
           cases e3
         · omega
     · cases h
   · rename_i h2; exact absurd h h2
 · rename_i h1; exact absurd h h1
theorem load196 {H : Heap} {n : Nat} {s : ByteArray} {u : Value} {W : Int} (h : hget H n = some (.cells [.string s, u, iv W] 196)) : loadA Tryz.prog 196 H (.pointer (some ⟨n, 0, none⟩)) = some (.agg ⟨[.string s, u, iv W]⟩) := by
 have : cellsA H n 0 3 = some [.string s, u, iv W] := by rw [cellsA_eq, h]; rfl
 simp only [loadA, ag196, sz196, this, Option.map_some]
theorem build196 {s : ByteArray} {u : Value} {W : Int} {fr : Fr} {H : Heap} {n : Nat} : opBuild Tryz.prog 196 #[(0, .tmp 11), (1, .tmp 12)] ((12, iv W) :: (11, .agg ⟨[.string s, u]⟩) :: fr) H n = some (.agg ⟨[.string s, u, iv W]⟩, H, n) := by kernel_rfl
set_option maxRecDepth 50000 in
theorem w131 {H : Heap} {n : Nat} {s : ByteArray} {u : Value} {ts : List Trc} (hR : dR H) (hv : shtV H (.agg ⟨[.string s, u]⟩) = some (s, ts)) : AC Tryz.prog 131 [.agg ⟨[.string s, u]⟩] H n (.tuple #[.agg ⟨[.string s, u, iv (widE s ts)]⟩, iv (shtE s ts)]) H n := by
 refine AC.given fun hold hsc hgn => AC.tidied (B := []) (by simp) ?_
 replace hv := shtV_tidy (fun k b h => (hold k b h).1) hv
 replace hold := tidy_old hold
 have h1n : 1 < n := by rw [gsz] at hgn; omega
 replace hR : hget (tidy n H) 1 = some (.inp 0 rangesV) := hget_tidy.2 ⟨hR, h1n, rfl⟩
 have hr := recT_ok (P := Tryz.prog) (l := [(168, g168)]) (by simp [ok168])
 obtain ⟨u', e, ht⟩ := shtV_form hv
 have e : u = u' := by injection e with e; injection e with e; simpa using e
 subst e
 obtain ⟨X, hX⟩ : ∃ X, (n + 1, Blk.cells [.string ⟨#[]⟩, .slice none 0 0, iv 0] 196) :: (n, Blk.cells [.string s, u] 110) :: tidy n H = X := ⟨_, rfl⟩
 have hS : Sub (tidy n H) X := by rw [← hX]; exact (Sub.cons (by simp) (Sub.refl _)).trans (Sub.cons (by rw [hget_cons, if_neg (by omega)]; simp) (Sub.refl _))
 have hb : hget X n = some (.cells [.string s, u] 110) := by rw [← hX, hget_cons, if_neg (by omega), hget_cons, if_pos rfl]
 have hb2 : hget X (n + 1) = some (.cells [.string ⟨#[]⟩, .slice none 0 0, iv 0] 196) := by rw [← hX, hget_cons, if_pos rfl]
 have hld := load110 hb
 have hRX : dR X := hS _ _ hR
 have h168 : ∀ m, g168 [.agg ⟨[.string s, u]⟩] X m = some (.tuple #[iv (widE s ts), iv (shtE s ts)], X, m) := fun m => by
   simp only [g168, shtV_mono hS hv, hRX, if_true]
 obtain ⟨e, he⟩ : ∃ e, shtE s ts = e := ⟨_, rfl⟩
 obtain ⟨W, hW⟩ : ∃ W, widE s ts = W := ⟨_, rfl⟩
 rw [he, hW] at h168 ⊢
 have hst := store_all (cs := [.string s, u, iv W]) hb2 rfl
 have hone : oneL [.string s, u, iv W] = true := by
   obtain ⟨oa, c, rfl, _⟩ := trcV_form ht
   rfl
 have hld2 := load196 (H := hset X (n + 1) (.cells [.string s, u, iv W] 196)) (n := n + 1) (s := s) (u := u) (W := W) (by rw [hget_hset, if_pos rfl, hb2]; rfl)
 refine AC.same Tryz.func131 rfl (by kernel_rfl) rfl [2, 3, 4, 5] (by simpa [sc, scL] using hsc) (fun k b h => tidy_lt _ _ h) ?_
 refine E.seq ?_
 refine E.reg hr (by simp; rfl) ?_
 rw [hX]
 refine E.seq ?_
 refine E.reg hr (by simp [-loadA, hld, h168]; rfl) ?_
 refine E.seq ?_
 refine E.reg hr (by simp [-loadA, -storeA, -oneL, hld, hst, hone, build196]; rfl) ?_
 refine E.ret ?_
 exact pureK.ret rfl (vs := [.agg ⟨[.string s, u, iv W]⟩, iv e]) (by simp [-loadA, resultsA, resultA, Tryz.results131, hld2]) rfl (sub_hset hS (by simp))
open Classical in
noncomputable def g131 (args : List Value) (H : Heap) (n : Nat) : R := match args with
 | [.agg ⟨[.string s, u]⟩] => match shtV H (.agg ⟨[.string s, u]⟩) with
   | some x => if dR H ∧ x.1 = s then some (.tuple #[.agg ⟨[.string s, u, iv (widE s x.2)]⟩, iv (shtE s x.2)], H, n) else none
   | none => none
 | _ => none
theorem ok131 : EntOk Tryz.prog (131, g131) := by
 intro args H n v H' n' h
 simp only [g131] at h
 split at h
 · split at h
   · rename_i s u _ x hx
     split at h
     · rename_i hR
       injection h with h; injection h with e1 e2; injection e2 with e2 e3; subst e1 e2 e3
       obtain ⟨hR, e⟩ := hR
       obtain ⟨x1, x2⟩ := x
       have e : x1 = s := e
       subst e
       exact w131 hR hx
     · cases h
   · cases h
 · cases h
set_option maxRecDepth 50000 in
theorem w132 {H : Heap} {n : Nat} {s : ByteArray} {u : Value} {W t : Int} (hW : -1000000 ≤ W ∧ W ≤ 1000000) : AC Tryz.prog 132 [.agg ⟨[.string s, u, iv W]⟩, iv t] H n (iv (withinV t 0 (W - 1))) H n := by
 refine AC.given fun hold hsc hgn => AC.tidied (B := []) (by simp) ?_
 have hr := recT_ok (P := Tryz.prog) (l := [(91, g91)]) (by simp [ok91])
 have hw : IntKind.i64.wrap (W - 1) = W - 1 := W_in (by omega) (by omega)
 refine AC.pure Tryz.func132 rfl (by kernel_rfl) rfl [1, 2] rfl ?_
 refine E.seq ?_
 refine E.reg hr (by simp; rfl) ?_
 refine E.seq ?_
 refine E.reg hr (by simp [hw, g91]; rfl) ?_
 refine E.ret ?_
 exact pureK.ret rfl rfl rfl (Sub.cons (by simp) (Sub.refl _))
def g132 (args : List Value) (H : Heap) (n : Nat) : R := match args with
 | [.agg ⟨[.string _, _, .int .i64 W]⟩, .int .i64 t] => if -1000000 ≤ W ∧ W ≤ 1000000 then some (iv (withinV t 0 (W - 1)), H, n) else none
 | _ => none
theorem ok132 : EntOk Tryz.prog (132, g132) := by
 intro args H n v H' n' h
 simp only [g132] at h
 split at h
 · split at h
   · rename_i hW
     injection h with h; injection h with e1 e2; injection e2 with e2 e3; subst e1 e2 e3
     exact w132 hW
   · cases h
 · cases h
abbrev fn169 (n : Nat) : Value := .func (.func 169) #[] #[ptA n, ptA (n + 1), ptA (n + 2), ptA (n + 3)]
theorem w133 {H : Heap} {n : Nat} {s : ByteArray} {u : Value} {W t w st : Int} : AC Tryz.prog 133 [.agg ⟨[.string s, u, iv W]⟩, iv t, iv w, iv st] H n (fn169 n) ((n + 3, .cells [iv st] 3) :: (n + 2, .cells [iv w] 3) :: (n + 1, .cells [iv t] 3) :: (n, .cells [.string s, u, iv W] 196) :: H) (n + 4) := by
 have hr := recT_ok (P := Tryz.prog) (l := []) (by simp)
 refine AC.body Tryz.func133 rfl (by kernel_rfl) rfl [] ?_
 refine E.seq ?_
 refine E.reg hr (by simp; rfl) ?_
 refine E.seq ?_
 refine E.reg hr (by simp [opMakefunc]; rfl) ?_
 refine E.ret ?_
 exact ⟨.inr rfl, by simp [leaveF, shutA, resultsA, resultA, Tryz.results133, dropOk]⟩
def g133 (args : List Value) (H : Heap) (n : Nat) : R := match args with
 | [.agg ⟨[.string s, u, .int .i64 W]⟩, .int .i64 t, .int .i64 w, .int .i64 st] => some (fn169 n, (n + 3, .cells [iv st] 3) :: (n + 2, .cells [iv w] 3) :: (n + 1, .cells [iv t] 3) :: (n, .cells [.string s, u, iv W] 196) :: H, n + 4)
 | _ => none
theorem ok133 : EntOk Tryz.prog (133, g133) := by
 intro args H n v H' n' h
 simp only [g133] at h
 split at h
 · injection h with h; injection h with e1 e2; injection e2 with e2 e3; subst e1 e2 e3
   exact w133
 · cases h
end Go.Proofs.YtkongcnmkiihjaaGreatDoor

namespace Go.Proofs.YtkongcnmkiihjaaGreatDoor
open Go Go.Ab Go.Proofs
theorem ent169 : enterable Tryz.prog 169 = true := by kernel_rfl
theorem mov_nat (t q v : Int) : ∃ m : Nat, movV t q v = m := ⟨_, rfl⟩
set_option maxHeartbeats 3200000 in
set_option maxRecDepth 100000 in
theorem it169 {B : Heap} {l kb k1 k2 k3 : Nat} {s : ByteArray} {oa : Option Addr} {c : Nat} {ts : List Trc} {t w st : Int} (hbox : hget B kb = some (.cells [.string s, .slice oa ts.length c, iv (widF ts).1] 196)) (hk1 : hget B k1 = some (.cells [iv t] 3)) (hk2 : hget B k2 = some (.cells [iv w] 3)) (hk3 : hget B k3 = some (.cells [iv st] 3)) (hR : dR B) (ht : trcV B (.slice oa ts.length c) = some ts) (hok : OkS ts)
   (htr : 0 ≤ t ∧ t ≤ 1024) (hwr : 1 ≤ w ∧ w ≤ 1000000000) (hsr : 0 ≤ st ∧ st ≤ 1024)
   (I : Nat → Heap → Nat → Prop) (D : Heap → Nat → Prop) (hI : ∀ i H N, I i H N → Sub B H) (hN : ∀ i H N, I i H N → namesOk N H = true)
   (hskip : ∀ i H N cs (_ : i < ts.length), I i H N → livB ts t w st i = false → I (i + 1) ((N, .cells cs 159) :: H) (N + 1))
   (hy : ∀ i H N cs b (h : i < ts.length), I i H N → livB ts t w st i = true → ts[i].hole = false → ts[i].smp[(movV t (offV ts[i].hd) w).toNat]? = some b → ∃ q bb H' N', RecOk Tryz.prog q 0 ∧ yieldF q l [iv i, iv (six32 b)] ((N, .cells cs 159) :: H) (N + 1) = some (.bool bb, H', N') ∧ (if bb = true then I (i + 1) H' N' else D H' N'))
   {H : Heap} {n : Nat} (h0 : I 0 H n) : ∃ v H' n', AC Tryz.prog 169 [fnY l, ptA kb, ptA k1, ptA k2, ptA k3] H n v H' n' ∧ (I ts.length H' n' ∨ D H' n') := by
 have hr := recT_ok (P := Tryz.prog) (l := [(170, g170), (93, g93)]) (by simp only [List.forall_mem_cons]; exact ⟨ok170, ok93, by simp⟩)
 obtain ⟨_, _, e, hlt, _, hrow⟩ := trcV_form ht
 injection e with e1 e2 e3
 subst e1 e3
 have hk1' : cellA H kb 1 = some (.slice oa ts.length c) := by rw [cellA_eq, hI _ _ _ h0 _ _ hbox]; rfl
 have hl1 : loadA Tryz.prog 108 H (.pointer (some ⟨kb, 1, none⟩)) = some (.slice oa ts.length c) := by simp [-cellA, hk1']
 have hlive : ∀ i, livB ts t w st i = match ts[i]? with
   | some x => !x.hole && (decide (movV t (offV x.hd) w < (widF ts).1) && decide (movV t (offV x.hd) w ≤ t + st))
   | none => false := fun i => rfl
 obtain ⟨W, hW⟩ : ∃ W, (widF ts).1 = W := ⟨_, rfl⟩
 rw [hW] at hbox hlive
 refine AC.bodyX (Q := fun _ H' n' => I ts.length H' n' ∨ D H' n') Tryz.func169 rfl (by kernel_rfl) rfl [0, 1, 2, 3, 4, 11, 12, 13] ?_
 refine E.seq ?_
 refine E.reg hr (by simp [-loadA, hl1]; rfl) ?_
 refine E.block ?_
 refine E.loop ?_
 refine EL.ind (fun x : Nat × Heap × Nat => { fr := [(0, fnY l), (1, ptA kb), (2, ptA k1), (3, ptA k2), (4, ptA k3), (11, .slice oa ts.length c), (12, iv ts.length), (13, iv x.1)], sz := 50, H := x.2.1, n := x.2.2, marks := [], vs := [0, 1, 2, 3, 4, 11, 12, 13] }) (fun x => ts.length - x.1) (fun x => x.1 ≤ ts.length ∧ I x.1 x.2.1 x.2.2) (0, H, n) (.keep rfl rfl rfl (by simp) (Sub.refl _)) ⟨Nat.zero_le _, h0⟩ (fun _ => rfl) ?_
 rintro ⟨i, Hx, N⟩ ⟨hi, hG⟩
 dsimp only at hi hG ⊢
 have hw : IntKind.i64.wrap ((i : Int) + 1) = (i : Int) + 1 := W_in (by omega) (by omega)
 refine E.seq ?_
 refine E.reg hr (by simp; rfl) ?_
 refine E.seq ?_
 by_cases hil : i < ts.length
 · refine E.cond (t := true) (by simp [hil]) (fun _ => ?_) (fun h => by cases h)
   obtain ⟨a, q, rfl, hf, hcs, h8, hq⟩ := hrow i hil
   have hdec := decT_mk h8 hq
   obtain ⟨oq, cq, rfl, hlq, _, hqr⟩ := reaV_form hq
   obtain ⟨a0, a1, a2, a3, a4, a5, a6, a7, hhd⟩ := len8 h8
   have hIs := hI _ _ _ hG
   have hnx := hN _ _ _ hG
   have hld := load159 (hIs.cells hcs)
   have hmem : ts[i] ∈ ts := List.getElem_mem hil
   have hez := hok.err _ hmem
   have hhz := hok.hd _ hmem
   have hob := (off_bound hhz).2
   have hwid := hok.wid _ hmem
   have hgood := hok.good _ hmem
   have hyy := fun cs b => hy i Hx N cs b hil hG
   have hsk := fun cs => hskip i Hx N cs hil hG
   have hlv := hlive i
   rw [List.getElem?_eq_getElem hil] at hlv
   dsimp only at hlv
   obtain ⟨T, hT⟩ : ∃ T, ts[i] = T := ⟨_, rfl⟩
   rw [hT] at hld hdec h8 hhd hez hhz hob hwid hgood hyy hlv hqr hlq
   rw [hW] at hwid
   have hin : MvIn t (offV T.hd) w := ⟨htr.1, htr.2, hob.1, hob.2, hwr.1, hwr.2⟩
   obtain ⟨m, hm⟩ := mov_nat t (offV T.hd) w
   rw [hm] at hlv hyy
   obtain ⟨off, hoff⟩ : ∃ off, offV T.hd = off := ⟨_, rfl⟩
   rw [hoff] at hin hm
   obtain ⟨X, hX⟩ : ∃ X, (N, Blk.cells (T.hd.map iv ++ [.bool T.hole, .slice oq T.smp.length cq]) 159) :: Hx = X := ⟨_, rfl⟩
   have hxN : hget Hx N = none := by
     cases hc : hget Hx N with
     | none => rfl
     | some b => exact absurd (namesOk_iff.1 hnx _ (hget_mem _ _ _ hc)) (by simp)
   have hSX : Sub Hx X := by rw [← hX]; exact Sub.cons hxN (Sub.refl _)
   have hnmX : namesOk (N + 1) X = true := by rw [← hX]; exact namesOk_put (Nat.lt_succ_self _) (namesOk_mono (Nat.le_succ _) _ hnx)
   have hSB := hIs.trans hSX
   have hb0 : hget X N = some (.cells (T.hd.map iv ++ [.bool T.hole, .slice oq T.smp.length cq]) 159) := by rw [← hX, hget_cons, if_pos rfl]
   have hlen : (T.hd.map iv ++ [Value.bool T.hole, .slice oq T.smp.length cq]).length = 10 := by rw [List.length_append, List.length_map, h8]; rfl
   have hcA : cellsA X N 0 10 = some (T.hd.map iv ++ [.bool T.hole, .slice oq T.smp.length cq]) := by
     rw [cellsA_eq, hb0]
     simp only [Option.bind_some, cellsB]
     rw [if_pos (by rw [hlen]; omega), List.drop_zero, List.take_of_length_le (by rw [hlen]; omega)]
   have hc8 : cellA X N 8 = some (.bool T.hole) := by
     rw [cellA_eq, hb0]
     show (T.hd.map iv ++ [Value.bool T.hole, .slice oq T.smp.length cq])[8]? = _
     rw [List.getElem?_append_right (by rw [List.length_map]; omega), List.length_map, h8]
     rfl
   have hc9 : cellA X N 9 = some (.slice oq T.smp.length cq) := by
     rw [cellA_eq, hb0]
     show (T.hd.map iv ++ [Value.bool T.hole, .slice oq T.smp.length cq])[9]? = _
     rw [List.getElem?_append_right (by rw [List.length_map]; omega), List.length_map, h8]
     rfl
   have ck1 : cellA X k1 0 = some (iv t) := by rw [cellA_eq, hSB _ _ hk1]; rfl
   have ck2 : cellA X k2 0 = some (iv w) := by rw [cellA_eq, hSB _ _ hk2]; rfl
   have ck3 : cellA X k3 0 = some (iv st) := by rw [cellA_eq, hSB _ _ hk3]; rfl
   have ckW : cellA X kb 2 = some (iv W) := by rw [cellA_eq, hSB _ _ hbox]; rfl
   have hXlt : ∀ k b, hget X k = some b → k < N + 1 := fun k b hk => namesOk_iff.1 hnmX (k, b) (hget_mem _ _ _ hk)
   have tk1 : cellA (tidy (N + 1) X) k1 0 = some (iv t) := by
     have := hSB _ _ hk1
     rw [cellA_eq, hget_tidy.2 ⟨this, hXlt _ _ this, rfl⟩]; rfl
   have tk2 : cellA (tidy (N + 1) X) k2 0 = some (iv w) := by
     have := hSB _ _ hk2
     rw [cellA_eq, hget_tidy.2 ⟨this, hXlt _ _ this, rfl⟩]; rfl
   have tkA := cellsA_tidy (n := N + 1) hXlt hcA
   have hRX : dR (frzH (tidy (N + 1) X)) := by
     show hget (frzH (tidy (N + 1) X)) 1 = _
     have := hSB _ _ hR
     rw [hget_frz, hget_tidy.2 ⟨this, hXlt _ _ this, rfl⟩]
     rfl
   have h170 : ∀ j, g170 [.agg ⟨T.hd.map iv ++ [.bool T.hole, .slice oq T.smp.length cq]⟩] (frzH (tidy (N + 1) X)) j = some (iv off, frzH (tidy (N + 1) X), j) := fun j => by
     have := decT_tidy _ (N + 1) _ _ hXlt (decT_mono _ _ _ _ hSB hdec)
     rw [← decT_frz] at this
     simp only [g170, this, hRX, hez, hoff, and_self, if_true]
   have h93 : ∀ Y j, g93 [iv t, iv off, iv w] Y j = some (iv m, Y, j) := fun Y j => by
     simp only [g93, hin, hm, if_true]
   have hwts : IntKind.i64.wrap (t + st) = t + st := W_in (by omega) (by omega)
   have hlN : ∀ k b, hget B k = some b → k < N + 1 := fun k b hk => namesOk_iff.1 hnmX (k, b) (hget_mem _ _ _ (hSB _ _ hk))
   have k1N := hlN _ _ hk1
   have k2N := hlN _ _ hk2
   have k3N := hlN _ _ hk3
   have kbN := hlN _ _ hbox
   refine E.skip ?_
   refine E.seq ?_
   refine E.block ?_
   refine E.seq ?_
   rw [hhd] at hX hld
   simp only [List.map_cons, List.map_nil, List.cons_append, List.nil_append] at hX hld
   refine E.reg hr (by simp [-loadA, -flat, hil, hf, hld]; rfl) ?_
   rw [hX]
   refine E.seq ?_
   refine E.seq ?_
   refine E.reg hr (by simp [-cellA, hc8]; rfl) ?_
   by_cases hho : T.hole = true
   · refine E.cond (t := true) (by simp [hho]) (fun _ => ?_) (fun h => by cases h)
     refine E.exit ?_
     refine E.reg hr (by simp [hw]; rfl) ?_
     rw [hho, Bool.not_true, Bool.false_and] at hlv
     have := hsk [iv a0, iv a1, iv a2, iv a3, iv a4, iv a5, iv a6, iv a7, .bool T.hole, .slice oq T.smp.length cq] hlv
     rw [hX] at this
     exact ⟨(i + 1, X, N + 1), .keep rfl rfl rfl (by simp) (Sub.refl _), ⟨hil, this⟩, by dsimp only; omega⟩
   have hho : T.hole = false := by simpa using hho
   refine E.cond (t := false) (by simp [hho]) (fun h => by cases h) (fun _ => ?_)
   refine E.skip ?_
   refine E.seq ?_
   refine E.part (fun k b hk => namesOk_iff.1 hnmX (k, b) (hget_mem _ _ _ hk)) (E.drawU mixed hr [4] [2, 4] [0, 1, 2, 4] (by kernel_rfl) (by simp [-cellA, -cellsA, -readA, cellA_read, cellsA_read, k1N, k2N, tk1, tk2, tkA, h170, h93]; exact ⟨rfl, rfl, rfl, rfl, rfl⟩) ⟨rfl, rfl⟩) ?_
   refine E.seq ?_
   rw [hho, Bool.not_false, Bool.true_and] at hlv
   by_cases h1 : (m : Int) < W
   case' pos =>
     by_cases h2 : (m : Int) ≤ t + st
     case' pos =>
       rw [decide_eq_true h1, decide_eq_true h2] at hlv
       have hmL : m < T.smp.length := by have := hwid hho; omega
       obtain ⟨b, hb⟩ : ∃ b, T.smp[m] = b := ⟨_, rfl⟩
       have hgb : good32 b = true := by rw [← hb]; exact hgood _ (List.getElem_mem hmL)
       obtain ⟨aq, haq, hfq, hcq⟩ := hqr m hmL
       rw [hb] at hcq
       subst haq
       have hcq' := hSB.cell hcq
       obtain ⟨p, bb, H', N', hp, hyd, hbb⟩ := hyy [iv a0, iv a1, iv a2, iv a3, iv a4, iv a5, iv a6, iv a7, .bool T.hole, .slice (some aq) T.smp.length cq] b hlv hho (by
         rw [Int.toNat_natCast, List.getElem?_eq_getElem hmL, hb])
       rw [hX] at hyd
       obtain ⟨r, _, m2, m3, _⟩ := Gn.six_run (b := b) (by
         unfold good32 at hgb; simp only [Bool.and_eq_true, decide_eq_true_eq] at hgb; exact hgb.1.1) (by
         unfold good32 at hgb; simp only [Bool.and_eq_true, decide_eq_true_eq] at hgb; exact hgb.1.2)
       refine E.reg hp (by simp [-cellA, -flat, ckW, ck1, ck3, hwts, h1, h2, hc9, hmL, hfq, hcq', opConvert, bin_fmul (k := .f32) m2, m3, run_vcall_tmp, vcallF, target, hyd]; rfl) ?_
       cases bb with
       | true =>
         refine E.cond (t := false) (by simp) (fun h => by cases h) (fun _ => ?_)
         refine E.skip ?_
         refine E.reg hr (by simp [hw]; rfl) ?_
         exact ⟨(i + 1, H', N'), .keep rfl rfl rfl (by simp) (Sub.refl _), ⟨hil, hbb⟩, by dsimp only; omega⟩
       | false =>
         refine E.cond (t := true) (by simp) (fun _ => ?_) (fun h => by cases h)
         refine E.ret ?_
         exact ⟨.inr rfl, _, _, _, by simp [leaveF, shutA, resultsA, Tryz.results169, dropOk]; first | exact ⟨rfl, rfl, rfl⟩ | rfl, .inr hbb⟩
     case' neg =>
       rw [decide_eq_false h2, Bool.and_false] at hlv
       refine E.reg hr (by simp [-cellA, ckW, ck1, ck3, hwts, h1, h2]; rfl) ?_
   case' neg =>
     rw [decide_eq_false h1, Bool.false_and] at hlv
     refine E.reg hr (by simp [-cellA, ckW, h1]; rfl) ?_
   all_goals
     refine E.cond (t := false) (by simp) (fun h => by cases h) (fun _ => ?_)
     refine E.skip ?_
     refine E.reg hr (by simp [hw]; rfl) ?_
     have := hsk [iv a0, iv a1, iv a2, iv a3, iv a4, iv a5, iv a6, iv a7, .bool T.hole, .slice oq T.smp.length cq] hlv
     rw [hX] at this
     exact ⟨(i + 1, X, N + 1), .keep rfl rfl rfl (by simp) (Sub.refl _), ⟨hil, this⟩, by dsimp only; omega⟩
 · have hil' : i = ts.length := by omega
   subst hil'
   refine E.cond (t := false) (by simp) (fun h => by cases h) (fun _ => ?_)
   refine E.exit ?_
   exact ⟨.inl rfl, _, _, _, by simp [leaveF, shutA, resultsA, Tryz.results169, dropOk]; first | exact ⟨rfl, rfl, rfl⟩ | rfl, .inl hG⟩
end Go.Proofs.YtkongcnmkiihjaaGreatDoor

namespace Go.Proofs.YtkongcnmkiihjaaGreatDoor
open Go Go.Ab Go.Proofs
def livE (s : ByteArray) (ts : List Trc) (t w st : Int) : Int := firstV [shtE s ts, withinV t 0 (widE s ts - 1), velV w, withinV st 0 1024]
def livR (s : ByteArray) (ts : List Trc) (t w st : Int) : List Int := if livE s ts t w st = 0 then livL ts t w st ts.length else []
noncomputable def asg58 : Code := match rfOf (bodyOf' Tryz.f58) with
 | some x => x.1
 | none => .skip
noncomputable def bdy58 : Code := match rfOf (bodyOf' Tryz.f58) with
 | some x => x.2
 | none => .skip
abbrev fr58 (n : Nat) : Fr := [(37, fn169 (n + 4)), (13, ptA (n + 3))]
noncomputable abbrev lb58 (n : Nat) (ls : LoopState) (pe : Option Code) : Blk := .loop ls pe (fr58 n) 45 [13] #[38, 39] asg58 bdy58 (n + 8)
theorem first4 {a b c d : Int} (h : firstV [a, b, c, d] = 0) : a = 0 ∧ b = 0 ∧ c = 0 ∧ d = 0 :=
 ⟨first_zero h a (by simp), first_zero h b (by simp), first_zero h c (by simp), first_zero h d (by simp)⟩
theorem within_zero {a lo hi : Int} (h : withinV a lo hi = 0) : lo ≤ a ∧ a ≤ hi := by
 unfold withinV at h
 split at h
 · cases h
 · omega
theorem livL_live {ts : List Trc} {t w st : Int} {i : Nat} (h : livB ts t w st i = true) : livL ts t w st (i + 1) = livL ts t w st i ++ [(i : Int)] := by
 rw [livL, if_pos h]
theorem livL_dead {ts : List Trc} {t w st : Int} {i : Nat} (h : livB ts t w st i = false) : livL ts t w st (i + 1) = livL ts t w st i := by
 rw [livL, if_neg (by rw [h]; decide)]
set_option maxHeartbeats 3200000 in
set_option maxRecDepth 100000 in
theorem w58 {H : Heap} {n : Nat} {v : Value} {s : ByteArray} {ts : List Trc} {t w st : Int} (hR : dR H) (hv : shtV H v = some (s, ts)) : AC Tryz.prog 58 [v, iv t, iv w, iv st] H n (.tuple #[outS n (livR s ts t w st).length, iv (livE s ts t w st)]) (outSB n 3 1 (livR s ts t w st).length ((livR s ts t w st).map iv) ++ H) (n + 1) := by
 refine AC.given fun hold hsc hgn => AC.tidied (fun x hx => outSB_ge x hx) ?_
 replace hv := shtV_tidy (fun k b h => (hold k b h).1) hv
 replace hold := tidy_old hold
 have h1n : 1 < n := by rw [gsz] at hgn; omega
 replace hR : hget (tidy n H) 1 = some (.inp 0 rangesV) := hget_tidy.2 ⟨hR, h1n, rfl⟩
 have hr := recT_ok (P := Tryz.prog) (l := [(131, g131), (132, g132), (92, g92), (98, g98), (90, g90), (133, g133)]) (by simp only [List.forall_mem_cons]; exact ⟨ok131, ok132, ok92, ok98, ok90, ok133, by simp⟩)
 have hr0 := recT_ok (P := Tryz.prog) (l := []) (by simp)
 have hv0 := hv
 obtain ⟨u, rfl, ht⟩ := shtV_form hv
 obtain ⟨oa, c, rfl, hlt, _, _⟩ := trcV_form ht
 have hT : ∀ j, n ≤ j → hget (tidy n H) j = none := fun j hj => by
   cases hc : hget (tidy n H) j with
   | none => rfl
   | some b => exact absurd (tidy_lt _ _ hc) (by omega)
 obtain ⟨X, hX⟩ : ∃ X, (n, Blk.cells [.string s, .slice oa ts.length c] 110) :: tidy n H = X := ⟨_, rfl⟩
 have hS : Sub (tidy n H) X := by rw [← hX]; exact Sub.cons (hT _ (Nat.le_refl _)) (Sub.refl _)
 have hnm : namesOk (n + 1) X = true := by rw [← hX]; exact namesOk_put (by omega) (by simp)
 have hbx : hget X n = some (.cells [.string s, .slice oa ts.length c] 110) := by rw [← hX, hget_cons, if_pos rfl]
 have hXlt : ∀ k b, hget X k = some b → k < n + 1 := fun k b hk => namesOk_iff.1 hnm (k, b) (hget_mem _ _ _ hk)
 have hXn : ∀ j, n + 1 ≤ j → hget X j = none := fun j hj => by
   cases hc : hget X j with
   | none => rfl
   | some b => exact absurd (hXlt _ _ hc) (by omega)
 have hld := load110 hbx
 have hRX : dR X := hS _ _ hR
 have hE : livE s ts t w st = firstV [shtE s ts, withinV t 0 (widE s ts - 1), velV w, withinV st 0 1024] := rfl
 have hRL : livR s ts t w st = if livE s ts t w st = 0 then livL ts t w st ts.length else [] := rfl
 obtain ⟨l, hl⟩ : ∃ l, livR s ts t w st = l := ⟨_, rfl⟩
 rw [hl] at hRL ⊢
 have hwd : -1000000 ≤ widE s ts ∧ widE s ts ≤ 1000000 := by
   unfold widE
   split
   · rename_i h
     have := (shtE_ok h).w0
     omega
   · omega
 have hWd : widE s ts = if shtE s ts = 0 then (widF ts).1 else 0 := rfl
 have h131 : ∀ m, g131 [.agg ⟨[.string s, .slice oa ts.length c]⟩] X m = some (.tuple #[.agg ⟨[.string s, .slice oa ts.length c, iv (widE s ts)]⟩, iv (shtE s ts)], X, m) := fun m => by
   simp only [g131, shtV_mono hS hv0, hRX, and_self, if_true]
 have hsh : shtE s ts = 0 → OkS ts := shtE_ok
 obtain ⟨W, hW⟩ : ∃ W, widE s ts = W := ⟨_, rfl⟩
 obtain ⟨e0, he0⟩ : ∃ e, shtE s ts = e := ⟨_, rfl⟩
 obtain ⟨el, hel⟩ : ∃ e, livE s ts t w st = e := ⟨_, rfl⟩
 rw [hW] at h131 hE hwd hWd
 rw [he0] at h131 hE hsh hWd
 rw [hel] at hE hRL ⊢
 have h132 : ∀ Y m, g132 [.agg ⟨[.string s, .slice oa ts.length c, iv W]⟩, iv t] Y m = some (iv (withinV t 0 (W - 1)), Y, m) := fun Y m => by
   simp only [g132, hwd, and_self, if_true]
 have hI4 : ∀ (N : Nat) (Y : Heap) m, g90 [.slice (some ⟨N, 0, none⟩) 4 4] ((N, .cells [iv e0, iv (withinV t 0 (W - 1)), iv (velV w), iv (withinV st 0 1024)] 29) :: Y) m = some (iv el, (N, .cells [iv e0, iv (withinV t 0 (W - 1)), iv (velV w), iv (withinV st 0 1024)] 29) :: Y, m) := fun N Y m => by
   simp [g90, intsAt, intsOf, hE]
 refine AC.grownEM Tryz.func58 rfl (by kernel_rfl) rfl [1, 2, 3, 4, 8, 9, 10] ?_
 refine E.seq ?_
 refine E.reg hr (by simp; rfl) ?_
 rw [hX]
 refine E.seq ?_
 refine E.reg hr (by simp [-loadA, hld, h131]; rfl) ?_
 refine E.seq ?_
 refine E.seq ?_
 have hld2 := load196 (H := (n + 1, Blk.cells [.string s, .slice oa ts.length c, iv W] 196) :: X) (n := n + 1) (s := s) (u := .slice oa ts.length c) (W := W) (by rw [hget_cons, if_pos rfl])
 have h92 : ∀ Y m, g92 [iv w] Y m = some (iv (velV w), Y, m) := fun _ _ => rfl
 have h98 : ∀ Y m, g98 [iv st] Y m = some (iv (withinV st 0 1024), Y, m) := fun _ _ => rfl
 refine E.reg hr (by simp [-loadA, hld2, h132, h92, h98, hI4]; rfl) ?_
 obtain ⟨G, hG⟩ : ∃ G, (n + 1, Blk.cells [.string s, .slice oa ts.length c, iv W] 196) :: X = G := ⟨_, rfl⟩
 have hSG : Sub (tidy n H) G := by rw [← hG]; exact hS.trans (Sub.cons (hXn _ (Nat.le_refl _)) (Sub.refl _))
 have hGnm : namesOk (n + 2) G = true := by rw [← hG]; exact namesOk_put (by omega) (namesOk_mono (by omega) _ hnm)
 have hGb : hget G (n + 1) = some (.cells [.string s, .slice oa ts.length c, iv W] 196) := by rw [← hG, hget_cons, if_pos rfl]
 have hGn : ∀ j, n + 2 ≤ j → hget G j = none := fun j hj => by
   cases hc : hget G j with
   | none => rfl
   | some b => exact absurd (namesOk_iff.1 hGnm (j, b) (hget_mem _ _ _ hc)) (by simp; omega)
 refine E.lead { fr := [(1, iv t), (2, iv w), (3, iv st), (10, ptA (n + 1)), (12, iv el)], sz := 45, H := G, n := n + 3, marks := [], vs := [1, 2, 3, 4, 8, 9, 10] } (.keep rfl rfl rfl (by simp) (by rw [← hG]; exact Sub.cons (by rw [hget_cons, if_neg (by omega)]; exact hXn _ (by omega)) (Sub.refl _))) ?_
 refine E.seq ?_
 refine E.reg hr0 (by simp; rfl) ?_
 by_cases hz : el = 0
 rotate_left
 · rw [if_neg hz] at hRL
   subst hRL
   refine E.cond (t := true) (by simp [hz]) (fun _ => ?_) (fun h => by cases h)
   refine E.seq ?_
   refine E.reg hr0 (by simp; rfl) ?_
   refine E.ret ?_
   show Ab.outM Tryz.prog Tryz.f58 (fun u Z _ => Fresh n (n + 1) (tidy n H) (.tuple #[outS n 0, .int .i64 el]) (outSB n 3 1 0 []) u Z) .ret _
   exact outM.ret G rfl (vs := [.slice none 0 0, iv el]) rfl (fresh_ls (o := n) (k := 0) (fun h => absurd rfl h) (Nat.le_refl _) rfl (fun _ => rfl) hSG)
 rw [if_pos hz] at hRL
 rw [hz] at hE
 obtain ⟨f1, f2, f3, f4⟩ := first4 hE.symm
 rw [if_pos f1] at hWd
 have hok := hsh f1
 have g2 := within_zero f2
 have g3 : 1 ≤ w ∧ w ≤ 1000000000 := within_zero f3
 have g4 := within_zero f4
 have hw0 := hok.w0
 refine E.cond (t := false) (by simp [hz]) (fun h => by cases h) (fun _ => ?_)
 refine E.skip ?_
 refine E.seq ?_
 refine E.reg hr0 (by simp; rfl) ?_
 refine E.seq ?_
 refine E.seq ?_
 have hld3 := load196 (H := (n + 3, Blk.cells [.slice none 0 0] 24) :: G) (n := n + 1) (s := s) (u := .slice oa ts.length c) (W := W) (by rw [hget_cons, if_neg (by omega)]; exact hGb)
 refine E.reg hr (by simp [-loadA, hld3, g133]; rfl) ?_
 refine E.block ?_
 refine E.lead { fr := fr58 n, sz := 45, H := (n + 7, .cells [iv st] 3) :: (n + 6, .cells [iv w] 3) :: (n + 5, .cells [iv t] 3) :: (n + 4, .cells [.string s, .slice oa ts.length c, iv W] 196) :: (n + 3, Blk.cells [.slice none 0 0] 24) :: G, n := n + 8, marks := [], vs := [13] } (.keep rfl rfl rfl (by simp) (Sub.refl _)) ?_
 refine E.rangeX (x := asg58) (y := bdy58) rfl ent169 ?_
 obtain ⟨B, hB⟩ : ∃ B, (n + 7, Blk.cells [iv st] 3) :: (n + 6, .cells [iv w] 3) :: (n + 5, .cells [iv t] 3) :: (n + 4, .cells [.string s, .slice oa ts.length c, iv W] 196) :: tidy n H = B := ⟨_, rfl⟩
 have hSB : Sub (tidy n H) B := by
   intro k b hk
   have := tidy_lt _ _ hk
   rw [← hB, hget_cons, if_neg (by omega), hget_cons, if_neg (by omega), hget_cons, if_neg (by omega), hget_cons, if_neg (by omega)]
   exact hk
 have htB : trcV B (.slice oa ts.length c) = some ts := listV_mono decT_mono hSB ht
 have hBlt : ∀ k b, hget B k = some b → k < n + 10 := fun k b hk => by
   rw [← hB, hget_cons, hget_cons, hget_cons, hget_cons] at hk
   split at hk
   · omega
   split at hk
   · omega
   split at hk
   · omega
   split at hk
   · omega
   · have := tidy_lt _ _ hk; omega
 have hBn : ∀ j, n ≤ j → (j < n + 4 ∨ n + 7 < j) → hget B j = none := fun j h1 h2 => by
   rw [← hB, hget_cons, if_neg (by omega), hget_cons, if_neg (by omega), hget_cons, if_neg (by omega), hget_cons, if_neg (by omega)]
   exact hT j h1
 obtain ⟨Z, hZ⟩ : ∃ Z, (n + 7, Blk.cells [iv st] 3) :: (n + 6, .cells [iv w] 3) :: (n + 5, .cells [iv t] 3) :: (n + 4, .cells [.string s, .slice oa ts.length c, iv W] 196) :: (n + 3, Blk.cells [.slice none 0 0] 24) :: G = Z := ⟨_, rfl⟩
 have hZ3 : hget Z (n + 3) = some (.cells [.slice none 0 0] 24) := by
   rw [← hZ, hget_cons, if_neg (by omega), hget_cons, if_neg (by omega), hget_cons, if_neg (by omega), hget_cons, if_neg (by omega), hget_cons, if_pos rfl]
 have hBZ : Sub B Z := by
   intro k b hk
   rw [← hB, hget_cons, hget_cons, hget_cons, hget_cons] at hk
   rw [← hZ, hget_cons, hget_cons, hget_cons, hget_cons]
   split
   · rename_i e; rw [if_pos e] at hk; exact hk
   rename_i e1; rw [if_neg e1] at hk
   split
   · rename_i e; rw [if_pos e] at hk; exact hk
   rename_i e2; rw [if_neg e2] at hk
   split
   · rename_i e; rw [if_pos e] at hk; exact hk
   rename_i e3; rw [if_neg e3] at hk
   split
   · rename_i e; rw [if_pos e] at hk; exact hk
   rename_i e4; rw [if_neg e4] at hk
   have := tidy_lt _ _ hk
   rw [hget_cons, if_neg (by omega)]
   exact hSG _ _ hk
 have hZn : namesOk (n + 8) Z = true := by rw [← hZ]; exact namesOk_put (by omega) (namesOk_put (by omega) (namesOk_put (by omega) (namesOk_put (by omega) (namesOk_put (by omega) (namesOk_mono (by omega) _ hGnm)))))
 have hZlt : ∀ k b, hget Z k = some b → k < n + 8 := fun k b hk => namesOk_iff.1 hZn (k, b) (hget_mem _ _ _ hk)
 let I : Nat → Heap → Nat → Prop := fun i H N => ∃ o, Ls B (n + 10) [(n + 8, .defd), (n + 9, lb58 n .ready none)] (n + 3) 24 3 ((livL ts t w st i).map iv) H N o
 have hstart : I 0 ((n + 9, lb58 n .ready none) :: (n + 8, .defd) :: Z) (n + 10) := by
   refine ⟨n + 10, ?_, fun h => absurd rfl h, Nat.le_refl _⟩
   have hs0 : Sub B ((n + 9, lb58 n .ready none) :: (n + 8, .defd) :: Z) := fun k b hk => by
     have := hZlt _ _ (hBZ _ _ hk)
     rw [hget_cons, if_neg (by omega), hget_cons, if_neg (by omega)]
     exact hBZ _ _ hk
   refine (((Kp.start hBlt hs0 (namesOk_put (by omega) (namesOk_put (by omega) (namesOk_mono (by omega) _ hZn))) (Nat.le_refl _)).more (l := n + 9) (c := lb58 n .ready none) (by simp) (by omega) (hBn _ (by omega) (by omega)) (by simp)).more (l := n + 8) (c := .defd) (by simp) (by omega) (hBn _ (by omega) (by omega)) (by simp)).more (l := n + 3) (c := .cells [outS (n + 10) ((livL ts t w st 0).map iv).length] 24) ?_ (by omega) (hBn _ (by omega) (by omega)) (by simp)
   rw [hget_cons, if_neg (by omega), hget_cons, if_neg (by omega)]
   exact hZ3
 obtain ⟨v', H', n', hAC, hend⟩ := it169 (B := B) (l := n + 9) (kb := n + 4) (k1 := n + 5) (k2 := n + 6) (k3 := n + 7) (s := s) (t := t) (w := w) (st := st) (by rw [← hB, ← hWd]; simp) (by rw [← hB]; simp) (by rw [← hB]; simp) (by rw [← hB]; simp) (hSB _ _ hR) htB hok (by omega) g3 g4 I (fun _ _ => False) (fun i H N h => by obtain ⟨o, h⟩ := h; exact h.kp.sub) (fun i H N h => by obtain ⟨o, h⟩ := h; exact h.kp.nm)
   (fun i H N cs hi h hd => by
     obtain ⟨o, h⟩ := h
     exact ⟨o, by rw [livL_dead hd]; exact h.skip _⟩)
   (fun i Hx N cs b hi hI hlv hh hb => by
     obtain ⟨o, hI⟩ := hI
     have hlen := livL_len ts t w st i
     have hS1 := hI.skip (.cells cs 159)
     refine (yieldF_ex (K := fun b H' N' => if b = true then I (i + 1) H' N' else False) (hS1.kp.at' 2 _ rfl) rfl (fun c h => by cases h) (fun c h => by cases h) ?_)
     refine E.reg hr0 (by simp; rfl) ?_
     refine ⟨rfl, hS1.kp.at' 2 _ rfl, ?_⟩
     have hY := hS1.other 1 rfl (lb58 n .busy none)
     obtain ⟨Y, hYe⟩ : ∃ Y, hset ((N, Blk.cells cs 159) :: Hx) (n + 9) (lb58 n .busy none) = Y := ⟨_, rfl⟩
     rw [hYe] at hY ⊢
     have hc : cellA Y (n + 3) 0 = _ := hY.kp.cell 0 rfl 0
     obtain ⟨Hy, Hz, hap, hst, hL⟩ := hY.app (P := Tryz.prog) (st := 24) (i := Tryz.t3) (v := iv i) Tryz.underlying24 inf3 sz3i zo3 by3 (by rw [List.length_map]; omega) rfl
     simp only [List.length_map, List.getElem?_cons_zero] at hc hap hst
     rw [outS_ne (Nat.succ_ne_zero _)] at hap hst
     refine E.block ?_
     refine E.reg hr0 (by simp [-cellA, -builtinA, -storeA, hc, hap, hst]; rfl) ?_
     refine ⟨hL.kp.at' 2 _ rfl, .inl ⟨rfl, N + 1 + 1, ?_⟩⟩
     have := hL.other 1 rfl (lb58 n .ready none)
     rw [livL_live hlv, List.map_append]
     exact this)
   (H := (n + 9, lb58 n .ready none) :: (n + 8, .defd) :: Z) (n := n + 10) hstart
 rw [hZ]
 refine ⟨v', H', n', hAC, ?_⟩
 rcases hend with ⟨o, hI⟩ | hI
 · refine .inl ⟨hI.kp.at' 2 _ rfl, ?_⟩
   have hY := hI.other 1 rfl (lb58 n .exhausted none)
   show E Tryz.prog n none _ { fr := fr58 n, sz := 45, H := hset H' (n + 9) (lb58 n .exhausted none), n := n', marks := [n + 8], vs := [13] } _
   obtain ⟨Y, hYe⟩ : ∃ Y, hset H' (n + 9) (lb58 n .exhausted none) = Y := ⟨_, rfl⟩
   rw [hYe] at hY ⊢
   have hc : cellA Y (n + 3) 0 = _ := hY.kp.cell 0 rfl 0
   rw [← hRL] at hY hc
   simp only [List.length_map, List.getElem?_cons_zero] at hc
   refine E.seq ?_
   refine E.reg hr0 (by simp [-cellA, hc]; rfl) ?_
   refine E.ret ?_
   show Ab.outM Tryz.prog Tryz.f58 (fun u Z _ => Fresh n (n + 1) (tidy n H) (.tuple #[outS n l.length, .int .i64 el]) (outSB n 3 1 l.length (l.map iv)) u Z) .ret _
   rw [hz]
   refine outM.ret (hdel Y (n + 8)) (shut_one (hY.kp.at' 1 _ rfl)) (vs := [outS o l.length, iv 0]) rfl (fresh_ls (o := o) (fun hk => ?_) (by have := hY.low; omega) (afL_iv _) (fun ρ => ivs_ren ρ _) ?_)
   · obtain ⟨h1, h2, _⟩ := hY.out (by simpa using hk)
     rw [hget_hdel, if_neg (by omega)]
     exact h1
   · exact hSB.trans (sub_hdel hY.kp.sub (hY.kp.low 1 _ rfl).2)
 · exact hI.elim
end Go.Proofs.YtkongcnmkiihjaaGreatDoor

namespace Go.Ab
open Go
theorem shut_all : ∀ (ms : List Nat) {H : Heap}, ms.Nodup → (∀ m ∈ ms, hget H m = some .defd) → ∃ H2, shutA ms H = some H2 ∧ ∀ k, k ∉ ms → hget H2 k = hget H k
 | [], H, _, _ => ⟨H, rfl, fun _ _ => rfl⟩
 | m :: ms, H, hn, hm => by
   obtain ⟨h1, h2⟩ := List.nodup_cons.1 hn
   obtain ⟨H2, e1, e2⟩ := shut_all ms (H := hdel H m) h2 fun k hk => by
     rw [hget_hdel, if_neg (show ¬ k = m from fun e => h1 (by rw [← e]; exact hk))]
     exact hm k (List.mem_cons_of_mem _ hk)
   refine ⟨H2, ?_, fun k hk => ?_⟩
   · unfold shutA
     rw [hm m (List.mem_cons_self ..)]
     exact e1
   · rw [e2 k fun h => hk (List.mem_cons_of_mem _ h), hget_hdel, if_neg (show ¬ k = m from fun e => hk (by rw [e]; exact List.mem_cons_self ..))]
def sumI {α : Type} (f : α → Int) : List α → Int
 | [] => 0
 | x :: l => f x + sumI f l
theorem sumI_snoc {α : Type} {f : α → Int} {x : α} : ∀ l : List α, sumI f (l ++ [x]) = sumI f l + f x
 | [] => by simp [sumI]
 | y :: l => by
   rw [List.cons_append, sumI, sumI, sumI_snoc l]
   omega
theorem sumI_abs {α : Type} {f : α → Int} {M : Nat} : ∀ (l : List α), (∀ x ∈ l, (f x).natAbs ≤ M) → (sumI f l).natAbs ≤ M * l.length
 | [], _ => Nat.le_refl _
 | y :: l, h => by
   have h1 := h y (List.mem_cons_self ..)
   have h2 := sumI_abs l fun x hx => h x (List.mem_cons_of_mem _ hx)
   rw [sumI, List.length_cons, Nat.mul_succ]
   omega
theorem sumI_nonneg {α : Type} {f : α → Int} : ∀ (l : List α), (∀ x ∈ l, 0 ≤ f x) → 0 ≤ sumI f l
 | [], _ => Int.le_refl _
 | y :: l, h => by
   have h1 := h y (List.mem_cons_self ..)
   have h2 := sumI_nonneg l fun x hx => h x (List.mem_cons_of_mem _ hx)
   rw [sumI]
   omega
theorem sq_abs {x : Int} {M : Nat} (h : x.natAbs ≤ M) : 0 ≤ x * x ∧ x * x ≤ (M * M : Nat) := by
 have h1 : x * x = ((x.natAbs * x.natAbs : Nat) : Int) := by
   rw [Int.natCast_mul]
   exact (Int.natAbs_mul_self' x).symm
 have h2 : x.natAbs * x.natAbs ≤ M * M := Nat.mul_le_mul h h
 rw [h1]
 exact ⟨Int.natCast_nonneg _, by exact_mod_cast h2⟩
end Go.Ab

namespace Go.Ab
open Go Ieee
def smp (b : Nat) (n : Int) : Prop := fin32 b = true ∧ 16 * val32 b = n * UV
theorem abs16 {x y : Int} {u : Nat} (e : 16 * x = y * u) : 16 * x.natAbs = y.natAbs * u := by
 have h := congrArg Int.natAbs e
 rw [Int.natAbs_mul, Int.natAbs_mul, Int.natAbs_natCast] at h
 exact h
theorem UVZ : (0 : Int) < (UV : Int) := by exact_mod_cast UV_pos
theorem smp_ord {a b : Nat} {m n : Int} (ha : smp a m) (hb : smp b n) : single.order a b = some (compare m n) := by
 rw [ord32 ha.1 hb.1, ← compare_mul (a := m) (c := UV) UVZ, ← ha.2, ← hb.2, Int.mul_comm 16, Int.mul_comm 16, compare_mul (by decide)]
theorem smp_zero : smp 0 0 := by
 obtain ⟨h1, h2⟩ := fin0
 exact ⟨h1, by rw [h2]; simp⟩
theorem smp_told {n : Int} (hn : n.natAbs < 2 ^ 24) : ∃ r, single.div (FloatKind.f32.nearest n) 1098907648 = some r ∧ smp r n := by
 obtain ⟨r, h1, h2, h3⟩ := div16 hn
 exact ⟨r, h1, h2, h3⟩
theorem smp_abs {b : Nat} {n : Int} (h : smp b n) (hn : n.natAbs ≤ 16384) : (val32 b).natAbs ≤ 2 ^ 10 * UV := by
 have e2 := abs16 h.2
 have : n.natAbs * UV ≤ 16384 * UV := Nat.mul_le_mul_right _ hn
 generalize UV = u at e2 this ⊢
 omega
theorem smp_good {b : Nat} {n : Int} (h : smp b n) (hn : n.natAbs ≤ 16384) : good32 b = true ∧ six32 b = n := by
 refine ⟨?_, ?_⟩
 · unfold good32
   have hd : UV ∣ (16 * val32 b).natAbs := by
     rw [Int.natAbs_mul, show (16 : Int).natAbs = 16 from rfl, abs16 h.2]
     exact Nat.dvd_mul_left _ _
   rw [h.1, decide_eq_true (smp_abs h hn), decide_eq_true hd]
   rfl
 · unfold six32
   rw [h.2, Int.mul_tdiv_cancel _ (Int.ne_of_gt UVZ)]
end Go.Ab

namespace Go.Proofs.YtkongcnmkiihjaaGreatDoor
open Go Go.Ab Go.Proofs
theorem intsOf_iv : ∀ l : List Int, intsOf (l.map iv) = some l
 | [] => rfl
 | a :: l => by simp [intsOf, intsOf_iv l]
end Go.Proofs.YtkongcnmkiihjaaGreatDoor

namespace Go.Proofs.YtkongcnmkiihjaaGreatDoor
open Go Go.Ab Go.Proofs
end Go.Proofs.YtkongcnmkiihjaaGreatDoor

namespace Go.Proofs.YtkongcnmkiihjaaGreatDoor
open Go Go.Ab Go.Proofs
theorem max33 (a b : Int) (c : Array Bool) : runP Tryz.prog (builtin .max #[3, 3] 3 c #[iv a, iv b]) = some (.value (iv (max a b))) := by
 have h : runP Tryz.prog (builtin .max #[3, 3] 3 c #[iv a, iv b]) = some (.value (.int .i64 (if b > a then b else a))) := rfl
 rw [h]
 congr 3
 split <;> omega
end Go.Proofs.YtkongcnmkiihjaaGreatDoor

namespace Go.Proofs.YtkongcnmkiihjaaGreatDoor
open Go Go.Ab Go.Proofs
attribute [simp] Tryz.t160 Tryz.t96
structure Pk where
 t : Int
 q : Int
 e : Int
end Go.Proofs.YtkongcnmkiihjaaGreatDoor

namespace Go.Proofs.YtkongcnmkiihjaaGreatDoor
open Go Go.Ab Go.Proofs
end Go.Proofs.YtkongcnmkiihjaaGreatDoor

namespace Go.Proofs.YtkongcnmkiihjaaGreatDoor
open Go Go.Ab Go.Proofs
end Go.Proofs.YtkongcnmkiihjaaGreatDoor

namespace Go.Proofs.YtkongcnmkiihjaaGreatDoor
open Go Go.Ab Go.Proofs
end Go.Proofs.YtkongcnmkiihjaaGreatDoor

namespace Go.Proofs.YtkongcnmkiihjaaGreatDoor
open Go Go.Ab Go.Proofs
end Go.Proofs.YtkongcnmkiihjaaGreatDoor

namespace Go.Proofs.YtkongcnmkiihjaaGreatDoor
open Go Go.Ab Go.Proofs
end Go.Proofs.YtkongcnmkiihjaaGreatDoor

namespace Go.Proofs.YtkongcnmkiihjaaGreatDoor
open Go Go.Ab Go.Proofs
end Go.Proofs.YtkongcnmkiihjaaGreatDoor

namespace Go.Proofs.YtkongcnmkiihjaaGreatDoor
open Go Go.Ab Go.Proofs
end Go.Proofs.YtkongcnmkiihjaaGreatDoor

namespace Go.Ab
open Go
end Go.Ab
namespace Go.Proofs.YtkongcnmkiihjaaGreatDoor
open Go Go.Ab Go.Proofs
end Go.Proofs.YtkongcnmkiihjaaGreatDoor

namespace Go.Proofs.YtkongcnmkiihjaaGreatDoor
open Go Go.Ab Go.Proofs
end Go.Proofs.YtkongcnmkiihjaaGreatDoor

namespace Go.Proofs.YtkongcnmkiihjaaGreatDoor
open Go Go.Ab Go.Proofs
end Go.Proofs.YtkongcnmkiihjaaGreatDoor

namespace Go.Proofs.YtkongcnmkiihjaaGreatDoor
open Go Go.Ab Go.Proofs
end Go.Proofs.YtkongcnmkiihjaaGreatDoor

namespace Go.Proofs.YtkongcnmkiihjaaGreatDoor
open Go Go.Ab Go.Proofs
end Go.Proofs.YtkongcnmkiihjaaGreatDoor

namespace Go.Proofs.YtkongcnmkiihjaaGreatDoor
end Go.Proofs.YtkongcnmkiihjaaGreatDoor

namespace Go.Proofs.YtkongcnmkiihjaaGreatDoor
open Go Go.Ab Go.Proofs
end Go.Proofs.YtkongcnmkiihjaaGreatDoor

namespace Go.Proofs.YtkongcnmkiihjaaGreatDoor
open Go Go.Ab Go.Proofs
end Go.Proofs.YtkongcnmkiihjaaGreatDoor

namespace Go.Proofs.YtkongcnmkiihjaaGreatDoor
open Go Go.Ab Go.Proofs
end Go.Proofs.YtkongcnmkiihjaaGreatDoor

namespace Go.Ab
open Go
end Go.Ab

namespace Go.Ab
open Go
end Go.Ab

namespace Go.Proofs.YtkongcnmkiihjaaGreatDoor
open Go Go.Ab Go.Proofs
end Go.Proofs.YtkongcnmkiihjaaGreatDoor

namespace Go.Ab
open Go
end Go.Ab
namespace Go.Proofs.YtkongcnmkiihjaaGreatDoor
open Go Go.Ab Go.Proofs
end Go.Proofs.YtkongcnmkiihjaaGreatDoor

namespace Go.Proofs.YtkongcnmkiihjaaGreatDoor
open Go Go.Ab Go.Proofs
def gcdI (a b : Int) : Int := (Nat.gcd a.natAbs b.natAbs : Nat)
theorem build96 {fr : Fr} {H : Heap} {n : Nat} {x y : Operand} {a b : Int} (hx : evO Tryz.prog fr x = some (iv a)) (hy : evO Tryz.prog fr y = some (iv b)) : opBuild Tryz.prog 96 #[(0, x), (1, y)] fr H n = some (.agg #[iv a, iv b], H, n) := by
 unfold opBuild
 simp only [evPs_cons, evPs_nil, hx, hy]
 kernel_rfl
theorem gcd_pos {a b : Int} (hb : 1 ≤ b) : 1 ≤ gcdI a b := by
 unfold gcdI
 have : 0 < Nat.gcd a.natAbs b.natAbs := Nat.gcd_pos_of_pos_right _ (by omega)
 omega
theorem tdiv_bound {a g : Int} (_hg : 1 ≤ g) (h : -4611686018427387904 ≤ a ∧ a ≤ 4611686018427387904) : IntKind.i64.wrap (a.tdiv g) = a.tdiv g := by
 have h1 : (a.tdiv g).natAbs ≤ a.natAbs := by rw [Int.natAbs_tdiv]; exact Nat.div_le_self _ _
 exact W_in (by omega) (by omega)
abbrev ratV (a b : Int) : Value := .agg ⟨[iv (a.tdiv (gcdI a b)), iv (b.tdiv (gcdI a b))]⟩
set_option maxRecDepth 100000 in
theorem w124 (a b : Int) (ha : -4611686018427387904 ≤ a ∧ a ≤ 4611686018427387904) (hb : 1 ≤ b ∧ b ≤ 4611686018427387904) : AC Tryz.prog 124 [iv a, iv b] [] 9 (ratV a b) [] 9 := by
 have hr := recT_ok (P := Tryz.prog) (l := []) (by simp)
 have hn : IntKind.i64.wrap (-a) = -a := W_in (by omega) (by omega)
 have hm : max a (-a) = (a.natAbs : Int) := by omega
 have hbn : b = (b.natAbs : Int) := by omega
 have hg := gcd_pos (a := a) hb.1
 refine AC.pure Tryz.func124 rfl (by kernel_rfl) rfl [0, 1, 4, 5, 6] rfl ?_
 refine E.seq ?_
 refine E.reg hr (by simp; rfl) ?_
 refine E.seq ?_
 refine E.reg hr (by simp [max33, hn, hm]; rfl) ?_
 refine E.seq ?_
 refine E.block ?_
 refine E.loop ?_
 refine EL.ind (fun x : Nat × Nat => { fr := [(0, iv a), (1, iv b), (4, .pointer (some ⟨9, 0, none⟩)), (5, iv x.1), (6, iv x.2)], sz := 25, H := [(9, .cells [iv 0, iv 0] 96)], n := 10, marks := [], vs := [0, 1, 4, 5, 6] }) (fun x => x.2) (fun x => (Nat.gcd x.1 x.2 : Int) = gcdI a b) (a.natAbs, b.natAbs) (.less rfl rfl rfl (by simp [← hbn]) (by simp)) rfl (fun _ => rfl) ?_
 intro ⟨p, q⟩ hgood
 dsimp only at hgood
 refine E.seq ?_
 refine E.seq ?_
 refine E.reg hr (by simp; rfl) ?_
 refine E.cond (by rfl) (fun h => ?_) (fun h => ?_)
 · simp at h
   have hq : (q : Int) ≠ 0 := by omega
   have hmod : (p : Int).tmod (q : Int) = ((p % q : Nat) : Int) := by
     rw [Int.tmod_eq_emod_of_nonneg (by omega)]
     exact (Int.natCast_emod p q).symm
   refine E.skip ?_
   refine E.block ?_
   refine E.drawC mixed hr [] [] [] (by kernel_rfl) (by simp [bin_rem hq, hmod]; rfl) ?_
   refine ⟨(q, p % q), .less rfl rfl rfl (by simp) (by simp), ?_, ?_⟩
   · dsimp only
     rw [← hgood, Nat.gcd_comm q, ← Nat.gcd_rec, Nat.gcd_comm]
   · exact Nat.mod_lt _ (by omega)
 · simp at h
   subst h
   have hp : (p : Int) = gcdI a b := by simpa using hgood
   have hp0 : (p : Int) ≠ 0 := by omega
   have e1 : IntKind.i64.wrap (a.tdiv (p : Int)) = a.tdiv (p : Int) := tdiv_bound (by omega) ha
   have e2 : IntKind.i64.wrap (b.tdiv (p : Int)) = b.tdiv (p : Int) := tdiv_bound (by omega) (by omega)
   refine E.exit ?_
   refine E.seq ?_
   refine E.drawC mixed hr [7] [7] [7] (by kernel_rfl) (by simp [bin_quo hp0, e1, e2, build96]; rfl) ?_
   refine E.ret ?_
   exact pureK.ret rfl rfl (by simp [← hp]; kernel_rfl) (by repeat first | exact sub_refl _ | refine sub_cons rfl ?_)
theorem w166 (a b : Int) (ha : -4611686018427387904 ≤ a ∧ a ≤ 4611686018427387904) (hb : 1 ≤ b ∧ b ≤ 4611686018427387904) : AC Tryz.prog 166 [iv a, iv b] [] 9 (iv (gcdI a b)) [] 9 := by
 have hr := recT_ok (P := Tryz.prog) (l := []) (by simp)
 refine AC.pure Tryz.func166 rfl (by kernel_rfl) rfl [0, 1] rfl ?_
 refine E.seq ?_
 refine E.reg hr (by simp; rfl) ?_
 refine E.seq ?_
 refine E.block ?_
 refine E.loop ?_
 refine EL.ind (fun x : Int × Int => { fr := [(0, iv x.1), (1, iv x.2)], sz := 16, H := [], n := 9, marks := [], vs := [0, 1] }) (fun x => x.2.natAbs) (fun x => gcdI x.1 x.2 = gcdI a b ∧ x.1.natAbs ≤ 4611686018427387904 ∧ x.2.natAbs ≤ 4611686018427387904) (a, b) (.less rfl rfl rfl (by simp) (by simp)) ⟨rfl, by dsimp only; omega, by dsimp only; omega⟩ (fun _ => rfl) ?_
 intro ⟨p, q⟩ ⟨hgood, hpb, hqb⟩
 dsimp only at hgood hpb hqb
 refine E.seq ?_
 refine E.seq ?_
 refine E.reg hr (by simp; rfl) ?_
 refine E.cond (by rfl) (fun h => ?_) (fun h => ?_)
 · simp at h
   have hna : (p.tmod q).natAbs = p.natAbs % q.natAbs := Int.natAbs_tmod ..
   refine E.skip ?_
   refine E.block ?_
   refine E.drawC mixed hr [] [] [] (by kernel_rfl) (by simp [bin_rem h]; rfl) ?_
   have hlt : p.natAbs % q.natAbs < q.natAbs := Nat.mod_lt _ (by omega)
   refine ⟨(q, p.tmod q), .less rfl rfl rfl (by simp) (by simp), ⟨?_, ?_, ?_⟩, ?_⟩
   · dsimp only
     rw [← hgood]
     unfold gcdI
     rw [hna, Nat.gcd_comm q.natAbs, ← Nat.gcd_rec, Nat.gcd_comm]
   · dsimp only
     omega
   · dsimp only
     omega
   · dsimp only
     omega
 · simp at h
   subst h
   have hp : (p.natAbs : Int) = gcdI a b := by rw [← hgood]; simp [gcdI]
   refine E.exit ?_
   refine E.seq ?_
   refine E.seq ?_
   refine E.reg hr (by simp; rfl) ?_
   refine E.cond (by rfl) (fun h2 => ?_) (fun h2 => ?_)
   · simp at h2
     have hw : IntKind.i64.wrap (-p) = -p := W_in (by omega) (by omega)
     refine E.seq ?_
     refine E.reg hr (by simp [hw]; rfl) ?_
     refine E.ret ?_
     exact pureK.ret rfl rfl (by rw [← hp]; simp; omega) (by repeat first | exact sub_refl _ | refine sub_cons rfl ?_)
   · simp at h2
     refine E.skip ?_
     refine E.seq ?_
     refine E.reg hr (by simp; rfl) ?_
     refine E.ret ?_
     exact pureK.ret rfl rfl (by rw [← hp]; simp; omega) (by repeat first | exact sub_refl _ | refine sub_cons rfl ?_)
def ratB (a b : Int) : Prop := (-4611686018427387904 ≤ a ∧ a ≤ 4611686018427387904) ∧ (1 ≤ b ∧ b ≤ 4611686018427387904)
instance (a b : Int) : Decidable (ratB a b) := by unfold ratB; infer_instance
def gRat (F : Int → Int → Value) (args : List Value) (H : Heap) (n : Nat) : R := match args with
 | [.int .i64 a, .int .i64 b] => if ratB a b then some (F a b, H, n) else none
 | _ => none
theorem okRat {f : FuncId} {F : Int → Int → Value} (hF : ∀ a b, af (F a b) = true) (h : ∀ a b, (-4611686018427387904 ≤ a ∧ a ≤ 4611686018427387904) → (1 ≤ b ∧ b ≤ 4611686018427387904) → AC Tryz.prog f [iv a, iv b] [] 9 (F a b) [] 9) : EntOk Tryz.prog (f, gRat F) := by
 intro args H n v H' n' h'
 simp only [gRat] at h'
 split at h'
 · split at h'
   · rename_i hc
     injection h' with h'; injection h' with e1 e2; injection e2 with e2 e3; subst e1 e2 e3
     exact AC.liftP (hF _ _) (Part.plain (by simp) [] (by simp [Seen]) gsz ⟨_, _, h _ _ hc.1 hc.2⟩)
   · cases h'
 · cases h'
theorem ok124 : EntOk Tryz.prog (124, gRat ratV) := okRat (fun _ _ => rfl) w124
theorem ok166 : EntOk Tryz.prog (166, gRat fun a b => iv (gcdI a b)) := okRat (fun _ _ => rfl) w166
set_option maxRecDepth 100000 in
theorem w128 (a b : Int) (ha : -4611686018427387904 ≤ a ∧ a ≤ 4611686018427387904) (hb : 1 ≤ b ∧ b ≤ 4611686018427387904) : AC Tryz.prog 128 [iv a, iv b] [] 9 (ratV a b) [] 9 := by
 have hr := recT_ok (P := Tryz.prog) (l := [(166, gRat fun a b => iv (gcdI a b))]) (by simp only [List.forall_mem_cons]; exact ⟨ok166, by simp⟩)
 have hg := gcd_pos (a := a) hb.1
 have hg0 : gcdI a b ≠ 0 := by omega
 have hbn : ¬ b < 0 := by omega
 have hrb : ratB a b := ⟨ha, hb⟩
 have e1 : IntKind.i64.wrap (a.tdiv (gcdI a b)) = a.tdiv (gcdI a b) := tdiv_bound hg ha
 have e2 : IntKind.i64.wrap (b.tdiv (gcdI a b)) = b.tdiv (gcdI a b) := tdiv_bound hg (by omega)
 refine AC.pure Tryz.func128 rfl (by kernel_rfl) rfl [] rfl ?_
 refine E.seq ?_
 refine E.reg hr (by simp; rfl) ?_
 refine E.seq ?_
 refine E.seq ?_
 refine E.reg hr (by simp [hbn]; rfl) ?_
 refine E.cond (by rfl) (fun h => ?_) (fun h => ?_)
 · simp at h
 refine E.skip ?_
 refine E.seq ?_
 refine E.reg hr (by simp [gRat, hrb]; rfl) ?_
 refine E.seq ?_
 refine E.drawC mixed hr [7] [7] [7] (by kernel_rfl) (by simp [bin_quo hg0, e1, e2, build96]; rfl) ?_
 refine E.ret ?_
 exact pureK.ret rfl rfl (by simp; kernel_rfl) (by repeat first | exact sub_refl _ | refine sub_cons rfl ?_)
theorem ok128 : EntOk Tryz.prog (128, gRat ratV) := okRat (fun _ _ => rfl) w128
end Go.Proofs.YtkongcnmkiihjaaGreatDoor
