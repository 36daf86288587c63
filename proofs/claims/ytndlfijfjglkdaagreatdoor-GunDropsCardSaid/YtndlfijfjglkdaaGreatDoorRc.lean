/-
Contracts and plain reckonings behind the law GunDrops, part 3 of 8 (each under the conditions in its statement).
-/
import Derived.Maps.RangeRun
import Derived.Laws.FloatBits
import Derived.Test.YtndlfijfjglkdaaGreatDoorRb
import Derived.Test.YtndlfijfjglkdaaGreatDoorRa
import Derived.Test.YtndlfijfjglkdaaGreatDoorAf
namespace Go.Proofs.YtndlfijfjglkdaaGreatDoor
open Go Go.Ab Go.Proofs
theorem fill4 (a b c d : Int) : Instr.fill (fun i => some (i, 1)) #[.int .i64 0, .int .i64 0, .int .i64 0, .int .i64 0] [(0, iv a), (1, iv b), (2, iv c), (3, iv d)] = some #[iv a, iv b, iv c, iv d] := by kernel_rfl
def addAll (l : List Int) (b v s : Int) : List Int :=
 addAt (addAt (addAt (addAt l (b + 0) (IntKind.i64.wrap (4 * v))) (b + IntKind.i64.wrap ((periodV v s).tdiv 2)) (IntKind.i64.wrap (-2 * v))) (b + periodV v s) (IntKind.i64.wrap (2 * v))) (b + IntKind.i64.wrap (2 * periodV v s)) v
@[simp] theorem addAll_length (l : List Int) (b v s : Int) : (addAll l b v s).length = l.length := by simp [addAll]
theorem period_bounds {v s : Int} (hv : 1 ≤ v ∧ v ≤ 64) (hs : 0 ≤ s ∧ s ≤ 4) : periodV v s = 4 + v / 8 + s ∧ 4 ≤ periodV v s ∧ periodV v s ≤ 16 := by
 have h1 : v.tdiv 8 = v / 8 := Int.tdiv_eq_ediv_of_nonneg (by omega)
 unfold periodV
 rw [h1, W_in (x := v / 8) (by omega) (by omega), W_in (x := 4 + v / 8) (by omega) (by omega), W_in (by omega) (by omega)]
 omega
def lpOf : Code → Option Code
 | .loop b => some b
 | .seq a b => match lpOf a with
   | some x => some x
   | none => lpOf b
 | .block _ b => lpOf b
 | _ => none
noncomputable def lp236 : Code := match lpOf (bodyOf' Tryz.f236) with
 | some x => x
 | none => .skip
abbrev hts (v : Int) : List Int := [IntKind.i64.wrap (4 * v), IntKind.i64.wrap (-2 * v), IntKind.i64.wrap (2 * v), v]
abbrev idx (v s : Int) : List Int := [0, IntKind.i64.wrap ((periodV v s).tdiv 2), periodV v s, IntKind.i64.wrap (2 * periodV v s)]
noncomputable def S236 (l : List Int) (L c : Nat) (b v s : Int) (k : Nat) : St :=
 { fr := [(5, .pointer (some ⟨17, 0, none⟩)), (0, .func (.yield 16) #[] #[]), (24, .agg ⟨(idx v s).map iv⟩), (25, iv k)], sz := 37, H := H128 (top128 (hts v)) .ready l L c b v s, n := 18, marks := [], vs := [5, 0, 24, 25] }
set_option maxRecDepth 100000 in
theorem round236 (l : List Int) (L c : Nat) (b v s : Int) (hL : L = l.length) (hl : l.length < 2 ^ 31) (hb : 0 ≤ b ∧ b ≤ 4096) (k : Nat) (hk : k < 4) (at' h : Int) (hat : (idx v s)[k]? = some at') (hh : (hts v)[k]? = some h) (ha : 0 ≤ at' ∧ at' ≤ 4096)
   (K : Ex → St → Prop) (hnext : EL Tryz.prog 17 none lp236 (S236 (addAt l (b + at') h) L c b v s (k + 1)) K) : EL Tryz.prog 17 none lp236 (S236 l L c b v s k) K := by
 have hr := recT_ok (P := Tryz.prog) (l := []) (by simp)
 obtain ⟨r, hry, hy⟩ := yield128 (top128 (hts v)) (.inr ⟨_, rfl⟩) 18 (by omega) l c b v s at' h L hL hl hb ha
 have w1 : IntKind.i64.wrap 1 = 1 := W_in (by omega) (by omega)
 have w2 : IntKind.i64.wrap 2 = 2 := W_in (by omega) (by omega)
 have w3 : IntKind.i64.wrap 3 = 3 := W_in (by omega) (by omega)
 have w4 : IntKind.i64.wrap 4 = 4 := W_in (by omega) (by omega)
 simp at hy
 have hc : k = 0 ∨ k = 1 ∨ k = 2 ∨ k = 3 := by omega
 rcases hc with rfl | rfl | rfl | rfl
 · simp at hat hh
   subst hat hh
   rw [Int.add_zero] at hnext
   refine EL.step ?_
   refine E.seq (E.reg hr (by simp [S236]; rfl) ?_)
   refine E.seq ?_
   refine E.cond (by rfl) (fun _ => ?_) (fun h2 => ?_)
   · refine E.skip ?_
     refine E.seq (E.block ?_)
     refine E.seq (E.reg hr (by simp [partA]; rfl) ?_)
     refine E.seq (E.reg hry (by simp [hy]; rfl) ?_)
     refine E.cond (by rfl) (fun h3 => ?_) (fun _ => ?_)
     · simp at h3
     · refine E.skip ?_
       refine E.reg hr (by simp [w1]; rfl) ?_
       refine EL.lead (S236 _ L c b v s _) ?_ hnext
       exact .less rfl rfl rfl (by simp [S236]) (by simp [S236])
   · simp at h2
 · simp at hat hh
   subst hat hh
   refine EL.step ?_
   refine E.seq (E.reg hr (by simp [S236]; rfl) ?_)
   refine E.seq ?_
   refine E.cond (by rfl) (fun _ => ?_) (fun h2 => ?_)
   · refine E.skip ?_
     refine E.seq (E.block ?_)
     refine E.seq (E.reg hr (by simp [partA]; rfl) ?_)
     refine E.seq (E.reg hry (by simp [hy]; rfl) ?_)
     refine E.cond (by rfl) (fun h3 => ?_) (fun _ => ?_)
     · simp at h3
     · refine E.skip ?_
       refine E.reg hr (by simp [w2]; rfl) ?_
       refine EL.lead (S236 _ L c b v s _) ?_ hnext
       exact .less rfl rfl rfl (by simp [S236]) (by simp [S236])
   · simp at h2
 · simp at hat hh
   subst hat hh
   refine EL.step ?_
   refine E.seq (E.reg hr (by simp [S236]; rfl) ?_)
   refine E.seq ?_
   refine E.cond (by rfl) (fun _ => ?_) (fun h2 => ?_)
   · refine E.skip ?_
     refine E.seq (E.block ?_)
     refine E.seq (E.reg hr (by simp [partA]; rfl) ?_)
     refine E.seq (E.reg hry (by simp [hy]; rfl) ?_)
     refine E.cond (by rfl) (fun h3 => ?_) (fun _ => ?_)
     · simp at h3
     · refine E.skip ?_
       refine E.reg hr (by simp [w3]; rfl) ?_
       refine EL.lead (S236 _ L c b v s _) ?_ hnext
       exact .less rfl rfl rfl (by simp [S236]) (by simp [S236])
   · simp at h2
 · simp at hat hh
   subst hat hh
   refine EL.step ?_
   refine E.seq (E.reg hr (by simp [S236]; rfl) ?_)
   refine E.seq ?_
   refine E.cond (by rfl) (fun _ => ?_) (fun h2 => ?_)
   · refine E.skip ?_
     refine E.seq (E.block ?_)
     refine E.seq (E.reg hr (by simp [partA]; rfl) ?_)
     refine E.seq (E.reg hry (by simp [hy]; rfl) ?_)
     refine E.cond (by rfl) (fun h3 => ?_) (fun _ => ?_)
     · simp at h3
     · refine E.skip ?_
       refine E.reg hr (by simp [w4]; rfl) ?_
       refine EL.lead (S236 _ L c b v s _) ?_ hnext
       exact .less rfl rfl rfl (by simp [S236]) (by simp [S236])
   · simp at h2
set_option maxRecDepth 100000 in
theorem w236 (l : List Int) (L c : Nat) (b v s : Int) (hL : L = l.length) (hl : l.length < 2 ^ 31) (hb : 0 ≤ b ∧ b ≤ 4096) (hv : 1 ≤ v ∧ v ≤ 64) (hs : 0 ≤ s ∧ s ≤ 4) :
   AC Tryz.prog 236 [.func (.yield 16) #[] #[], .pointer (some ⟨13, 0, none⟩), .pointer (some ⟨14, 0, none⟩)] (H128 [] .ready l L c b v s) 17 (.tuple #[]) (H128 (top128 (hts v)) .ready (addAll l b v s) L c b v s) 18 := by
 have hr := recT_ok (P := Tryz.prog) (l := [(126, g2 periodV)]) (by simp only [List.forall_mem_cons]; exact ⟨ok126, by simp⟩)
 obtain ⟨hp, hp1, hp2⟩ := period_bounds hv hs
 have hq : IntKind.i64.wrap ((periodV v s).tdiv 2) = periodV v s / 2 := by rw [Int.tdiv_eq_ediv_of_nonneg (by omega), W_in (by omega) (by omega)]
 have h2p : IntKind.i64.wrap (2 * periodV v s) = 2 * periodV v s := W_in (by omega) (by omega)
 have w4 : IntKind.i64.wrap (3 + 1) = 4 := W_in (by omega) (by omega)
 refine AC.body Tryz.func236 rfl (by kernel_rfl) rfl [5, 0, 24, 25] ?_
 refine E.seq (E.reg hr (by simp; rfl) ?_)
 refine E.seq (E.reg hr (by simp [opBuild, fill4]; rfl) ?_)
 refine E.seq (E.reg hr (by simp [opBuild, fill4, bin_quo]; rfl) ?_)
 refine E.block (E.loop ?_)
 refine EL.lead (S236 l L c b v s 0) (.less rfl rfl rfl (by simp [S236]) (by simp [S236])) ?_
 refine round236 l L c b v s hL hl hb 0 (by omega) _ _ rfl rfl ⟨by omega, by omega⟩ _ ?_
 refine round236 _ L c b v s (by simpa using hL) (by simpa using hl) hb 1 (by omega) _ _ rfl rfl (by rw [hq]; omega) _ ?_
 refine round236 _ L c b v s (by simpa using hL) (by simpa using hl) hb 2 (by omega) _ _ rfl rfl (by omega) _ ?_
 refine round236 _ L c b v s (by simpa using hL) (by simpa using hl) hb 3 (by omega) _ _ rfl rfl (by rw [h2p]; omega) _ ?_
 refine EL.step ?_
 refine E.seq (E.reg hr (by simp [S236]; rfl) ?_)
 refine E.seq ?_
 refine E.cond (by rfl) (fun h2 => ?_) (fun h2 => ?_)
 · simp at h2
 · refine E.exit ?_
   refine ⟨.inl rfl, ?_⟩
   simp [leaveF, shutA, resultsA, Tryz.results236, dropOk, addAll]
end Go.Proofs.YtndlfijfjglkdaaGreatDoor
namespace Go.Ab
open Go
theorem AC.liftM {P : Program} {f : FuncId} {H : Heap} {n b : Nat} {cs cs' : List Value} {t : TypeId} (mk : Value → List Value) (hmk : ∀ φ φ0 s s0, den φ0 s0 = den φ s → denL φ0 (mk s0) = denL φ (mk s)) (hms : ∀ (p : Nat → Prop) s, sc p s → scL p (mk s))
   (hb : hget H b = some (.cells cs t)) (haf : afL cs = true) (haf' : afL cs' = true) {len cap N n1 : Nat} {H1 : Heap} {v : Value} (hN : P.globals.size = N) (hv : af v = true)
   (hAC : AC P f (mk (.slice (some ⟨N, 0, none⟩) len cap)) [(N, .cells cs t)] (N + 1) v H1 n1) (h1 : hget H1 N = some (.cells cs' t)) : AC P f (mk (.slice (some ⟨b, 0, none⟩) len cap)) H n v (hset H b (.cells cs' t)) n := by
 intro p φ w hB hsc
 have hpb := (hB.sm b _ hb).1
 let φ0 : Vl := ⟨fun k => if k < N then φ.loc k else φ.loc b, fun k => if k < N then φ.cap k else 0⟩
 have hl : φ0.loc N = φ.loc b := by simp [φ0]
 have h0 : ∀ k x, hget [(N, Blk.cells cs t)] k = some x → k = N ∧ x = .cells cs t := fun k x hk => by
   rw [hget_cons] at hk
   by_cases e : N = k
   · rw [if_pos e] at hk; injection hk with hk; exact ⟨e.symm, hk.symm⟩
   · rw [if_neg e] at hk; simp [hget] at hk
 have hB0 : Base P (· < N + 1) φ0 (N + 1) (hget [(N, Blk.cells cs t)]) w [] act0 := by
   refine ⟨⟨fun k x hk => ?_, fun k x k' x' h1 h2 hne _ => ?_, fun g hg => ?_⟩, fun _ h => h, fun g hg => ?_, by omega, fun k x hk => ?_, fun t v hv => by simp [lk] at hv, fun t v hv => by simp [lk] at hv⟩
   · obtain ⟨rfl, rfl⟩ := h0 k x hk
     rw [hl]
     have := hB.rel.blk b _ hb
     simp only [BRel, denL_af _ _ haf] at this ⊢
     exact this
   · exact absurd ((h0 k x h1).1.trans (h0 k' x' h2).1.symm) hne
   · simp only [φ0]; rw [if_pos (by omega)]; exact hB.rel.glob g hg
   · show g < N + 1; omega
   · obtain ⟨rfl, rfl⟩ := h0 k x hk
     exact ⟨Nat.lt_succ_self _, scL_af _ _ haf⟩
 have hgs : ∀ k x, hget (hset H b (.cells cs' t)) k = some x → (k = b ∧ x = .cells cs' t) ∨ (k ≠ b ∧ hget H k = some x) := fun k x hk => by
   rw [hget_hset] at hk
   by_cases e : b = k
   · rw [if_pos e, hb] at hk; simp at hk; exact .inl ⟨e.symm, hk.symm⟩
   · rw [if_neg e] at hk; exact .inr ⟨fun h => e h.symm, hk⟩
 have hdn : denL φ0 (mk (.slice (some ⟨N, 0, none⟩) len cap)) = denL φ (mk (.slice (some ⟨b, 0, none⟩) len cap)) := hmk _ _ _ _ (by simp [den, hl])
 refine hAC.map hB0 (hms _ _ (show N < N + 1 by omega)) hdn fun φ' w' hd => ⟨φ, by rw [den_af _ _ hv, den_af _ _ hv], ?_⟩
 obtain ⟨_, _, hst⟩ := hd
 have hloc : φ'.loc N = φ.loc b := by rw [(hst.only N (.inl (by omega))).1, hl]
 have hkeep : ∀ i, i < w.heap.size → φ.loc b ≠ i → w'.heap[i]? = w.heap[i]? := fun i hi hne => hst.frm.keep i hi fun k x hk _ => by
   obtain ⟨rfl, rfl⟩ := h0 k x hk
   rw [hl]; exact hne
 have hold : ∀ k x, hget (hset H b (.cells cs' t)) k = some x → ∃ x0, hget H k = some x0 ∧ x0.own = x.own := fun k x hk => by
   rcases hgs k x hk with ⟨rfl, rfl⟩ | ⟨_, h⟩
   · exact ⟨_, hb, rfl⟩
   · exact ⟨x, h, rfl⟩
 refine ⟨fun k x hk => ?_, sc_af _ _ hv, Nat.le_refl _, fun _ _ => ⟨rfl, rfl⟩, ⟨fun k x hk => ?_, fun k x k' x' g1 g2 hne ho => ?_, hB.rel.glob⟩, fun k x hk ho => ?_, fun k x hk ho => ?_, ⟨hst.frm.os, hst.frm.tape, hst.frm.output, hst.frm.size, fun i hi hf => hkeep i hi (hf b _ hb rfl)⟩⟩
 · rcases hgs k x hk with ⟨rfl, rfl⟩ | ⟨_, h⟩
   · exact ⟨.inl hpb, scL_af _ _ haf'⟩
   · exact ⟨.inl (hB.sm k x h).1, scB_mono (fun _ h => .inl h) _ (hB.sm k x h).2⟩
 · rcases hgs k x hk with ⟨rfl, rfl⟩ | ⟨hne, h⟩
   · have := hst.rel.blk N _ h1
     rw [hloc] at this
     simp only [BRel, denL_af _ _ haf'] at this ⊢
     exact this
   · rw [hkeep _ (hB.rel.lt h) (hB.rel.apart b _ k x hb h (fun e => hne e.symm) rfl)]
     exact hB.rel.blk k x h
 · obtain ⟨x0, e1, e2⟩ := hold k x g1
   obtain ⟨x1, e3, _⟩ := hold k' x' g2
   exact hB.rel.apart k x0 k' x1 e1 e3 hne (e2.trans ho)
 · obtain ⟨x0, e1, e2⟩ := hold k x hk
   exact .inr ⟨k, x0, e1, e2.trans ho, rfl⟩
 · rcases hgs k x hk with ⟨rfl, rfl⟩ | ⟨_, h⟩
   · cases ho
   · exact h
theorem rangeF_of {P : Program} {r : Rec} {f : Operand} {ps : Array Tmp} {x y : Code} {st : St} {g : FuncId} {first captured : Array Value} {v : Value} {H' : Heap} {k : Nat} {fr : Fr} {sz : Nat} {vs : List Nat} {d : Nat} {a b : Code}
   (hf : evO P st.fr f = some (.func (.func g) first captured)) (he : enterable P g = true)
   (hc : r.call g (first.toList ++ [.func (.yield (st.n + 1)) #[] #[]] ++ captured.toList) ((st.n + 1, .loop .ready none st.fr st.sz st.vs ps x y st.n) :: (st.n, .defd) :: st.H) (st.n + 2) = some (v, H', k))
   (hl : hget H' (st.n + 1) = some (.loop .ready none fr sz vs ps a b d)) :
   rangeF P r none f ps x y st = some (.normal, { st with H := hset H' (st.n + 1) (.loop .exhausted none fr sz vs ps a b d), n := k, marks := st.n :: st.marks }) := by
 unfold rangeF
 rw [hf]
 simp only [he, hc, hl]
 rfl
theorem E.range {P : Program} {n0 : Nat} {r : Rec} {m : Nat} (hr : RecOk P r m) {ro : Option Nat} {f : Operand} {ps : Array Tmp} {x y : Code} {st st' : St} {e : Ex} {K : Ex → St → Prop} (h : rangeF P r ro f ps x y st = some (e, st')) (k : K e st') : E P n0 ro (.rangeFunc f ps x y) st K := .at (rangeF_ok hr h) k
end Go.Ab
namespace Go.Proofs.YtndlfijfjglkdaaGreatDoor
open Go Go.Ab Go.Proofs
@[simp] theorem ent193 : enterable Tryz.prog 193 = true := by kernel_rfl
theorem ent236 : enterable Tryz.prog 236 = true := by kernel_rfl
set_option maxRecDepth 100000 in
theorem w128 (l : List Int) (c : Nat) (b v s : Int) (hl : l.length < 2 ^ 31) (hb : 0 ≤ b ∧ b ≤ 4096) (hv : 1 ≤ v ∧ v ≤ 64) (hs : 0 ≤ s ∧ s ≤ 4) : AC Tryz.prog 128 [.slice (some ⟨10, 0, none⟩) l.length c, iv b, iv v, iv s] [(10, .cells (l.map iv) 3)] 11 (.tuple #[]) [(10, .cells ((addAll l b v s).map iv) 3)] 18 := by
 have hr := ev_sound mixed (tab_ok (P := Tryz.prog) [(126, g2 periodV)] (by simp only [List.forall_mem_cons]; exact ⟨ok126, by simp⟩)) 60
 refine AC.body Tryz.func128 rfl (by kernel_rfl) rfl [] ?_
 refine E.seq (E.reg hr (by simp; rfl) ?_)
 refine E.seq (E.reg hr (by simp [ev_call, Tryz.func193, bodyF, Tryz.f193, ↓evc_seq, ↓evc_reg, ↓evc_ret, opMakefunc, leaveF, shutA, resultsA, resultA]; rfl) ?_)
 refine E.block ?_
 have hAC := w236 l l.length c b v s rfl hl hb hv hs
 refine E.range (r := recV Tryz.prog (fun _ _ _ => none) (fun _ _ _ _ => some (.tuple #[], H128 (top128 (hts v)) .ready (addAll l b v s) l.length c b v s, 18))) recV_ok (rangeF_of rfl ent236 (recV_call rfl hAC) rfl) ?_
 refine ⟨.inl rfl, ?_⟩
 simp [leaveF, shutA, resultsA, Tryz.results128, dropOk, dropNew]
open Classical in
noncomputable def g128 (args : List Value) (H : Heap) (n : Nat) : R := match args with
 | [.slice (some ⟨b, 0, none⟩) len _, .int .i64 i, .int .i64 v, .int .i64 s] => match hget H b with
   | some (.cells cs 3) => match intsOf cs with
     | some l => if len = l.length ∧ l.length < 2 ^ 31 ∧ (0 ≤ i ∧ i ≤ 4096) ∧ (1 ≤ v ∧ v ≤ 64) ∧ 0 ≤ s ∧ s ≤ 4 then some (.tuple #[], hset H b (.cells ((addAll l i v s).map iv) 3), n) else none
     | none => none
   | _ => none
 | _ => none
theorem ok128 : EntOk Tryz.prog (128, g128) := by
 intro args H n v H' n' h
 simp only [g128] at h
 split at h
 · split at h
   · rename_i cs hb
     split at h
     · rename_i l hl
       split at h
       · rename_i hc
         obtain ⟨rfl, h1, h2, h3, h4⟩ := hc
         injection h with h; injection h with e1 e2; injection e2 with e2 e3; subst e1 e2 e3
         have := intsOf_ok _ _ hl
         subst this
         exact AC.liftM (fun x => [x, iv _, iv _, iv _]) (by intro φ φ0 s s0 h; simp [denL, den, h]) (by intro p s h; exact ⟨h, trivial, trivial, trivial, trivial⟩) hb (afL_iv _) (afL_iv _) gsz rfl (w128 l _ _ _ _ h1 h2 h3 h4) rfl
       · cases h
     · cases h
   · cases h
 · cases h
theorem rep_cells (w : Nat) : ((Array.range (w * 1)).map ((if w * 1 = 0 then #[] else #[Value.int .i64 0])[· % (if w * 1 = 0 then #[] else #[Value.int .i64 0]).size]!)).toList = (List.replicate w (0 : Int)).map iv := by
 rw [List.map_replicate]
 refine List.eq_replicate_iff.2 ⟨by simp, fun x hx => ?_⟩
 simp only [Array.toList_map, List.mem_map, Array.toList_range, List.mem_range] at hx
 obtain ⟨i, hi, rfl⟩ := hx
 rw [if_neg (by omega)]
 simp [Nat.mod_one]
theorem mk45 {fr : Fr} {H : Heap} {n : Nat} {x y : Operand} {w : Int} (h0 : 0 ≤ w) (h1 : w ≤ 4096) (hx : evO Tryz.prog fr x = some (iv w)) (hy : evO Tryz.prog fr y = some (iv w)) : opMakeslice Tryz.prog 45 x y fr H n = some (.slice (some ⟨n, 0, none⟩) w.toNat w.toNat, (n, .cells ((List.replicate w.toNat (0 : Int)).map iv) 3) :: H, n + 1) := by
 unfold opMakeslice
 rw [hx, hy, Tryz.underlying45]
 have hz : Tryz.t3.zero = some (.int .i64 0) := by kernel_rfl
 have hb : Tryz.t3.bytes = 8 := by kernel_rfl
 have hs : Tryz.t3.size = 1 := by kernel_rfl
 simp only [inf3, hz, hb, hs]
 have hc : (0 ≤ w ∧ w ≤ w ∧ (smallA 8 w.toNat && afL (Value.int .i64 0).cells.toList) = true) := ⟨h0, Int.le_refl _, by simp [smallA]; omega⟩
 rw [if_pos hc]
 unfold newA
 rw [show (Value.int .i64 0).cells = #[Value.int .i64 0] from rfl, rep_cells]
def zeros (w : Nat) : List Int := List.replicate w 0
@[simp] theorem zeros_length (w : Nat) : (zeros w).length = w := by simp [zeros]
theorem addAt_get {l : List Int} {i h : Int} {j : Nat} (h0 : 0 ≤ i) (hj : j < l.length) : (addAt l i h)[j]? = if i = j then some (IntKind.i64.wrap ((l[j]?).getD 0 + h)) else l[j]? := by
 unfold addAt
 by_cases hi : i < l.length
 · rw [if_pos hi]
   have hlt : i.toNat < l.length := by omega
   by_cases e : i = j
   · subst e
     rw [show (j : Int).toNat = j by omega, List.getElem?_set_self hj]; simp
   · rw [if_neg e, List.getElem?_set_ne (by omega)]
 · rw [if_neg hi, if_neg (by omega)]
def shC (l : List Gun) (sh : List Int) (i : Nat) : Int := match l[i]?, sh[i]? with
 | some g, some n => withinV n g.lo g.hi
 | _, _ => 0
def shE (l : List Gun) (sh : List Int) : Int := if sh.length = l.length then firstV ((List.range l.length).map (shC l sh)) else 2
theorem shC_at {l : List Gun} {sh : List Int} {i : Nat} (h : i < l.length) (h2 : i < sh.length) : shC l sh i = withinV sh[i] l[i].lo l[i].hi := by
 unfold shC
 rw [List.getElem?_eq_getElem h, List.getElem?_eq_getElem h2]
theorem shE_ok {l : List Gun} {sh : List Int} (he : sh.length = l.length) (hb : ∀ j, j < l.length → shC l sh j = 0) : shE l sh = 0 := by
 unfold shE
 rw [if_pos he, firstV_map_zero hb]
theorem shE_zero {l : List Gun} {sh : List Int} (h : shE l sh = 0) : sh.length = l.length ∧ ∀ i (hi : i < l.length) (h2 : i < sh.length), l[i].lo ≤ sh[i] ∧ sh[i] ≤ l[i].hi := by
 unfold shE at h
 split at h
 · rename_i he
   refine ⟨he, fun i hi h2 => ?_⟩
   have := (firstV_zero _).1 h (shC l sh i) (List.mem_map.2 ⟨i, List.mem_range.2 hi, rfl⟩)
   rw [shC_at hi h2] at this
   exact (withinV_zero _ _ _).1 this
 · cases h
theorem w134 (i : Int) : AC Tryz.prog 134 [iv i] [] 10 (.bool true) [] 10 := by
 have hr := recT_ok (P := Tryz.prog) (l := []) (by simp)
 refine AC.pure Tryz.func134 rfl (by kernel_rfl) rfl [] rfl ?_
 refine E.seq (E.reg hr (by simp; rfl) ?_)
 refine E.seq (E.reg hr (by simp; rfl) ?_)
 refine E.ret ?_
 exact pureK.ret rfl rfl (by simp) (by repeat first | exact sub_refl _ | refine sub_cons rfl ?_)
def g134 (args : List Value) (H : Heap) (n : Nat) : R := match args with
 | [.int .i64 _] => some (.bool true, H, n)
 | _ => none
theorem ok134 : EntOk Tryz.prog (134, g134) := by
 intro args H n v H' n' h'
 simp only [g134] at h'
 split at h'
 · injection h' with h'; injection h' with e1 e2; injection e2 with e2 e3; subst e1 e2 e3
   exact AC.liftP rfl (Part.plain (by simp) [] (by simp [Seen]) gsz ⟨_, _, w134 _⟩)
 · cases h'
def vAt (l : List Gun) (i : Nat) : Int := match l[i]? with
 | some g => g.v
 | none => 0
theorem arrL_length (d : ByteArray) (l : List Gun) : (arrL d l).length = l.length := by simp [arrL]
theorem arrL_bounds {l : List Gun} (hst : strE l = 0) (d : ByteArray) : ∀ x ∈ arrL d l, 0 ≤ x ∧ x ≤ 149 := by
 intro x hx
 obtain ⟨g, hg, rfl⟩ := List.mem_map.1 hx
 have hb := strE_inB hst
 obtain ⟨i, hi, rfl⟩ := List.getElem_of_mem hg
 have h1 := (strE_len hst).1
 have h2 := co_bound (F := fOf d) hb (List.getElem_mem hi)
 have h3 := least_bound (F := fOf d) hb h1
 obtain ⟨_, _, _, _, h4, h5⟩ := hb l[i] (List.getElem_mem hi)
 have h6 := minN_le (l.map (coG (fOf d))) (l.length - 1) (by simp; omega) i (by simpa using hi) (by omega)
 rw [List.getElem_map] at h6
 have h7 : leastV (fOf d) l ≤ coG (fOf d) l[i] := h6
 unfold arrG
 have e : (coG (fOf d) l[i] - leastV (fOf d) l).tdiv 15 = (coG (fOf d) l[i] - leastV (fOf d) l) / 15 := Int.tdiv_eq_ediv_of_nonneg (by omega)
 rw [e]
 omega
end Go.Proofs.YtndlfijfjglkdaaGreatDoor
namespace Go.Ab
open Go
theorem Part.rowOneG {P : Program} {H : Heap} {n : Nat} {R : List Value → Heap → Nat → Prop} (mk : Value → Value → List Value) (hmk : ∀ φ φ0 s s0 u u0, den φ0 s0 = den φ s → den φ0 u0 = den φ u → denL φ0 (mk s0 u0) = denL φ (mk s u)) (hms : ∀ (p : Nat → Prop) s u, sc p s → sc p u → scL p (mk s u))
   {b len skip sz : Nat} {cs : List Value} (hb : rowOf H b = some (cs, sz)) (haf : afL cs = true) {a2 : Addr} {len2 cap2 m2 : Nat} {cs2 : List Value} (hf2 : flat a2 = true) (hc2 : cellsA H a2.block a2.off m2 = some cs2) (haf2 : afL cs2 = true) (G : Heap) (hG : Seen P H G) {N : Nat} (hN : P.globals.size = N)
   (h : ∀ c2, R (mk (.slice (some ⟨N, 0, some 0⟩) len skip) (.slice (some ⟨N + 1, a2.off, none⟩) len2 c2)) ((N + 1, .inp a2.off cs2) :: (N, .row cs sz) :: G) (N + 2)) : Part P (mk (.slice (some ⟨b, 0, some 0⟩) len skip) (.slice (some a2) len2 cap2)) H n R :=
 Part.genG [⟨b, .row cs sz⟩, ⟨a2.block, .inp a2.off cs2⟩] G hG hN (fun v hv => by
   rcases List.mem_cons.1 hv with rfl | hv
   · exact ⟨hb, haf⟩
   · rw [List.mem_singleton] at hv
     subst hv
     exact ⟨⟨m2, hc2⟩, haf2⟩) fun φ => by
   obtain ⟨c2', hd2⟩ := den_flat φ (ad := a2) (l := len2) (c := cap2) hf2
   refine ⟨_, fun φ0 hl => hmk φ φ0 _ (.slice (some ⟨N, 0, some 0⟩) len skip) _ (.slice (some ⟨N + 1, a2.off, none⟩) len2 c2') ?_ ?_, hms _ _ _ (show N < N + 2 by omega) (show N + 1 < N + 2 by omega), h c2'⟩
   · have h0 := hl 0 _ rfl
     simp only [Nat.add_zero] at h0
     simp only [den, h0.1, h0.2]
   · have h1 := (hl 1 _ rfl).1
     rw [hd2]; simp only [den, h1]
end Go.Ab
namespace Go.Proofs.YtndlfijfjglkdaaGreatDoor
open Go Go.Ab Go.Proofs
theorem pulse256 {v s i : Int} (hv : 1 ≤ v ∧ v ≤ 64) : -256 ≤ pulseV v s i ∧ pulseV v s i ≤ 256 := by
 have a4 : IntKind.i64.wrap (4 * v) = 4 * v := W_in (by omega) (by omega)
 have a2 : IntKind.i64.wrap (2 * v) = 2 * v := W_in (by omega) (by omega)
 have am2 : IntKind.i64.wrap (0 - 2 * v) = 0 - 2 * v := W_in (by omega) (by omega)
 unfold pulseV
 rw [a4, a2, am2]
 split
 · omega
 · split
   · omega
   · split
     · omega
     · split <;> omega
theorem addAll_get {l : List Int} {b v s : Int} (hv : 1 ≤ v ∧ v ≤ 64) (hs : 0 ≤ s ∧ s ≤ 4) (hb : 0 ≤ b ∧ b ≤ 4096) {j : Nat} (hj : j < l.length) {x : Int} (hx : l[j]? = some x) (hxb : -100000 ≤ x ∧ x ≤ 100000) : (addAll l b v s)[j]? = some (x + pulseV v s (j - b)) := by
 obtain ⟨hp, hp1, hp2⟩ := period_bounds hv hs
 have hq : IntKind.i64.wrap ((periodV v s).tdiv 2) = periodV v s / 2 := by rw [Int.tdiv_eq_ediv_of_nonneg (by omega), W_in (by omega) (by omega)]
 have h2p : IntKind.i64.wrap (2 * periodV v s) = 2 * periodV v s := W_in (by omega) (by omega)
 have a4 : IntKind.i64.wrap (4 * v) = 4 * v := W_in (by omega) (by omega)
 have a2 : IntKind.i64.wrap (2 * v) = 2 * v := W_in (by omega) (by omega)
 have am : IntKind.i64.wrap (-2 * v) = -2 * v := W_in (by omega) (by omega)
 have am2 : IntKind.i64.wrap (0 - 2 * v) = 0 - 2 * v := W_in (by omega) (by omega)
 unfold addAll
 rw [addAt_get (by omega) (by simpa using hj), addAt_get (by omega) (by simpa using hj), addAt_get (by omega) (by simpa using hj), addAt_get (by omega) hj, hx]
 unfold pulseV
 rw [hq, h2p, a4, a2, am, am2]
 generalize periodV v s = p at *
 have wr : ∀ y : Int, -200000 ≤ y → y ≤ 200000 → IntKind.i64.wrap y = y := fun y h1 h2 => W_in (by omega) (by omega)
 by_cases c0 : (j : Int) - b = 0
 · rw [if_pos c0, if_neg (by omega), if_neg (by omega), if_neg (by omega), if_pos (by omega)]; simp only [Option.getD_some]; rw [wr _ (by omega) (by omega)]
 · rw [if_neg c0]
   by_cases c1 : (j : Int) - b = p / 2
   · rw [if_pos c1, if_neg (by omega), if_neg (by omega), if_pos (by omega), if_neg (by omega)]; simp only [Option.getD_some]; rw [wr _ (by omega) (by omega)]; congr 1; omega
   · rw [if_neg c1]
     by_cases c2 : (j : Int) - b = p
     · rw [if_pos c2, if_neg (by omega), if_pos (by omega), if_neg (by omega), if_neg (by omega)]; simp only [Option.getD_some]; rw [wr _ (by omega) (by omega)]
     · rw [if_neg c2]
       by_cases c3 : (j : Int) - b = 2 * p
       · rw [if_pos c3, if_pos (by omega), if_neg (by omega), if_neg (by omega), if_neg (by omega)]; simp only [Option.getD_some]; rw [wr _ (by omega) (by omega)]
       · rw [if_neg c3, if_neg (by omega), if_neg (by omega), if_neg (by omega), if_neg (by omega)]; simp
theorem vAt_at {l : List Gun} {i : Nat} (h : i < l.length) : vAt l i = l[i].v := by
 unfold vAt
 rw [List.getElem?_eq_getElem h]
theorem getD_at {l : List Int} {i : Nat} (h : i < l.length) : l.getD i 0 = l[i] := by
 rw [List.getD_eq_getElem?_getD, List.getElem?_eq_getElem h]; rfl
theorem names_tx (l c : Nat) (e : Int) : Names1 fun m => .tuple #[.slice (some ⟨m, 0, some 0⟩) l c, iv e] := ⟨fun φ ψ m n h1 h2 => by simp [den, denL, h1, h2], fun p n h => by simp [sc, scL, h]⟩
theorem gun_order {l : List Gun} (h : strE l = 0) : ∀ g ∈ l, g.lo ≤ g.hi := by
 intro g hg
 obtain ⟨i, hi, rfl⟩ := List.getElem_of_mem hg
 have hl := strE_len h
 unfold strE at h
 rw [if_neg (by omega), if_neg (by omega)] at h
 have hc := (firstV_zero _).1 h (gunChk l i) (List.mem_map.2 ⟨i, by simpa using hi, rfl⟩)
 rw [gunChk_at hi] at hc
 have h2 := (firstV_zero _).1 hc l[i].err (by simp)
 unfold Gun.err at h2
 have h3 := (firstV_zero _).1 h2 (if l[i].hi < l[i].lo then 11 else 0) (by simp)
 split at h3
 · cases h3
 · omega
end Go.Proofs.YtndlfijfjglkdaaGreatDoor
namespace Go.Ab
open Go
mutual
theorem sc_and {p q : Nat → Prop} : ∀ v, sc p v → sc q v → sc (fun k => p k ∧ q k) v
 | .bool _, _, _ | .int _ _, _, _ | .float _ _, _, _ | .complex _ _ _, _, _ | .string _, _, _ | .nilFunc, _, _ | .nilIface, _, _ | .chan _, _, _ => by simp [sc]
 | .pointer none, _, _ | .slice none _ _, _, _ | .map none, _, _ => by simp [sc]
 | .pointer (some _), h1, h2 => ⟨h1, h2⟩
 | .slice (some _) _ _, h1, h2 => ⟨h1, h2⟩
 | .map (some _), h1, h2 => ⟨h1, h2⟩
 | .func (.yield l) a b, h1, h2 => by
   simp only [sc] at h1 h2 ⊢
   exact ⟨⟨h1.1, h2.1⟩, scL_and _ h1.2.1 h2.2.1, scL_and _ h1.2.2 h2.2.2⟩
 | .func (.func f) a b, h1, h2 | .func (.method f) a b, h1, h2 | .func (.methodOf _ f) a b, h1, h2 | .func (.via _ _ f _) a b, h1, h2 => by
   simp only [sc] at h1 h2 ⊢
   exact ⟨scL_and _ h1.1 h2.1, scL_and _ h1.2 h2.2⟩
 | .iface t v, h1, h2 => by simp only [sc] at h1 h2 ⊢; exact sc_and v h1 h2
 | .agg cs, h1, h2 => by simp only [sc] at h1 h2 ⊢; exact scL_and _ h1 h2
 | .tuple cs, h1, h2 => by simp only [sc] at h1 h2 ⊢; exact scL_and _ h1 h2
theorem scL_and {p q : Nat → Prop} : ∀ vs, scL p vs → scL q vs → scL (fun k => p k ∧ q k) vs
 | [], _, _ => trivial
 | v :: vs, h1, h2 => by simp only [scL] at h1 h2 ⊢; exact ⟨sc_and v h1.1 h2.1, scL_and vs h1.2 h2.2⟩
end
theorem scB_and {p q : Nat → Prop} : ∀ b, scB p b → scB q b → scB (fun k => p k ∧ q k) b
 | .cells cs _, h1, h2 | .ext cs _ _, h1, h2 | .inp _ cs, h1, h2 | .row cs _, h1, h2 | .tab cs, h1, h2 => scL_and cs h1 h2
 | .map _ _, h1, h2 => fun e he => ⟨sc_and _ (h1 e he).1 (h2 e he).1, sc_and _ (h1 e he).2 (h2 e he).2⟩
 | .iter _ _, _, _ | .defd, _, _ => trivial
 | .miter _ _ _ _, h1, h2 => fun r hr => ⟨h1 r hr, h2 r hr⟩
 | .loop .., h1, h2 => ⟨⟨h1.1, h2.1⟩, fun t v hv => sc_and v (h1.2 t v hv) (h2.2 t v hv)⟩
end Go.Ab
namespace Go.Proofs.YtndlfijfjglkdaaGreatDoor
open Go Go.Ab Go.Proofs
section
variable (l : List Gun) (d : ByteArray)
def gAt (k : Nat) : Gun := (l[k]?).getD ⟨⟨#[]⟩, 0, 0, 0, 0, 0, 0⟩
theorem gAt_at {k : Nat} (h : k < l.length) : gAt l k = l[k] := by unfold gAt; rw [List.getElem?_eq_getElem h]; rfl
variable {l}
end
end Go.Proofs.YtndlfijfjglkdaaGreatDoor
namespace Go.Ab
open Go
attribute [simp] disj backA
end Go.Ab
namespace Go.Proofs.YtndlfijfjglkdaaGreatDoor
open Go Go.Ab Go.Proofs
theorem E.toATc {P : Program} {ro : Option Nat} {c : Code} {s s' : St} {e : Ex} (h : E P s.n ro c s fun e2 s2 => e2 = e ∧ s2.n = s'.n ∧ s2.sz = s'.sz ∧ s2.marks = s'.marks ∧ (∀ x ∈ s'.fr, lk s2.fr x.1 = some x.2) ∧ ∀ x ∈ s'.H, hget s2.H x.1 = some x.2) : AT P ro c s e s' := by
 obtain ⟨e2, s2, hx, rfl, h1, h2, h3, h4, h5⟩ := h
 exact (ATX.at hx).cut h1 h2 h3 (fun t v hv => h4 (t, v) (lk_mem _ _ _ hv)) (fun k b hk => h5 (k, b) (hget_mem _ _ _ hk))
@[simp] theorem scB_cells (p : Nat → Prop) (cs : List Value) (t : TypeId) : scB p (.cells cs t) = scL p cs := rfl
@[simp] theorem scB_ext (p : Nat → Prop) (cs : List Value) (t : TypeId) (sz : Nat) : scB p (.ext cs t sz) = scL p cs := rfl
@[simp] theorem scB_inp (p : Nat → Prop) (o : Nat) (cs : List Value) : scB p (.inp o cs) = scL p cs := rfl
@[simp] theorem scB_row (p : Nat → Prop) (cs : List Value) (sz : Nat) : scB p (.row cs sz) = scL p cs := rfl
@[simp] theorem scB_defd (p : Nat → Prop) : scB p .defd = True := rfl
@[simp] theorem scB_loop {p : Nat → Prop} {ls : LoopState} {pe : Option Code} {fr : Fr} {sz d : Nat} {vs : List Nat} {ps : Array Tmp} {a b : Code} (h1 : p d) (h2 : ∀ x ∈ fr, sc p x.2) : scB p (.loop ls pe fr sz vs ps a b d) = True := eq_true ⟨h1, fun t v hv => h2 (t, v) (lk_mem _ _ _ hv)⟩
end Go.Proofs.YtndlfijfjglkdaaGreatDoor
namespace Go.Ab
section
open Go
theorem AC.given {P : Program} {f : FuncId} {args : List Value} {H : Heap} {n : Nat} {v : Value} {H' : Heap} {n' : Nat} (h : (∀ k b, hget H k = some b → k < n ∧ scB (· < n) b) → scL (· < n) args → P.globals.size ≤ n → AC P f args H n v H' n') : AC P f args H n v H' n' :=
 fun p φ w hB hsc => h (fun k b hk => ⟨hB.lt k (hB.sm k b hk).1, scB_mono hB.lt _ (hB.sm k b hk).2⟩) (scL_mono hB.lt _ hsc) hB.gn p φ w hB hsc
theorem AC.frame {P : Program} {f : FuncId} {args : List Value} {H H0 H1 H2 : Heap} {n n' : Nat} {v : Value} (h : AC P f args H0 n v H1 n') (hsub : ∀ k b, hget H0 k = some b → hget H k = some b)
   (h2 : ∀ k b, hget H2 k = some b → hget H1 k = some b ∨ (hget H k = some b ∧ hget H0 k = none)) : AC P f args H n v H2 n' := by
 intro p φ w hB hsc
 have hB0 : Base P p φ n (hget H0) w [] act0 := ⟨hB.rel.sub hsub, hB.lt, hB.gl, hB.gn, fun k b hk => hB.sm k b (hsub k b hk), fun t v hv => by simp [lk] at hv, fun t v hv => by simp [lk] at hv⟩
 have key : ∀ φ' w', Dn P p φ n (hget H0) w v n' (hget H1) φ' w' → Dn P p φ n (hget H) w v n' (hget H2) φ' w' := by
   intro φ' w' hd
   obtain ⟨hsm, hscv, hst⟩ := hd
   have hagr : Agr p φ φ' := fun k hk => hst.only k (.inl (hB.lt k hk))
   have hloc : ∀ k b, hget H k = some b → φ'.loc k = φ.loc k := fun k b hk => (hagr k (hB.sm k b hk).1).1
   have hkeep : ∀ k b, hget H k = some b → hget H0 k = none → w'.heap[φ.loc k]? = w.heap[φ.loc k]? := fun k b hk hn => hst.frm.keep _ (hB.rel.lt hk) fun j x hj ho => hB.rel.apart j x k b (hsub j x hj) hk (fun e => by subst e; rw [hn] at hj; cases hj) ho
   refine ⟨fun k b hk => ?_, hscv, hst.le, hst.only, ⟨fun k b hk => ?_, fun k b k' b' g1 g2 hne ho => ?_, hst.rel.glob⟩, fun k b hk ho => ?_, fun k b hk ho => ?_, ⟨hst.frm.os, hst.frm.tape, hst.frm.output, hst.frm.size, fun b hb hx => hst.frm.keep b hb fun k x hk ho => hx k x (hsub k x hk) ho⟩⟩
   · rcases h2 k b hk with h | ⟨h, _⟩
     · exact hsm k b h
     · exact ⟨.inl (hB.sm k b h).1, scB_mono (fun _ h => .inl h) _ (hB.sm k b h).2⟩
   · rcases h2 k b hk with h | ⟨h, hn⟩
     · exact hst.rel.blk k b h
     · rw [hloc k b h, hkeep k b h hn]
       exact (hB.rel.blk k b h).congr hagr (hB.sm k b h).1 (hB.sm k b h).2
   · rcases h2 k b g1 with h | ⟨h, hn⟩ <;> rcases h2 k' b' g2 with h' | ⟨h', hn'⟩
     · exact hst.rel.apart k b k' b' h h' hne ho
     · rw [hloc k' b' h']
       rcases hst.new k b h ho with g | ⟨k0, b0, e1, e2, e3⟩
       · have := hB.rel.lt h'
         omega
       · rw [← e3]
         exact hB.rel.apart k0 b0 k' b' (hsub _ _ e1) h' (fun e => by subst e; rw [hn'] at e1; cases e1) e2
     · rw [hloc k b h]
       cases hb : b'.own with
       | true =>
         rcases hst.new k' b' h' hb with g | ⟨k0, b0, e1, e2, e3⟩
         · have := hB.rel.lt h
           omega
         · rw [← e3]
           exact hB.rel.apart k b k0 b0 h (hsub _ _ e1) (fun e => by subst e; rw [hn] at e1; cases e1) ho
       | false =>
         have e1 := hst.inp k' b' h' hb
         rw [hloc k' b' (hsub _ _ e1)]
         exact hB.rel.apart k b k' b' h (hsub _ _ e1) hne ho
     · rw [hloc k b h, hloc k' b' h']
       exact hB.rel.apart k b k' b' h h' hne ho
   · rcases h2 k b hk with h | ⟨h, _⟩
     · rcases hst.new k b h ho with g | ⟨k0, b0, e1, e2, e3⟩
       · exact .inl g
       · exact .inr ⟨k0, b0, hsub _ _ e1, e2, e3⟩
     · exact .inr ⟨k, b, h, ho, (hloc k b h).symm⟩
   · rcases h2 k b hk with h | ⟨h, _⟩
     · exact hsub _ _ (hst.inp k b h ho)
     · exact h
 rcases h p φ w hB0 hsc with ⟨h1, h3⟩ | ⟨φ', w', h1, h3⟩
 · refine .inl ⟨h1, CallsIn.mono h3 fun e w' hh => ?_⟩
   obtain ⟨φ', he, hd⟩ := hh
   exact ⟨φ', he, key φ' w' hd⟩
 · exact .inr ⟨φ', w', h1, key φ' w' h3⟩
theorem AC.ren {P : Program} {f : FuncId} {args : List Value} {H H1 H2 : Heap} {n n1 n2 : Nat} {u v : Value} (ρ : Nat → Nat) (h : AC P f args H n u H1 n1) (hlow : ∀ k, k < n → ρ k = k) (hle : n ≤ n2) (hv : u = Ab.ren ρ v) (hsv : sc (· < n2) v)
   (hH : ∀ k b, hget H2 k = some b → (hget H k = some b ∧ hget H1 k = some b) ∨ (n ≤ k ∧ k < n2 ∧ n ≤ ρ k ∧ hget H1 (ρ k) = some (renB ρ b) ∧ scB (· < n2) b ∧ carried b ∧ b.own = true))
   (hinj : ∀ j b k c, n ≤ j → n ≤ k → hget H2 j = some b → hget H2 k = some c → ρ j = ρ k → j = k) : AC P f args H n v H2 n2 := by
 intro p φ w hB hsc
 have key : ∀ φ' w', Dn P p φ n (hget H) w u n1 (hget H1) φ' w' → ∃ φ2, den φ' u = den φ2 v ∧ Dn P p φ n (hget H) w v n2 (hget H2) φ2 w' := by
   intro φ' w' hd
   obtain ⟨hsm, hscu, hst⟩ := hd
   let φ2 : Vl := ⟨fun k => if n ≤ k ∧ k < n2 then φ'.loc (ρ k) else φ.loc k, fun k => if n ≤ k ∧ k < n2 then φ'.cap (ρ k) else φ.cap k⟩
   have hoth : ∀ k, ¬ (n ≤ k ∧ k < n2) → φ2.loc k = φ.loc k ∧ φ2.cap k = φ.cap k := fun k hk => by simp only [φ2]; rw [if_neg hk, if_neg hk]; exact ⟨rfl, rfl⟩
   have hmid : ∀ k, n ≤ k ∧ k < n2 → φ2.loc k = φ'.loc (ρ k) ∧ φ2.cap k = φ'.cap (ρ k) := fun k hk => by simp only [φ2]; rw [if_pos hk, if_pos hk]; exact ⟨rfl, rfl⟩
   have hrn : Rn (Nx p n n2) ρ φ' φ2 := fun k hk => by
     rcases hk with hk | hk
     · have hk0 := hB.lt k hk
       rw [(hoth k (by omega)).1, (hoth k (by omega)).2, hlow k hk0, (hst.only k (.inl hk0)).1, (hst.only k (.inl hk0)).2]
       exact ⟨rfl, rfl⟩
     · exact hmid k hk
   have hnx : ∀ k, Nx p n n1 (ρ k) ∧ k < n2 → Nx p n n2 k := fun k hk => by
     by_cases h0 : k < n
     · have := hk.1
       rw [hlow k h0] at this
       rcases this with h1 | h1
       · exact .inl h1
       · omega
     · exact .inr ⟨by omega, hk.2⟩
   have hscv : sc (Nx p n n2) v := sc_mono hnx v (sc_ren v (hv ▸ hscu) hsv)
   have hagr : Agr p φ φ2 := fun k hk => hoth k (by have := hB.lt k hk; omega)
   have hagr' : Agr p φ' φ2 := fun k hk => by
     have h1 := hagr k hk
     have h2 := hst.only k (.inl (hB.lt k hk))
     exact ⟨h1.1.trans h2.1.symm, h1.2.trans h2.2.symm⟩
   have hone : ∀ k b, hget H2 k = some b → (∃ b', hget H1 (ρ k) = some b' ∧ b'.own = b.own) ∧ φ2.loc k = φ'.loc (ρ k) := fun k b hk => by
     rcases hH k b hk with ⟨h1, h2⟩ | ⟨h1, h2, h3, h4, h5, h6, h7⟩
     · have hp := (hB.sm k b h1).1
       have hk0 := hB.lt k hp
       rw [hlow k hk0]
       exact ⟨⟨b, h2, rfl⟩, (hagr' k hp).1⟩
     · exact ⟨⟨_, h4, renB_own _ _⟩, (hmid k ⟨h1, h2⟩).1⟩
   refine ⟨φ2, by rw [hv]; exact den_ren hrn v hscv, fun k b hk => ?_, hscv, hle, fun k hk => hoth k (by omega), ⟨fun k b hk => ?_, fun k b k' b' g1 g2 hne ho => ?_, fun g hg => ?_⟩, fun k b hk ho => ?_, fun k b hk ho => ?_, hst.frm⟩
   · rcases hH k b hk with ⟨h1, h2⟩ | ⟨h1, h2, h3, h4, h5, h6, h7⟩
     · exact ⟨.inl (hB.sm k b h1).1, scB_mono (fun _ h => .inl h) _ (hB.sm k b h1).2⟩
     · exact ⟨.inr ⟨h1, h2⟩, scB_mono hnx _ (scB_ren b h6 (hsm _ _ h4).2 h5)⟩
   · rw [(hone k b hk).2]
     rcases hH k b hk with ⟨h1, h2⟩ | ⟨h1, h2, h3, h4, h5, h6, h7⟩
     · have hp := hB.sm k b h1
       rw [hlow k (hB.lt k hp.1)]
       exact (hst.rel.blk k b h2).congr hagr' hp.1 hp.2
     · exact BRel.ren hrn (.inr ⟨h1, h2⟩) h6 (scB_mono hnx _ (scB_ren b h6 (hsm _ _ h4).2 h5)) (hst.rel.blk _ _ h4)
   · obtain ⟨⟨c, c1, c2⟩, c3⟩ := hone k b g1
     obtain ⟨⟨d, d1, d2⟩, d3⟩ := hone k' b' g2
     rw [c3, d3]
     refine hst.rel.apart _ _ _ _ c1 d1 (fun e => hne ?_) (c2.trans ho)
     rcases hH k b g1 with ⟨h1, _⟩ | ⟨h1, _, h3, _⟩ <;> rcases hH k' b' g2 with ⟨h1', _⟩ | ⟨h1', _, h3', _⟩
     · have hk0 := hB.lt k (hB.sm k b h1).1
       have hk1 := hB.lt k' (hB.sm k' b' h1').1
       rwa [hlow k hk0, hlow k' hk1] at e
     · have hk0 := hB.lt k (hB.sm k b h1).1
       rw [hlow k hk0] at e
       omega
     · have hk1 := hB.lt k' (hB.sm k' b' h1').1
       rw [hlow k' hk1] at e
       omega
     · exact hinj k b k' b' h1 h1' g1 g2 e
   · rw [(hoth g (by have := hB.gn; omega)).1]; exact hB.rel.glob g hg
   · obtain ⟨⟨c, c1, c2⟩, c3⟩ := hone k b hk
     rw [c3]
     exact hst.new _ _ c1 (c2.trans ho)
   · rcases hH k b hk with ⟨h1, _⟩ | ⟨_, _, _, _, _, _, h7⟩
     · exact h1
     · rw [h7] at ho; cases ho
 rcases h p φ w hB hsc with ⟨h1, h3⟩ | ⟨φ', w', h1, h3⟩
 · refine .inl ⟨h1, CallsIn.mono h3 fun e w' hh => ?_⟩
   obtain ⟨φ', he, hd⟩ := hh
   obtain ⟨φ2, e2, hd2⟩ := key φ' w' hd
   exact ⟨φ2, by rw [he, e2], hd2⟩
 · obtain ⟨φ2, e2, hd2⟩ := key φ' w' h3
   exact .inr ⟨φ2, w', by rw [h1, e2], hd2⟩
def Fresh (n n2 : Nat) (H : Heap) (v : Value) (B : Heap) (u : Value) (H1 : Heap) : Prop :=
 ∃ ρ : Nat → Nat, (∀ k, k < n → ρ k = k) ∧ u = ren ρ v ∧ (∀ k b, hget B k = some b → n ≤ k ∧ k < n2 ∧ n ≤ ρ k ∧ hget H1 (ρ k) = some (renB ρ b) ∧ scB (· < n2) b ∧ carried b ∧ b.own = true) ∧
   (∀ j b k c, hget B j = some b → hget B k = some c → ρ j = ρ k → j = k) ∧ ∀ k b, hget H k = some b → hget H1 k = some b
theorem AC.fresh {P : Program} {f : FuncId} {fn : Func} {c : Code} {args : List Value} {H B : Heap} {n n2 : Nat} {v : Value} (hf : P.funcs[f]? = some fn) (hb : fn.body = some c) (he : enterable P f = true) (hlen : Nat.ble args.length fn.ntmps = true) (vs : List Nat) (hle : n ≤ n2) (hsv : sc (· < n2) v) (hnf : ∀ ρ, af (Ab.ren ρ v) = false)
   (h : E P n none c { fr := argsFr args 0, sz := fn.ntmps, H, n, marks := [], vs } (outK P fn (Fresh n n2 H v B))) : AC P f args H n v (B ++ H) n2 := by
 refine AC.given fun hlt _ _ => ?_
 obtain ⟨u, H1, n1, H3, hAC, ⟨ρ, h1, h2, h3, h4, h5⟩, hh⟩ := AC.out hf hb he hlen vs h
 obtain rfl := hh (by rw [h2]; exact hnf ρ)
 have happ : ∀ k b, hget (B ++ H) k = some b → hget B k = some b ∨ (hget B k = none ∧ hget H k = some b) := by
   clear h3 h4 h
   induction B with
   | nil => intro k b hk; exact .inr ⟨rfl, hk⟩
   | cons x B ih =>
     intro k b hk
     obtain ⟨j, y⟩ := x
     rw [List.cons_append, hget_cons] at hk
     rw [hget_cons]
     by_cases e : j = k
     · rw [if_pos e] at hk ⊢; exact .inl hk
     · rw [if_neg e] at hk ⊢; exact ih k b hk
 refine hAC.ren ρ h1 hle h2 hsv (fun k b hk => ?_) fun j b k c hj hk hb hc e => ?_
 · rcases happ k b hk with h | ⟨_, h⟩
   · exact .inr (h3 k b h)
   · exact .inl ⟨h, h5 k b h⟩
 · rcases happ j b hb with g | ⟨_, g⟩
   · rcases happ k c hc with g' | ⟨_, g'⟩
     · exact h4 j b k c g g' e
     · have := (hlt k c g').1
       omega
   · have := (hlt j b g).1
     omega
theorem Leads.renR {P : Program} {n0 : Nat} {s s2 : St} {A H : Heap} (ρ : Nat → Nat) (hs2 : s2.H = A ++ H) (hold : ∀ k b, hget H k = some b → k < n0 ∧ scB (· < n0) b) (hkeep : ∀ k b, hget H k = some b → hget s.H k = some b) (hlow : ∀ k, k < n0 → ρ k = k) (hle : n0 ≤ s2.n) (hz : s2.sz = s.sz) (hm : s.marks = [] ∧ s2.marks = [])
   (hf : ∀ t v, lk s2.fr t = some v → (lk s.fr t = some v ∧ sc (· < n0) v) ∨ (lk s.fr t = some (Ab.ren ρ v) ∧ sc (· < s2.n) v))
   (hA : ∀ x ∈ A, n0 ≤ x.1 ∧ x.1 < s2.n ∧ n0 ≤ ρ x.1 ∧ hget s.H (ρ x.1) = some (renB ρ x.2) ∧ scB (· < s2.n) x.2 ∧ carried x.2 ∧ x.2.own = true) (hinj : ∀ x ∈ A, ∀ y ∈ A, ρ x.1 = ρ y.1 → x.1 = y.1) : Leads P n0 s s2 := by
 intro p φ M w0 hg hp a w φ1 hS hs
 let φ2 : Vl := ⟨fun k => if n0 ≤ k ∧ k < s2.n then φ1.loc (ρ k) else φ.loc k, fun k => if n0 ≤ k ∧ k < s2.n then φ1.cap (ρ k) else φ.cap k⟩
 have hl2 : ∀ k, k < n0 → φ2.loc k = φ.loc k ∧ φ2.cap k = φ.cap k := fun k hk => by simp only [φ2]; rw [if_neg (by omega), if_neg (by omega)]; exact ⟨rfl, rfl⟩
 have hmid : ∀ k, n0 ≤ k → k < s2.n → φ2.loc k = φ1.loc (ρ k) ∧ φ2.cap k = φ1.cap (ρ k) := fun k h1 h2 => by simp only [φ2]; rw [if_pos ⟨h1, h2⟩, if_pos ⟨h1, h2⟩]; exact ⟨rfl, rfl⟩
 have hrn : Rn (Nx p n0 s2.n) ρ φ1 φ2 := fun k hk => by
   rcases hk with hk | hk
   · have hk0 := hp k hk
     rw [(hl2 k hk0).1, (hl2 k hk0).2, hlow k hk0, (hs.only k (.inl hk0)).1, (hs.only k (.inl hk0)).2]
     exact ⟨rfl, rfl⟩
   · exact hmid k hk.1 hk.2
 have hnx : ∀ k, Nx p n0 s.n (ρ k) ∧ k < s2.n → Nx p n0 s2.n k := fun k hk => by
   by_cases h0 : k < n0
   · have := hk.1
     rw [hlow k h0] at this
     rcases this with h1 | h1
     · exact .inl h1
     · omega
   · exact .inr ⟨by omega, hk.2⟩
 have hpl : ∀ k, Nx p n0 s.n k ∧ k < n0 → p k := fun k hk => by
   rcases hk.1 with h1 | h1
   · exact h1
   · omega
 have hagr : Agr p φ1 φ2 := fun k hk => by
   have hk0 := hp k hk
   rw [(hl2 k hk0).1, (hl2 k hk0).2, (hs.only k (.inl hk0)).1, (hs.only k (.inl hk0)).2]
   exact ⟨rfl, rfl⟩
 have hM : ∀ k b, hget s2.H k = some b → ((k, b) ∈ A) ∨ hget H k = some b := by
   rw [hs2]
   clear hA hs2 hinj
   induction A with
   | nil => intro k b hk; exact .inr hk
   | cons x A ih =>
     intro k b hk
     obtain ⟨j, y⟩ := x
     rw [List.cons_append, hget_cons] at hk
     by_cases e : j = k
     · rw [if_pos e] at hk; injection hk with hk; subst e hk; exact .inl (List.mem_cons_self ..)
     · rw [if_neg e] at hk
       rcases ih k b hk with h | h
       · exact .inl (List.mem_cons_of_mem _ h)
       · exact .inr h
 have old : ∀ k b, hget H k = some b → p k ∧ scB p b ∧ hget s.H k = some b ∧ k < n0 := fun k b hk => by
   obtain ⟨h1, h2⟩ := hold k b hk
   have h3 := hkeep k b hk
   have h4 := hS.base.sm k b h3
   exact ⟨hpl k ⟨h4.1, h1⟩, scB_mono hpl _ (scB_and b h4.2 h2), h3, h1⟩
 have hone : ∀ k b, hget s2.H k = some b → Nx p n0 s2.n k ∧ scB (Nx p n0 s2.n) b ∧ (∃ b', hget s.H (ρ k) = some b' ∧ b'.own = b.own) ∧ φ2.loc k = φ1.loc (ρ k) ∧ BRel P φ2 k b w.heap[φ1.loc (ρ k)]? := fun k b hk => by
   rcases hM k b hk with h | h
   · obtain ⟨h1, h2, _, h3, h4, h5, h6⟩ := hA (k, b) h
     have hn' : Nx p n0 s2.n k := .inr ⟨h1, h2⟩
     have hsc := scB_mono hnx _ (scB_ren b h5 (hS.base.sm _ _ h3).2 h4)
     exact ⟨hn', hsc, ⟨_, h3, renB_own _ _⟩, (hrn k hn').1, BRel.ren hrn hn' h5 hsc (hS.base.rel.blk _ _ h3)⟩
   · obtain ⟨h1, h2, h3, h4⟩ := old k b h
     have e : ρ k = k := hlow k h4
     rw [e]
     exact ⟨.inl h1, scB_mono (fun _ h => .inl h) _ h2, ⟨b, h3, rfl⟩, (hagr k h1).1, (hS.base.rel.blk k b h3).congr hagr h1 h2⟩
 have hlt : ∀ k, Nx p n0 s2.n k → k < s2.n := fun k hk => Nx.lt hp hle hk
 have hrinj : ∀ k b k' b', hget s2.H k = some b → hget s2.H k' = some b' → ρ k = ρ k' → k = k' := fun k b k' b' g1 g2 e => by
   rcases hM k b g1 with h | h <;> rcases hM k' b' g2 with h' | h'
   · exact hinj (k, b) h (k', b') h' e
   · have h1 := (hA (k, b) h).2.2.1
     have h3 := (old k' b' h').2.2.2
     rw [hlow k' h3] at e
     dsimp only at h1
     omega
   · have h1 := (hA (k', b') h').2.2.1
     have h3 := (old k b h).2.2.2
     rw [hlow k h3] at e
     dsimp only at h1
     omega
   · have h3 := (old k b h).2.2.2
     have h4 := (old k' b' h').2.2.2
     rwa [hlow k h3, hlow k' h4] at e
 have hrel : HRel P φ2 (hget s2.H) w := by
   refine ⟨fun k b hk => ?_, fun k b k' b' h1 h2 hne ho => ?_, fun g hg' => ?_⟩
   · obtain ⟨_, _, _, h4, h5⟩ := hone k b hk
     rw [h4]; exact h5
   · obtain ⟨_, _, ⟨c, c1, c2⟩, c3, _⟩ := hone k b h1
     obtain ⟨_, _, ⟨d, d1, _⟩, d3, _⟩ := hone k' b' h2
     rw [c3, d3]
     exact hS.base.rel.apart _ _ _ _ c1 d1 (fun e => hne (hrinj k b k' b' h1 h2 e)) (c2.trans ho)
   · have := hp g (hg g hg')
     rw [(hl2 g this).1, ← (hs.only g (.inl this)).1]
     exact hS.base.rel.glob g hg'
 have hfr : ∀ t v, lk s2.fr t = some v → ∃ u, lk s.fr t = some u ∧ den φ1 u = den φ2 v ∧ sc (Nx p n0 s2.n) v := fun t v hv => by
   rcases hf t v hv with ⟨h1, h2⟩ | ⟨h1, h2⟩
   · have hsf := hS.base.sf t _ h1
     have hsp : sc p v := sc_mono hpl v (sc_and v hsf h2)
     exact ⟨v, h1, (den_congr hagr v hsp).symm, sc_mono (fun _ h => .inl h) v hsp⟩
   · have hsf := hS.base.sf t _ h1
     have hsv : sc (Nx p n0 s2.n) v := sc_mono hnx v (sc_ren v hsf h2)
     exact ⟨_, h1, den_ren hrn v hsv, hsv⟩
 refine ⟨φ2, ⟨⟨hrel, hlt, fun g hg' => .inl (hg g hg'), ?_, fun k b hk => ⟨(hone k b hk).1, (hone k b hk).2.1⟩, fun t v hv => ?_, fun t v hv => ?_⟩, ?_, ?_, ?_⟩, hle, fun k hk => ?_, hrel, fun k b hk ho => ?_, fun k b hk ho => ?_, hs.frm⟩
 · refine Nat.le_of_not_lt fun hc => ?_
   have := hp _ (hg _ hc)
   omega
 · obtain ⟨u, h1, h2, _⟩ := hfr t v hv
   rw [hS.base.ar t _ h1, h2]
 · exact (hfr t v hv).choose_spec.2.2
 · rw [hz]; exact hS.size
 · rw [hm.2, hS.defs, hm.1]; rfl
 · rw [hm.2]; simp
 · rcases hk with hk | hk
   · exact hl2 k hk
   · simp only [φ2]; rw [if_neg (by omega), if_neg (by omega)]; exact ⟨rfl, rfl⟩
 · obtain ⟨_, _, ⟨c, c1, c2⟩, c3, _⟩ := hone k b hk
   rw [c3]
   exact hs.new _ _ c1 (c2.trans ho)
 · rcases hM k b hk with h | h
   · rw [(hA (k, b) h).2.2.2.2.2.2] at ho; cases ho
   · exact hs.inp k b (hkeep k b h) ho
theorem Leads.renN {P : Program} {n0 : Nat} {s s2 : St} {A H : Heap} (olds : List Nat) (hs2 : s2.H = A ++ H) (hold : ∀ k b, hget H k = some b → k < n0 ∧ scB (· < n0) b) (hkeep : ∀ k b, hget H k = some b → hget s.H k = some b) (ho : oldsOk n0 s.n olds = true) (hn : s2.n = n0 + olds.length) (hz : s2.sz = s.sz) (hm : s.marks = [] ∧ s2.marks = [])
   (hf : ∀ x ∈ s2.fr, (lk s.fr x.1 = some x.2 ∧ sc (· < n0) x.2) ∨ (lk s.fr x.1 = some (Ab.ren (rnm n0 olds) x.2) ∧ sc (· < s2.n) x.2))
   (hA : ∀ x ∈ A, n0 ≤ x.1 ∧ x.1 < s2.n ∧ hget s.H (rnm n0 olds x.1) = some (renB (rnm n0 olds) x.2) ∧ scB (· < s2.n) x.2 ∧ carried x.2 ∧ x.2.own = true) : Leads P n0 s s2 := by
 obtain ⟨hk, hd⟩ := oldsOk_spec olds ho
 have hlow : ∀ k, k < n0 → rnm n0 olds k = k := fun k h => by unfold rnm; rw [if_pos h]
 have hget' : ∀ k, n0 ≤ k → k < s2.n → ∃ h : k - n0 < olds.length, rnm n0 olds k = olds[k - n0] := fun k h1 h2 => by
   refine ⟨by omega, ?_⟩
   unfold rnm
   rw [if_neg (by omega), List.getD_eq_getElem?_getD, List.getElem?_eq_getElem (by omega)]
   rfl
 have hhigh : ∀ k, n0 ≤ k → k < s2.n → n0 ≤ rnm n0 olds k ∧ rnm n0 olds k < s.n := fun k h1 h2 => by
   obtain ⟨h, e⟩ := hget' k h1 h2
   rw [e]; exact hk _ (List.getElem_mem h)
 have hinj : ∀ j k, n0 ≤ j → j < s2.n → n0 ≤ k → k < s2.n → rnm n0 olds j = rnm n0 olds k → j = k := fun j k a1 a2 b1 b2 he => by
   obtain ⟨h, e⟩ := hget' j a1 a2
   obtain ⟨h', e'⟩ := hget' k b1 b2
   rw [e, e'] at he
   have hne : ∀ (x y : Nat) (hx : x < olds.length) (hy : y < olds.length), x < y → olds[x] ≠ olds[y] := fun x y hx hy hlt => List.pairwise_iff_getElem.1 hd x y hx hy hlt
   rcases Nat.lt_trichotomy (j - n0) (k - n0) with hlt | heq | hlt
   · exact absurd he (hne _ _ _ _ hlt)
   · omega
   · exact absurd he.symm (hne _ _ _ _ hlt)
 refine Leads.renR (rnm n0 olds) hs2 hold hkeep hlow (by omega) hz hm (fun t v hv => hf (t, v) (lk_mem _ _ _ hv)) (fun x hx => ?_) fun x hx y hy e => ?_
 · obtain ⟨h1, h2, h3, h4, h5, h6⟩ := hA x hx
   exact ⟨h1, h2, (hhigh _ h1 h2).1, h3, h4, h5, h6⟩
 · obtain ⟨h1, h2, _⟩ := hA x hx
   obtain ⟨h1', h2', _⟩ := hA y hy
   exact hinj _ _ h1 h2 h1' h2' e
theorem Step.framed {P : Program} {p : Nat → Prop} {φ φ' : Vl} {n n' : Nat} {w w' : World} {H H0 H1 H2 : Heap} {fr : Fr} {a : Act} (hB : Base P p φ n (hget H) w fr a) (hsub : ∀ k b, hget H0 k = some b → hget H k = some b)
   (h2 : ∀ k b, hget H2 k = some b → hget H1 k = some b ∨ (hget H k = some b ∧ hget H0 k = none)) (hd : SM (Nx p n n') (hget H1) ∧ Step P φ n (hget H0) w φ' n' (hget H1) w') : SM (Nx p n n') (hget H2) ∧ Step P φ n (hget H) w φ' n' (hget H2) w' := by
 obtain ⟨hsm, hst⟩ := hd
 have hagr : Agr p φ φ' := fun k hk => hst.only k (.inl (hB.lt k hk))
 have hloc : ∀ k b, hget H k = some b → φ'.loc k = φ.loc k := fun k b hk => (hagr k (hB.sm k b hk).1).1
 have hkeep : ∀ k b, hget H k = some b → hget H0 k = none → w'.heap[φ.loc k]? = w.heap[φ.loc k]? := fun k b hk hn => hst.frm.keep _ (hB.rel.lt hk) fun j x hj ho => hB.rel.apart j x k b (hsub j x hj) hk (fun e => by subst e; rw [hn] at hj; cases hj) ho
 refine ⟨fun k b hk => ?_, hst.le, hst.only, ⟨fun k b hk => ?_, fun k b k' b' g1 g2 hne ho => ?_, hst.rel.glob⟩, fun k b hk ho => ?_, fun k b hk ho => ?_, ⟨hst.frm.os, hst.frm.tape, hst.frm.output, hst.frm.size, fun b hb hx => hst.frm.keep b hb fun k x hk ho => hx k x (hsub k x hk) ho⟩⟩
 · rcases h2 k b hk with h | ⟨h, _⟩
   · exact hsm k b h
   · exact ⟨.inl (hB.sm k b h).1, scB_mono (fun _ h => .inl h) _ (hB.sm k b h).2⟩
 · rcases h2 k b hk with h | ⟨h, hn⟩
   · exact hst.rel.blk k b h
   · rw [hloc k b h, hkeep k b h hn]
     exact (hB.rel.blk k b h).congr hagr (hB.sm k b h).1 (hB.sm k b h).2
 · rcases h2 k b g1 with h | ⟨h, hn⟩ <;> rcases h2 k' b' g2 with h' | ⟨h', hn'⟩
   · exact hst.rel.apart k b k' b' h h' hne ho
   · rw [hloc k' b' h']
     rcases hst.new k b h ho with g | ⟨k0, b0, e1, e2, e3⟩
     · have := hB.rel.lt h'
       omega
     · rw [← e3]
       exact hB.rel.apart k0 b0 k' b' (hsub _ _ e1) h' (fun e => by subst e; rw [hn'] at e1; cases e1) e2
   · rw [hloc k b h]
     cases hb : b'.own with
     | true =>
       rcases hst.new k' b' h' hb with g | ⟨k0, b0, e1, e2, e3⟩
       · have := hB.rel.lt h
         omega
       · rw [← e3]
         exact hB.rel.apart k b k0 b0 h (hsub _ _ e1) (fun e => by subst e; rw [hn] at e1; cases e1) ho
     | false =>
       have e1 := hst.inp k' b' h' hb
       rw [hloc k' b' (hsub _ _ e1)]
       exact hB.rel.apart k b k' b' h (hsub _ _ e1) hne ho
   · rw [hloc k b h, hloc k' b' h']
     exact hB.rel.apart k b k' b' h h' hne ho
 · rcases h2 k b hk with h | ⟨h, _⟩
   · rcases hst.new k b h ho with g | ⟨k0, b0, e1, e2, e3⟩
     · exact .inl g
     · exact .inr ⟨k0, b0, hsub _ _ e1, e2, e3⟩
   · exact .inr ⟨k, b, h, ho, (hloc k b h).symm⟩
 · rcases h2 k b hk with h | ⟨h, _⟩
   · exact hsub _ _ (hst.inp k b h ho)
   · exact h
theorem AT.frame {P : Program} {ro : Option Nat} {c : Code} {st st' : St} {e : Ex} {H H2 : Heap} (h : AT P ro c st e st') (hsub : ∀ k b, hget st.H k = some b → hget H k = some b)
   (h2 : ∀ k b, hget H2 k = some b → hget st'.H k = some b ∨ (hget H k = some b ∧ hget st.H k = none)) : AT P ro c { st with H := H } e { st' with H := H2 } := by
 intro p φ a w hS hl
 have hS0 : SRel P p φ st a w := ⟨⟨hS.base.rel.sub hsub, hS.base.lt, hS.base.gl, hS.base.gn, fun k b hk => hS.base.sm k b (hsub k b hk), hS.base.ar, hS.base.sf⟩, hS.size, hS.defs, hS.marks⟩
 refine wpIn_mono (h p φ a w hS0 hl) fun e2 a' w' hh => ?_
 obtain ⟨he, φ', hS', hs'⟩ := hh
 obtain ⟨hsm, hst⟩ := Step.framed hS.base hsub h2 ⟨hS'.base.sm, hs'⟩
 exact ⟨he, φ', ⟨⟨hst.rel, hS'.base.lt, hS'.base.gl, hS'.base.gn, hsm, hS'.base.ar, hS'.base.sf⟩, hS'.size, hS'.defs, hS'.marks⟩, hst⟩
theorem AT.frameR {P : Program} {ro : Option Nat} {c : Code} {st st' : St} {e : Ex} {Z : Heap} (h : AT P ro c st e st') (hz : ∀ k b, hget Z k = some b → hget st.H k = none ∨ ∃ b', hget st'.H k = some b') : AT P ro c { st with H := st.H ++ Z } e { st' with H := st'.H ++ Z } := by
 have happ : ∀ (A : Heap) k, hget (A ++ Z) k = match hget A k with
   | some b => some b
   | none => hget Z k := fun A k => by
   induction A with
   | nil => rfl
   | cons x A ih =>
     obtain ⟨j, y⟩ := x
     rw [List.cons_append, hget_cons, hget_cons]
     split
     · rfl
     · exact ih
 refine h.frame (fun k b hk => by rw [happ, hk]) fun k b hk => ?_
 rw [happ] at hk
 split at hk
 · rename_i b' hb; injection hk with hk; subst hk; exact .inl hb
 · rename_i hn
   rcases hz k b hk with h1 | ⟨b', h1⟩
   · exact .inr ⟨by rw [happ, h1]; exact hk, h1⟩
   · rw [hn] at h1; cases h1
theorem Leads.renM {P : Program} {n0 : Nat} {s s2 : St} (ρ : Nat → Nat) (hlow : ∀ k, k < n0 → ρ k = k) (hle : n0 ≤ s2.n) (hz : s2.sz = s.sz) (hm : s.marks = [] ∧ s2.marks = [])
   (hf : ∀ t v, lk s2.fr t = some v → (lk s.fr t = some v ∧ sc (· < n0) v) ∨ (lk s.fr t = some (Ab.ren ρ v) ∧ sc (· < s2.n) v))
   (hH : ∀ k b, hget s2.H k = some b → (k < n0 ∧ scB (· < n0) b ∧ hget s.H k = some b) ∨ (k < s2.n ∧ (n0 ≤ k → n0 ≤ ρ k) ∧ hget s.H (ρ k) = some (renB ρ b) ∧ scB (· < s2.n) b ∧ carried b ∧ (b.own = false → ρ k = k ∧ renB ρ b = b)))
   (hinj : ∀ j b k c, hget s2.H j = some b → hget s2.H k = some c → ρ j = ρ k → j = k) : Leads P n0 s s2 := by
 intro p φ M w0 hg hp a w φ1 hS hs
 let φ2 : Vl := ⟨fun k => if n0 ≤ k ∧ k < s2.n then φ1.loc (ρ k) else φ.loc k, fun k => if n0 ≤ k ∧ k < s2.n then φ1.cap (ρ k) else φ.cap k⟩
 have hl2 : ∀ k, k < n0 → φ2.loc k = φ.loc k ∧ φ2.cap k = φ.cap k := fun k hk => by simp only [φ2]; rw [if_neg (by omega), if_neg (by omega)]; exact ⟨rfl, rfl⟩
 have hmid : ∀ k, n0 ≤ k → k < s2.n → φ2.loc k = φ1.loc (ρ k) ∧ φ2.cap k = φ1.cap (ρ k) := fun k h1 h2 => by simp only [φ2]; rw [if_pos ⟨h1, h2⟩, if_pos ⟨h1, h2⟩]; exact ⟨rfl, rfl⟩
 have hrn : Rn (Nx p n0 s2.n) ρ φ1 φ2 := fun k hk => by
   rcases hk with hk | hk
   · have hk0 := hp k hk
     rw [(hl2 k hk0).1, (hl2 k hk0).2, hlow k hk0, (hs.only k (.inl hk0)).1, (hs.only k (.inl hk0)).2]
     exact ⟨rfl, rfl⟩
   · exact hmid k hk.1 hk.2
 have hnx : ∀ k, Nx p n0 s.n (ρ k) ∧ k < s2.n → Nx p n0 s2.n k := fun k hk => by
   by_cases h0 : k < n0
   · have := hk.1
     rw [hlow k h0] at this
     rcases this with h1 | h1
     · exact .inl h1
     · omega
   · exact .inr ⟨by omega, hk.2⟩
 have hpl : ∀ k, Nx p n0 s.n k ∧ k < n0 → p k := fun k hk => by
   rcases hk.1 with h1 | h1
   · exact h1
   · omega
 have hagr : Agr p φ1 φ2 := fun k hk => by
   have hk0 := hp k hk
   rw [(hl2 k hk0).1, (hl2 k hk0).2, (hs.only k (.inl hk0)).1, (hs.only k (.inl hk0)).2]
   exact ⟨rfl, rfl⟩
 have hone : ∀ k b, hget s2.H k = some b → Nx p n0 s2.n k ∧ scB (Nx p n0 s2.n) b ∧ (∃ b', hget s.H (ρ k) = some b' ∧ b'.own = b.own) ∧ φ2.loc k = φ1.loc (ρ k) ∧ BRel P φ2 k b w.heap[φ1.loc (ρ k)]? := fun k b hk => by
   rcases hH k b hk with ⟨h1, h2, h3⟩ | ⟨h1, h2, h3, h4, h5, h6⟩
   · have h4 := hS.base.sm k b h3
     have hpk := hpl k ⟨h4.1, h1⟩
     have hsb := scB_mono hpl _ (scB_and b h4.2 h2)
     have e : ρ k = k := hlow k h1
     rw [e]
     exact ⟨.inl hpk, scB_mono (fun _ h => .inl h) _ hsb, ⟨b, h3, rfl⟩, (hagr k hpk).1, (hS.base.rel.blk k b h3).congr hagr hpk hsb⟩
   · have hn' : Nx p n0 s2.n k := hnx k ⟨(hS.base.sm _ _ h3).1, h1⟩
     have hsc := scB_mono hnx _ (scB_ren b h5 (hS.base.sm _ _ h3).2 h4)
     exact ⟨hn', hsc, ⟨_, h3, renB_own _ _⟩, (hrn k hn').1, BRel.ren hrn hn' h5 hsc (hS.base.rel.blk _ _ h3)⟩
 have hlt : ∀ k, Nx p n0 s2.n k → k < s2.n := fun k hk => Nx.lt hp hle hk
 have hrinj := hinj
 have hrel : HRel P φ2 (hget s2.H) w := by
   refine ⟨fun k b hk => ?_, fun k b k' b' h1 h2 hne ho => ?_, fun g hg' => ?_⟩
   · obtain ⟨_, _, _, h4, h5⟩ := hone k b hk
     rw [h4]; exact h5
   · obtain ⟨_, _, ⟨c, c1, c2⟩, c3, _⟩ := hone k b h1
     obtain ⟨_, _, ⟨d, d1, _⟩, d3, _⟩ := hone k' b' h2
     rw [c3, d3]
     exact hS.base.rel.apart _ _ _ _ c1 d1 (fun e => hne (hrinj k b k' b' h1 h2 e)) (c2.trans ho)
   · have := hp g (hg g hg')
     rw [(hl2 g this).1, ← (hs.only g (.inl this)).1]
     exact hS.base.rel.glob g hg'
 have hfr : ∀ t v, lk s2.fr t = some v → ∃ u, lk s.fr t = some u ∧ den φ1 u = den φ2 v ∧ sc (Nx p n0 s2.n) v := fun t v hv => by
   rcases hf t v hv with ⟨h1, h2⟩ | ⟨h1, h2⟩
   · have hsf := hS.base.sf t _ h1
     have hsp : sc p v := sc_mono hpl v (sc_and v hsf h2)
     exact ⟨v, h1, (den_congr hagr v hsp).symm, sc_mono (fun _ h => .inl h) v hsp⟩
   · have hsf := hS.base.sf t _ h1
     have hsv : sc (Nx p n0 s2.n) v := sc_mono hnx v (sc_ren v hsf h2)
     exact ⟨_, h1, den_ren hrn v hsv, hsv⟩
 refine ⟨φ2, ⟨⟨hrel, hlt, fun g hg' => .inl (hg g hg'), ?_, fun k b hk => ⟨(hone k b hk).1, (hone k b hk).2.1⟩, fun t v hv => ?_, fun t v hv => ?_⟩, ?_, ?_, ?_⟩, hle, fun k hk => ?_, hrel, fun k b hk ho => ?_, fun k b hk ho => ?_, hs.frm⟩
 · refine Nat.le_of_not_lt fun hc => ?_
   have := hp _ (hg _ hc)
   omega
 · obtain ⟨u, h1, h2, _⟩ := hfr t v hv
   rw [hS.base.ar t _ h1, h2]
 · exact (hfr t v hv).choose_spec.2.2
 · rw [hz]; exact hS.size
 · rw [hm.2, hS.defs, hm.1]; rfl
 · rw [hm.2]; simp
 · rcases hk with hk | hk
   · exact hl2 k hk
   · simp only [φ2]; rw [if_neg (by omega), if_neg (by omega)]; exact ⟨rfl, rfl⟩
 · obtain ⟨_, _, ⟨c, c1, c2⟩, c3, _⟩ := hone k b hk
   rw [c3]
   exact hs.new _ _ c1 (c2.trans ho)
 · rcases hH k b hk with ⟨_, _, h3⟩ | ⟨_, _, h3, _, _, h6⟩
   · exact hs.inp k b h3 ho
   · obtain ⟨e1, e2⟩ := h6 ho
     rw [e1, e2] at h3
     exact hs.inp k b h3 ho
def cellB (o : Nat) : Blk → Option Value
 | .cells cs _ => cs[o]?
 | .ext cs _ _ => cs[o]?
 | .row cs _ => cs[o]?
 | .inp o' cs => if o' ≤ o then cs[o - o']? else none
 | _ => none
theorem cellA_eq (H : Heap) (k o : Nat) : cellA H k o = (hget H k).bind (cellB o) := by
 unfold cellA
 cases hget H k with
 | none => rfl
 | some b => cases b <;> rfl
theorem cellA_cons {H : Heap} {j k o : Nat} {b : Blk} : cellA ((j, b) :: H) k o = if j = k then cellB o b else cellA H k o := by
 rw [cellA_eq, hget_cons]
 by_cases h : j = k
 · rw [if_pos h, if_pos h]; rfl
 · rw [if_neg h, if_neg h, cellA_eq]
def cellsB (o n : Nat) : Blk → Option (List Value)
 | .cells cs _ => if o + n ≤ cs.length then some ((cs.drop o).take n) else none
 | .ext cs _ _ => if o + n ≤ cs.length then some ((cs.drop o).take n) else none
 | .row cs _ => if o + n ≤ cs.length then some ((cs.drop o).take n) else none
 | .inp o' cs => if o' ≤ o ∧ o - o' + n ≤ cs.length then some ((cs.drop (o - o')).take n) else none
 | _ => none
theorem cellsA_eq (H : Heap) (k o n : Nat) : cellsA H k o n = (hget H k).bind (cellsB o n) := by
 unfold cellsA
 cases hget H k with
 | none => rfl
 | some b => cases b <;> rfl
theorem cellsA_cons {H : Heap} {j k o n : Nat} {b : Blk} : cellsA ((j, b) :: H) k o n = if j = k then cellsB o n b else cellsA H k o n := by
 rw [cellsA_eq, hget_cons]
 by_cases h : j = k
 · rw [if_pos h, if_pos h]; rfl
 · rw [if_neg h, if_neg h, cellsA_eq]
theorem cellsA_cell {H : Heap} {k o n : Nat} {cs : List Value} (h : cellsA H k o n = some cs) {i : Nat} (hi : i < n) : cellA H k (o + i) = cs[i]? ∧ cs.length = n := by
 rw [cellsA_eq] at h
 rw [cellA_eq]
 cases hb : hget H k with
 | none => rw [hb] at h; cases h
 | some b =>
   rw [hb] at h
   simp only [Option.bind_some] at h ⊢
   cases b <;> simp only [cellsB, cellB] at h ⊢
   all_goals first
     | (split at h
        · rename_i hc
          injection h with h; subst h
          refine ⟨?_, by simp; omega⟩
          first
            | (rw [if_pos (by omega), List.getElem?_take, if_pos hi, List.getElem?_drop]; congr 1; omega)
            | (rw [List.getElem?_take, if_pos hi, List.getElem?_drop])
        · cases h)
     | cases h
theorem cellA_lt {H : Heap} {n k o : Nat} {v : Value} (hl : ∀ k b, hget H k = some b → k < n) (h : cellA H k o = some v) : k < n := by
 rw [cellA_eq] at h
 cases hb : hget H k with
 | none => rw [hb] at h; cases h
 | some b => exact hl k b hb
def Sub (H H' : Heap) : Prop := ∀ k b, hget H k = some b → hget H' k = some b
theorem Sub.refl (H : Heap) : Sub H H := fun _ _ h => h
theorem Sub.cons {H H' : Heap} {j : Nat} {b : Blk} (hj : hget H j = none) (h : Sub H H') : Sub H ((j, b) :: H') := fun k c hk => by
 rw [hget_cons, if_neg]
 · exact h k c hk
 · intro e; subst e; rw [hj] at hk; cases hk
theorem Sub.app {H H' A : Heap} (hA : ∀ x ∈ A, hget H x.1 = none) (h : Sub H H') : Sub H (A ++ H') := by
 induction A with
 | nil => exact h
 | cons x A ih => exact Sub.cons (hA x (List.mem_cons_self ..)) (ih fun y hy => hA y (List.mem_cons_of_mem _ hy))
theorem Sub.trans {H H1 H2 : Heap} (h1 : Sub H H1) (h2 : Sub H1 H2) : Sub H H2 := fun k b h => h2 k b (h1 k b h)
theorem Sub.cell {H H' : Heap} (h : Sub H H') {k o : Nat} {v : Value} (hc : cellA H k o = some v) : cellA H' k o = some v := by
 rw [cellA_eq] at hc ⊢
 cases hb : hget H k with
 | none => rw [hb] at hc; cases hc
 | some b => rw [hb] at hc; rw [h k b hb]; exact hc
theorem Sub.cells {H H' : Heap} (h : Sub H H') {k o n : Nat} {v : List Value} (hc : cellsA H k o n = some v) : cellsA H' k o n = some v := by
 rw [cellsA_eq] at hc ⊢
 cases hb : hget H k with
 | none => rw [hb] at hc; cases hc
 | some b => rw [hb] at hc; rw [h k b hb]; exact hc
theorem no_new {H : Heap} {n : Nat} (hl : ∀ k b, hget H k = some b → k < n) : hget H n = none ∧ ∀ c, hget H (n + c) = none := by
 have go : ∀ c, hget H (n + c) = none := fun c => by
   cases hb : hget H (n + c) with
   | none => rfl
   | some b => have := hl _ _ hb; omega
 exact ⟨go 0, go⟩
def plainB2 : Blk → Bool
 | .cells _ _ | .ext _ _ _ | .inp _ _ | .row _ _ | .tab _ => true
 | _ => false
def plainH : Heap → Bool
 | [] => true
 | (_, b) :: H => plainB2 b && plainH H
def tidyL (H : Heap) (n : Nat) : List Nat → Heap
 | [] => []
 | k :: ks => match hget H k with
   | some b => if k < n ∧ plainB2 b = true then (k, b) :: tidyL H n ks else tidyL H n ks
   | none => tidyL H n ks
def tidy (n : Nat) (H : Heap) : Heap := tidyL H n (H.map (·.1))
theorem hget_tidyL {H : Heap} {n : Nat} : ∀ (ks : List Nat) (k : Nat) (b : Blk), hget (tidyL H n ks) k = some b ↔ k ∈ ks ∧ hget H k = some b ∧ k < n ∧ plainB2 b = true
 | [], k, b => by simp [tidyL]
 | j :: ks, k, b => by
   have ih := hget_tidyL (H := H) (n := n) ks k b
   unfold tidyL
   cases hj : hget H j with
   | none =>
     simp only
     rw [ih]
     constructor
     · rintro ⟨h1, h2⟩; exact ⟨List.mem_cons_of_mem _ h1, h2⟩
     · rintro ⟨h1, h2, h3⟩
       rcases List.mem_cons.1 h1 with rfl | h1
       · rw [hj] at h2; cases h2
       · exact ⟨h1, h2, h3⟩
   | some c =>
     simp only
     by_cases hc : j < n ∧ plainB2 c = true
     · rw [if_pos hc, hget_cons]
       by_cases e : j = k
       · subst e
         rw [if_pos rfl]
         constructor
         · intro h; injection h with h; subst h; exact ⟨List.mem_cons_self .., hj, hc⟩
         · rintro ⟨_, h2, _⟩; rw [hj] at h2; exact h2
       · rw [if_neg e, ih]
         constructor
         · rintro ⟨h1, h2⟩; exact ⟨List.mem_cons_of_mem _ h1, h2⟩
         · rintro ⟨h1, h2⟩
           rcases List.mem_cons.1 h1 with rfl | h1
           · exact absurd rfl e
           · exact ⟨h1, h2⟩
     · rw [if_neg hc, ih]
       constructor
       · rintro ⟨h1, h2⟩; exact ⟨List.mem_cons_of_mem _ h1, h2⟩
       · rintro ⟨h1, h2, h3⟩
         rcases List.mem_cons.1 h1 with rfl | h1
         · rw [hj] at h2; injection h2 with h2; subst h2; exact absurd h3 hc
         · exact ⟨h1, h2, h3⟩
theorem hget_tidy {H : Heap} {n k : Nat} {b : Blk} : hget (tidy n H) k = some b ↔ hget H k = some b ∧ k < n ∧ plainB2 b = true := by
 rw [tidy, hget_tidyL]
 constructor
 · exact fun h => h.2
 · exact fun h => ⟨List.mem_map.2 ⟨(k, b), hget_mem _ _ _ h.1, rfl⟩, h⟩
theorem namesOk_tidyL {H : Heap} {n : Nat} : ∀ (ks : List Nat), namesOk n (tidyL H n ks) = true ∧ plainH (tidyL H n ks) = true
 | [] => ⟨rfl, rfl⟩
 | k :: ks => by
   have ih := namesOk_tidyL (H := H) (n := n) ks
   unfold tidyL
   cases hget H k with
   | none => exact ih
   | some b =>
     simp only
     split
     · rename_i hc
       refine ⟨?_, by simp [plainH, hc.2, ih.2]⟩
       simp only [namesOk]
       rw [(blt_iff _ _).2 hc.1]
       exact ih.1
     · exact ih
theorem namesOk_mono {m n : Nat} (h : n ≤ m) : ∀ H : Heap, namesOk n H = true → namesOk m H = true
 | [], _ => rfl
 | (k, b) :: H, hk => by
   simp only [namesOk] at hk ⊢
   split at hk
   · rename_i hb
     have := (blt_iff _ _).1 hb
     rw [(blt_iff _ _).2 (by omega : k < m)]
     exact namesOk_mono h H hk
   · cases hk
theorem AC.tidied {P : Program} {f : FuncId} {args : List Value} {H B : Heap} {n : Nat} {v : Value} {n' : Nat} (hB : ∀ x ∈ B, n ≤ x.1) (h : AC P f args (Ab.tidy n H) n v (B ++ Ab.tidy n H) n') : AC P f args H n v (B ++ H) n' := by
 refine AC.given fun hlt _ _ => ?_
 refine h.frame (fun k b hk => (hget_tidy.1 hk).1) fun k b hk => ?_
 have go : ∀ (B : Heap), (∀ x ∈ B, n ≤ x.1) → hget (B ++ H) k = some b → hget (B ++ Ab.tidy n H) k = some b ∨ (hget H k = some b ∧ hget (Ab.tidy n H) k = none) := by
   intro B
   induction B with
   | nil =>
     intro _ hk
     cases ht : hget (Ab.tidy n H) k with
     | none => exact .inr ⟨hk, rfl⟩
     | some c =>
       have h1 := (hget_tidy.1 ht).1
       rw [show hget H k = some b from hk] at h1
       injection h1 with h1; subst h1
       exact .inl ht
   | cons x B ih =>
     intro hB hk
     obtain ⟨j, y⟩ := x
     rw [List.cons_append, hget_cons] at hk ⊢
     by_cases e : j = k
     · rw [if_pos e] at hk ⊢; exact .inl hk
     · rw [if_neg e] at hk ⊢
       exact ih (fun x hx => hB x (List.mem_cons_of_mem _ hx)) hk
 exact go B hB hk
theorem cellsA_tidy {H : Heap} {n k o m : Nat} (hl : ∀ k b, hget H k = some b → k < n) {cs : List Value} (h : cellsA H k o m = some cs) : cellsA (tidy n H) k o m = some cs := by
 rw [cellsA_eq] at h ⊢
 cases hb : hget H k with
 | none => rw [hb] at h; cases h
 | some b =>
   rw [hb] at h
   have hp : plainB2 b = true := by
     cases b <;> first | rfl | cases h
   rw [hget_tidy.2 ⟨hb, hl k b hb, hp⟩]
   exact h
def frz : Blk → Blk
 | .cells cs _ => .inp 0 cs
 | .ext cs _ sz => .row cs sz
 | b => b
def frzH : Heap → Heap
 | [] => []
 | (k, b) :: H => (k, frz b) :: frzH H
theorem hget_frz : ∀ (H : Heap) (k : Nat), hget (frzH H) k = (hget H k).map frz
 | [], _ => rfl
 | (j, b) :: H, k => by
   rw [frzH, hget_cons, hget_cons, hget_frz H k]
   by_cases h : j = k
   · rw [if_pos h, if_pos h]; rfl
   · rw [if_neg h, if_neg h]
theorem cellsA_frz (H : Heap) (k o n : Nat) : cellsA (frzH H) k o n = cellsA H k o n := by
 rw [cellsA_eq, cellsA_eq, hget_frz]
 cases hget H k with
 | none => rfl
 | some b => cases b <;> simp [frz, cellsB]
theorem cellA_frz (H : Heap) (k o : Nat) : cellA (frzH H) k o = cellA H k o := by
 rw [cellA_eq, cellA_eq, hget_frz]
 cases hget H k with
 | none => rfl
 | some b => cases b <;> simp [frz, cellB]
theorem handA_frz : ∀ (H : Heap) (L : List Nat), (∀ x ∈ H, memN L x.1 = true) → plainH H = true → handA L [] H = frzH H
 | [], _, _, _ => rfl
 | (k, b) :: H, L, hL, hp => by
   simp only [plainH, Bool.and_eq_true] at hp
   have ih := handA_frz H L (fun x hx => hL x (List.mem_cons_of_mem _ hx)) hp.2
   have hk := hL (k, b) (List.mem_cons_self ..)
   have hp1 := hp.1
   cases b <;> first | (simp only [handA, memN, hk, ih, frzH, frz]; done) | cases hp1
theorem dnames_plain : ∀ (H : Heap), plainH H = true → dnames H = H.map (·.1)
 | [], _ => rfl
 | (k, b) :: H, hp => by
   simp only [plainH, Bool.and_eq_true] at hp
   have ih := dnames_plain H hp.2
   have hp1 := hp.1
   cases b <;> first | (simp only [dnames, ih, List.map_cons]; done) | cases hp1
theorem handA_dnames {H : Heap} (h : plainH H = true) : handA (dnames H) [] H = frzH H :=
 handA_frz H _ (fun x hx => (memN_iff _ _).2 (by rw [dnames_plain H h]; exact List.mem_map_of_mem hx)) h
theorem takeNew_frz {H : Heap} {n : Nat} (h : namesOk n H = true) : takeNew n (frzH H) = [] := by
 cases H with
 | nil => rfl
 | cons x H =>
   obtain ⟨k, b⟩ := x
   have := namesOk_mem _ _ h (k, b) (List.mem_cons_self ..)
   rw [frzH, takeNew, ble_dec]
   rw [decide_eq_false (by omega)]
def handU (P : Program) (r : Rec) (mk : List Nat) (i : Nat) (o : Oper) (fr : Fr) (st : St) : Option St :=
 match runOp P r o { st with fr := fr, H := frzH st.H } with
 | some (v, H, k) => match Nat.ble st.n k && namesOk k (takeNew st.n H) && (Nat.beq k st.n || memN mk i) with
   | true => some { st with fr := putA st.fr o.dst v, H := takeNew st.n H ++ st.H, n := k }
   | false => none
 | none => none
def doneU (P : Program) (r : Rec) (al mk late : List Nat) (n0 i : Nat) (o : Oper) (fr : Fr) (st : St) : Option St :=
 match isPure o.op with
 | true => pureS P o fr st
 | false => match isRead o.op with
   | true => match footA P fr o.op with
     | some f => readT P late n0 i o fr st f.see
     | none => none
   | false => match memN al i with
     | true => aloneT P r mk i o fr st
     | false => match footA P fr o.op with
       | some f => match f.put.isEmpty && visT late n0 i st.n f.see with
         | true => handT P r mk i o f.see fr st
         | false => none
       | none => match memN late i && plainH st.H with
         | true => handU P r mk i o fr st
         | false => none
def oneU (P : Program) (r : Rec) (ops : Array Oper) (al mk late : List Nat) (n0 i : Nat) (o : Oper) (st : St) : Option St :=
 match dstOk st.sz o.dst with
 | false => none
 | true => match wantedA ops (trim (lookTmps ops o) st.fr) o with
   | none => none
   | some false => some { st with fr := putA st.fr o.dst undefV }
   | some true => doneU P r al mk late n0 i o (trim (lookTmps ops o) st.fr) st
def opsU (P : Program) (r : Rec) (ops : Array Oper) (al mk late : List Nat) (n0 : Nat) : List Oper → Nat → St → Option St
 | [], _, st => some st
 | o :: os, i, st => match oneU P r ops al mk late n0 i o st with
   | some st' => opsU P r ops al mk late n0 os (i + 1) st'
   | none => none
def runU (P : Program) (r : Rec) (ops : Array Oper) (al mk late : List Nat) (st : St) : Option St :=
 match namesOk st.n st.H with
 | true => opsU P r ops al mk late st.n ops.toList 0 st
 | false => none
theorem opsU_ok {P : Program} {r : Rec} {ops : Array Oper} {al mk late : List Nat} {n0 : Nat} : ∀ (os : List Oper) (i : Nat) (st st' : St), opsU P r ops al mk late n0 os i st = some st' → opsT P r ops al mk late n0 os i st = some st'
 | [], _, _, _, h => h
 | o :: os, i, st, st', h => by
   simp only [opsU] at h
   split at h
   · rename_i st1 h1
     have key : oneT P r ops al mk late n0 i o st = some st1 := by
       unfold oneU at h1
       unfold oneT
       split at h1
       · cases h1
       · rename_i hd
         rw [hd]
         simp only
         split at h1
         · cases h1
         · rename_i hw; rw [hw]; exact h1
         · rename_i hw
           rw [hw]
           simp only
           unfold doneU at h1
           unfold doneT
           split at h1
           · rename_i hp; rw [hp]; exact h1
           · rename_i hp
             rw [hp]
             simp only
             split at h1
             · rename_i hrd; rw [hrd]; exact h1
             · rename_i hrd
               rw [hrd]
               simp only
               split at h1
               · rename_i hm; rw [hm]; exact h1
               · rename_i hm
                 rw [hm]
                 simp only
                 split at h1
                 · rename_i f hf; rw [hf]; exact h1
                 · rename_i hf
                   rw [hf]
                   simp only
                   split at h1
                   · rename_i hc
                     rw [Bool.and_eq_true] at hc
                     rw [hc.1]
                     simp only
                     unfold handT
                     rw [handA_dnames hc.2]
                     exact h1
                   · cases h1
     simp only [opsT, key]
     exact opsU_ok os (i + 1) st1 st' h
   · cases h
section
variable {P : Program} {n0 : Nat} {ro : Option Nat} {st st' : St} {K : Ex → St → Prop} {r : Rec} {m : Nat}
theorem E.drawU (hm : P.follows .mixedOrders = true) (hr : RecOk P r m) (al mk late : List Nat) {id : Nat} {ops : Array Oper} (hd : drawT ops (Region.before ops) al mk late = true) (h : runU P r ops al mk late st = some st') (k : K .normal st') : E P n0 ro (.region id ops true) st K := by
 refine E.drawC hm hr al mk late hd ?_ k
 unfold runU at h
 unfold runT
 split at h
 · rename_i hn; rw [hn]; exact opsU_ok _ _ _ _ h
 · cases h
end
attribute [simp] runU opsU oneU doneU handU frz frzH plainH plainB2 cellB cellsB
theorem Leads.keep {P : Program} {n0 : Nat} {s s2 : St} (hn : s2.n = s.n) (hz : s2.sz = s.sz) (hm : s2.marks = s.marks) (hf : ∀ x ∈ s2.fr, lk s.fr x.1 = some x.2) (hh : Sub s2.H s.H) : Leads P n0 s s2 := by
 intro p φ M w0 hg hp a w φ1 hS hs
 have hf' : ∀ t v, lk s2.fr t = some v → lk s.fr t = some v := fun t v h => hf (t, v) (lk_mem _ _ _ h)
 rw [hn]
 exact ⟨φ1, ⟨⟨hS.base.rel.sub hh, hn ▸ hS.base.lt, hS.base.gl, hn ▸ hS.base.gn, fun k b hk => hS.base.sm k b (hh k b hk), fun t v hv => hS.base.ar t v (hf' t v hv), fun t v hv => hS.base.sf t v (hf' t v hv)⟩, hz ▸ hS.size, hm ▸ hS.defs, hm ▸ hS.marks⟩, hs.sub hh⟩
def mapO {α β : Type} (f : β → Option α) : List β → Option (List α)
 | [] => some []
 | x :: xs => match f x, mapO f xs with
   | some y, some ys => some (y :: ys)
   | _, _ => none
def chunks (sz : Nat) : Nat → List Value → List (List Value)
 | 0, _ => []
 | k + 1, cs => cs.take sz :: chunks sz k (cs.drop sz)
theorem mapO_get {α β : Type} {f : β → Option α} : ∀ {xs : List β} {ys : List α}, mapO f xs = some ys → xs.length = ys.length ∧ ∀ (i : Nat) x, xs[i]? = some x → f x = ys[i]?
 | [], ys, h => by simp only [mapO, Option.some.injEq] at h; subst h; exact ⟨rfl, fun i x hx => by simp at hx⟩
 | x :: xs, ys, h => by
   simp only [mapO] at h
   split at h
   · rename_i y ys' h1 h2
     injection h with h; subst h
     obtain ⟨e1, e2⟩ := mapO_get h2
     refine ⟨by simp [e1], fun i z hz => ?_⟩
     cases i with
     | zero => simp at hz ⊢; subst hz; exact h1
     | succ i => simp at hz ⊢; exact e2 i z hz
   · cases h
theorem mapO_of {α β : Type} {f : β → Option α} : ∀ {xs : List β} {ys : List α}, xs.length = ys.length → (∀ (i : Nat) x, xs[i]? = some x → f x = ys[i]?) → mapO f xs = some ys
 | [], ys, h, _ => by cases ys with | nil => rfl | cons => simp at h
 | x :: xs, [], h, _ => by simp at h
 | x :: xs, y :: ys, h, hg => by
   have h0 := hg 0 x rfl
   have ih := mapO_of (xs := xs) (ys := ys) (by simpa using h) fun i z hz => by simpa using hg (i + 1) z (by simpa using hz)
   simp only [mapO, h0, ih, List.getElem?_cons_zero]
theorem mapO_mono {α β : Type} {f g : β → Option α} (h : ∀ x y, f x = some y → g x = some y) : ∀ {xs : List β} {ys : List α}, mapO f xs = some ys → mapO g xs = some ys
 | [], _, e => e
 | x :: xs, ys, e => by
   simp only [mapO] at e ⊢
   split at e
   · rename_i y ys' h1 h2
     rw [h x y h1, mapO_mono h h2]; exact e
   · cases e
theorem chunks_len (sz : Nat) : ∀ (k : Nat) (cs : List Value), (chunks sz k cs).length = k
 | 0, _ => rfl
 | k + 1, cs => by simp [chunks, chunks_len sz k]
theorem chunks_get (sz : Nat) : ∀ (k : Nat) (cs : List Value) (i : Nat), i < k → (chunks sz k cs)[i]? = some ((cs.drop (i * sz)).take sz)
 | 0, _, _, h => by omega
 | k + 1, cs, 0, _ => by simp [chunks]
 | k + 1, cs, i + 1, h => by
   rw [chunks, List.getElem?_cons_succ, chunks_get sz k _ i (by omega), List.drop_drop]
   congr 3
   rw [Nat.add_mul]; omega
abbrev Dec (α : Type) := Heap → List Value → Option α
def listV {α : Type} (sz : Nat) (dec : Dec α) (H : Heap) : Value → Option (List α)
 | .slice none 0 0 => some []
 | .slice (some a) len _ => if len < 2147483648 then (if len = 0 then some [] else if flat a = true then (cellsA H a.block a.off (len * sz)).bind fun cs => mapO (dec H) (chunks sz len cs) else none) else none
 | _ => none
theorem cells_part {H : Heap} {k o n sz i : Nat} {cs : List Value} (h : cellsA H k o (n * sz) = some cs) (hi : i < n) : cellsA H k (o + i * sz) sz = some ((cs.drop (i * sz)).take sz) := by
 have hm : i * sz + sz ≤ n * sz := by
   rw [← Nat.succ_mul]; exact Nat.mul_le_mul_right _ hi
 rw [cellsA_eq] at h ⊢
 cases hb : hget H k with
 | none => rw [hb] at h; cases h
 | some b =>
   rw [hb] at h
   simp only [Option.bind_some] at h ⊢
   have key : ∀ (xs : List Value) (p : Nat), p + n * sz ≤ xs.length → ((xs.drop (p + i * sz)).take sz) = ((((xs.drop p).take (n * sz)).drop (i * sz)).take sz) := fun xs p hp => by
     rw [List.drop_take, List.take_take, List.drop_drop, Nat.min_eq_left (by omega)]
   cases b <;> simp only [cellsB] at h ⊢
   all_goals first
     | (split at h
        · injection h with h; subst h
          first
            | (rw [if_pos (by omega), key _ _ (by omega)])
            | (rename_i hc
               rw [if_pos (by omega), ← key _ _ (by omega)]
               congr 3
               omega)
        · cases h)
     | cases h
theorem listV_form {α : Type} {sz : Nat} {dec : Dec α} {H : Heap} {v : Value} {l : List α} (h : listV sz dec H v = some l) :
   ∃ oa c, v = .slice oa l.length c ∧ l.length < 2147483648 ∧ (oa = none → c = 0) ∧ ∀ i (hi : i < l.length), ∃ a r, oa = some a ∧ flat a = true ∧ cellsA H a.block (a.off + i * sz) sz = some r ∧ dec H r = some l[i] := by
 unfold listV at h
 split at h
 · injection h with h; subst h
   exact ⟨none, 0, rfl, by simp, fun _ => rfl, fun i hi => by simp at hi⟩
 · rename_i a len c
   split at h
   · rename_i hlt
     split at h
     · rename_i h0
       injection h with h; subst h h0
       exact ⟨some a, c, rfl, by simp, fun e => (by cases e), fun i hi => by simp at hi⟩
     · split at h
       · rename_i hf
         obtain ⟨cs, hc, hm⟩ := Option.bind_eq_some_iff.1 h
         obtain ⟨e1, e2⟩ := mapO_get hm
         rw [chunks_len] at e1
         subst e1
         refine ⟨some a, c, rfl, hlt, fun e => (by cases e), fun i hi => ⟨a, _, rfl, hf, cells_part hc hi, ?_⟩⟩
         rw [e2 i _ (chunks_get sz _ cs i hi), List.getElem?_eq_getElem hi]
       · cases h
   · cases h
 · cases h
def DecMono {α : Type} (dec : Dec α) : Prop := ∀ H H' cs y, Sub H H' → dec H cs = some y → dec H' cs = some y
theorem listV_mono {α : Type} {sz : Nat} {dec : Dec α} (hd : DecMono dec) {H H' : Heap} (hs : Sub H H') {v : Value} {l : List α} (h : listV sz dec H v = some l) : listV sz dec H' v = some l := by
 unfold listV at h ⊢
 split at h
 · exact h
 · rename_i a len c
   split at h
   · rename_i hlt
     rw [if_pos hlt]
     split at h
     · rename_i h0; rw [if_pos h0]; exact h
     · rename_i h0
       rw [if_neg h0]
       split at h
       · rename_i hf
         obtain ⟨cs, hc, hm⟩ := Option.bind_eq_some_iff.1 h
         rw [if_pos hf, hs.cells hc]
         exact mapO_mono (fun x y => hd H H' x y hs) hm
       · cases h
   · cases h
 · cases h
def DecFrz {α : Type} (dec : Dec α) : Prop := ∀ H cs, dec (frzH H) cs = dec H cs
theorem listV_frz {α : Type} {sz : Nat} {dec : Dec α} (hd : DecFrz dec) (H : Heap) (v : Value) : listV sz dec (frzH H) v = listV sz dec H v := by
 unfold listV
 split
 · rfl
 · rw [show (dec (frzH H)) = dec H from funext (hd H)]
   simp only [cellsA_frz]
 · rfl
def DecTidy {α : Type} (dec : Dec α) : Prop := ∀ H n cs y, (∀ k b, hget H k = some b → k < n) → dec H cs = some y → dec (tidy n H) cs = some y
theorem listV_tidy {α : Type} {sz : Nat} {dec : Dec α} (hd : DecTidy dec) {H : Heap} {n : Nat} (hl : ∀ k b, hget H k = some b → k < n) {v : Value} {l : List α} (h : listV sz dec H v = some l) : listV sz dec (tidy n H) v = some l := by
 unfold listV at h ⊢
 split at h
 · exact h
 · rename_i a len c
   split at h
   · rename_i hlt
     rw [if_pos hlt]
     split at h
     · rename_i h0; rw [if_pos h0]; exact h
     · rename_i h0
       rw [if_neg h0]
       split at h
       · rename_i hf
         obtain ⟨cs, hc, hm⟩ := Option.bind_eq_some_iff.1 h
         rw [if_pos hf, cellsA_tidy hl hc]
         exact mapO_mono (fun x y => hd H n x y hl) hm
       · cases h
   · cases h
 · cases h
def decI : Dec Int := fun _ cs => match cs with
 | [.int .i64 n] => some n
 | _ => none
theorem decI_mono : DecMono decI := fun _ _ _ _ _ h => h
theorem decI_frz : DecFrz decI := fun _ _ => rfl
theorem decI_tidy : DecTidy decI := fun _ _ _ _ _ h => h
def decS : Dec ByteArray := fun _ cs => match cs with
 | [.string s] => some s
 | _ => none
theorem decS_mono : DecMono decS := fun _ _ _ _ _ h => h
theorem decS_frz : DecFrz decS := fun _ _ => rfl
theorem decS_tidy : DecTidy decS := fun _ _ _ _ _ h => h
abbrev intV (H : Heap) (v : Value) : Option (List Int) := listV 1 decI H v
abbrev strV (H : Heap) (v : Value) : Option (List ByteArray) := listV 1 decS H v
def decL {α : Type} (sz : Nat) (dec : Dec α) : Dec (List α) := fun H cs => match cs with
 | [v] => listV sz dec H v
 | _ => none
theorem decL_mono {α : Type} {sz : Nat} {dec : Dec α} (hd : DecMono dec) : DecMono (decL sz dec) := fun H H' cs y hs h => by
 unfold decL at h ⊢
 split at h
 · exact listV_mono hd hs h
 · cases h
theorem decL_tidy {α : Type} {sz : Nat} {dec : Dec α} (hd : DecTidy dec) : DecTidy (decL sz dec) := fun H n cs y hl h => by
 unfold decL at h ⊢
 split at h
 · exact listV_tidy hd hl h
 · cases h
abbrev nestV (H : Heap) (v : Value) : Option (List (List Int)) := listV 1 (decL 1 decI) H v
theorem cells_one {H : Heap} {k o : Nat} {r : List Value} (h : cellsA H k o 1 = some r) : ∃ x, r = [x] ∧ cellA H k o = some x := by
 obtain ⟨h1, h2⟩ := cellsA_cell h (i := 0) (by omega)
 obtain ⟨x, rfl⟩ : ∃ x, r = [x] := by
   match r, h2 with
   | [x], _ => exact ⟨x, rfl⟩
 exact ⟨x, rfl, by simpa using h1⟩
theorem intV_form {H : Heap} {v : Value} {l : List Int} (h : intV H v = some l) :
   ∃ oa c, v = .slice oa l.length c ∧ l.length < 2147483648 ∧ (oa = none → c = 0) ∧ ∀ i (hi : i < l.length), ∃ a, oa = some a ∧ flat a = true ∧ cellA H a.block (a.off + i) = some (.int .i64 l[i]) := by
 obtain ⟨oa, c, e1, e2, e0, e3⟩ := listV_form h
 refine ⟨oa, c, e1, e2, e0, fun i hi => ?_⟩
 obtain ⟨a, r, f1, f2, f3, f4⟩ := e3 i hi
 obtain ⟨x, rfl, hx⟩ := cells_one f3
 rw [Nat.mul_one] at hx
 unfold decI at f4
 split at f4
 · rename_i n hn
   injection hn with hn
   injection f4 with f4
   subst hn f4
   exact ⟨a, f1, f2, hx⟩
 · cases f4
theorem strV_form {H : Heap} {v : Value} {l : List ByteArray} (h : strV H v = some l) :
   ∃ oa c, v = .slice oa l.length c ∧ l.length < 2147483648 ∧ (oa = none → c = 0) ∧ ∀ i (hi : i < l.length), ∃ a, oa = some a ∧ flat a = true ∧ cellA H a.block (a.off + i) = some (.string l[i]) := by
 obtain ⟨oa, c, e1, e2, e0, e3⟩ := listV_form h
 refine ⟨oa, c, e1, e2, e0, fun i hi => ?_⟩
 obtain ⟨a, r, f1, f2, f3, f4⟩ := e3 i hi
 obtain ⟨x, rfl, hx⟩ := cells_one f3
 rw [Nat.mul_one] at hx
 unfold decS at f4
 split at f4
 · rename_i n hn
   injection hn with hn
   injection f4 with f4
   subst hn f4
   exact ⟨a, f1, f2, hx⟩
 · cases f4
theorem decL_form {α : Type} {sz : Nat} {dec : Dec α} {H : Heap} {v : Value} {l : List (List α)} (h : listV 1 (decL sz dec) H v = some l) :
   ∃ oa c, v = .slice oa l.length c ∧ l.length < 2147483648 ∧ (oa = none → c = 0) ∧ ∀ i (hi : i < l.length), ∃ a r, oa = some a ∧ flat a = true ∧ cellA H a.block (a.off + i) = some r ∧ listV sz dec H r = some l[i] := by
 obtain ⟨oa, c, e1, e2, e0, e3⟩ := listV_form h
 refine ⟨oa, c, e1, e2, e0, fun i hi => ?_⟩
 obtain ⟨a, r, f1, f2, f3, f4⟩ := e3 i hi
 obtain ⟨x, rfl, hx⟩ := cells_one f3
 rw [Nat.mul_one] at hx
 exact ⟨a, x, f1, f2, hx, f4⟩
theorem nestV_form {H : Heap} {v : Value} {l : List (List Int)} (h : nestV H v = some l) :
   ∃ oa c, v = .slice oa l.length c ∧ l.length < 2147483648 ∧ (oa = none → c = 0) ∧ ∀ i (hi : i < l.length), ∃ a r, oa = some a ∧ flat a = true ∧ cellA H a.block (a.off + i) = some r ∧ intV H r = some l[i] := decL_form h
theorem chunks_one : ∀ (cs : List Value), chunks 1 cs.length cs = cs.map fun v => [v]
 | [] => rfl
 | v :: cs => by simp [chunks, chunks_one cs]
theorem listV_mk {α : Type} {dec : Dec α} {H : Heap} {a : Addr} {c : Nat} {cs : List Value} {l : List α} (hf : flat a = true) (hc : cellsA H a.block a.off cs.length = some cs) (hl : cs.length = l.length) (hlt : l.length < 2147483648) (hd : ∀ (i : Nat) v, cs[i]? = some v → dec H [v] = l[i]?) : listV 1 dec H (.slice (some a) l.length c) = some l := by
 unfold listV
 simp only
 rw [if_pos hlt]
 split
 · rename_i h0
   rw [List.length_eq_zero_iff] at h0
   rw [h0]
 · try rw [if_pos hf]
   rw [← hl, Nat.mul_one, hc]
   simp only [Option.bind_some]
   rw [chunks_one]
   refine mapO_of (by simp [hl]) fun i x hx => ?_
   simp only [List.getElem?_map, Option.map_eq_some_iff] at hx
   obtain ⟨v, hv, rfl⟩ := hx
   exact hd i v hv
theorem dec_iv {H : Heap} {l : List Int} (i : Nat) (v : Value) (h : (l.map iv)[i]? = some v) : decI H [v] = l[i]? := by
 simp only [List.getElem?_map, Option.map_eq_some_iff] at h
 obtain ⟨n, hn, rfl⟩ := h
 rw [hn]; rfl
theorem intV_ext {H : Heap} {k c t : Nat} {l : List Int} (h : hget H k = some (.ext (l.map iv) t 1)) (hl : l.length < 2147483648) : intV H (.slice (some ⟨k, 0, some 0⟩) l.length c) = some l :=
 listV_mk (cs := l.map iv) rfl (by rw [cellsA_eq, h]; simp [List.take_of_length_le]) (by simp) hl dec_iv
theorem intV_cells {H : Heap} {k c t : Nat} {l : List Int} (h : hget H k = some (.cells (l.map iv) t)) (hl : l.length < 2147483648) : intV H (.slice (some ⟨k, 0, none⟩) l.length c) = some l :=
 listV_mk (cs := l.map iv) rfl (by rw [cellsA_eq, h]; simp [List.take_of_length_le]) (by simp) hl dec_iv
theorem Leads.back {P : Program} {n0 : Nat} {s s2 : St} {H : Heap} (hs2 : s2.H = H) (hold : ∀ k b, hget H k = some b → k < n0 ∧ scB (· < n0) b) (hkeep : Sub H s.H) (hn : s2.n = n0) (hz : s2.sz = s.sz) (hm : s.marks = [] ∧ s2.marks = []) (hf : ∀ x ∈ s2.fr, lk s.fr x.1 = some x.2 ∧ sc (· < n0) x.2) : Leads P n0 s s2 :=
 Leads.renN (A := []) (H := H) [] (by simpa using hs2) hold hkeep rfl (by simpa using hn) hz hm (fun x hx => .inl (hf x hx)) (by simp)
theorem Step.drawn {P : Program} {φ : Vl} {n : Nat} {M : Mp} {w : World} (h : HRel P φ M w) (d : Nat) : Step P φ n M w φ n M { w with drawn := d } :=
 ⟨Nat.le_refl _, fun _ _ => ⟨rfl, rfl⟩, ⟨h.blk, h.apart, h.glob⟩, fun k b hb ho => .inr ⟨k, b, hb, ho, rfl⟩, fun _ _ hb _ => hb, ⟨rfl, rfl, rfl, Nat.le_refl _, fun _ _ _ => rfl⟩⟩
theorem read32 (b : Nat) : Ieee.single.read b = if b % 2 ^ 31 < 2 ^ 23 then .number (b / 2 ^ 31 % 2 == 1) (b % 2 ^ 31) (-149) else if b % 2 ^ 31 < 0x7f800000 then .number (b / 2 ^ 31 % 2 == 1) (2 ^ 23 + b % 2 ^ 31 % 2 ^ 23) (-149 + (b % 2 ^ 31 / 2 ^ 23 - 1 : Nat)) else if b % 2 ^ 31 = 0x7f800000 then .infinity (b / 2 ^ 31 % 2 == 1) else .nan (b / 2 ^ 31 % 2 == 1) (b % 2 ^ 31 - 0x7f800000) := rfl
end
section
open Go Ieee
theorem cut_exact {way : Toward} {s : Bool} {n D : Nat} (hn : n ≠ 0) (hd : 2 ^ D ∣ n) : way.cut s n D = n / 2 ^ D := by
 have hlog : D ≤ n.log2 := by
   have h1 : 2 ^ D ≤ n := Nat.le_of_dvd (Nat.pos_of_ne_zero hn) hd
   have h2 := Nat.lt_log2_self (n := n)
   have h3 : 2 ^ D < 2 ^ (n.log2 + 1) := Nat.lt_of_le_of_lt h1 h2
   have := (Nat.pow_lt_pow_iff_right (by decide : 1 < 2)).1 h3
   omega
 unfold Toward.cut
 have hmin : min D (n.log2 + 2) = D := by omega
 have hr : n % 2 ^ D = 0 := Nat.mod_eq_zero_of_dvd hd
 have hp : 0 < 2 ^ D := Nat.two_pow_pos _
 simp only [hmin, Nat.one_shiftLeft, hr]
 cases way
 · have h1 : ¬ 2 ^ D < 0 := by omega
   have h2 : ¬ 2 ^ D = 0 := by omega
   simp
 · simp
 · simp
 · simp
theorem kept_lt {f : Format} {mag : Nat} {place last : Int} (hl : last = max (place + mag.log2 - f.fractionBits) f.leastPlace) (hd : 2 ^ (last - place).toNat ∣ mag * 2 ^ (place - last).toNat) : mag * 2 ^ (place - last).toNat / 2 ^ (last - place).toNat < 2 * f.binade := by
 obtain ⟨A, hA⟩ : ∃ A, (place - last).toNat = A := ⟨_, rfl⟩
 obtain ⟨D, hD⟩ : ∃ D, (last - place).toNat = D := ⟨_, rfl⟩
 rw [hA, hD] at hd ⊢
 obtain ⟨kept, hk⟩ : ∃ k, mag * 2 ^ A / 2 ^ D = k := ⟨_, rfl⟩
 have hkD : mag * 2 ^ A = kept * 2 ^ D := by rw [← hk, Nat.div_mul_cancel hd]
 have hhigh := Nat.lt_log2_self (n := mag)
 have hB : f.binade = 2 ^ f.fractionBits := rfl
 rw [hk]
 have h1 : kept * 2 ^ D < 2 ^ (mag.log2 + 1 + A) := by
   rw [← hkD, Nat.pow_add]
   exact Nat.mul_lt_mul_of_pos_right hhigh (Nat.two_pow_pos _)
 have h2 : 2 ^ (mag.log2 + 1 + A) ≤ 2 ^ (f.fractionBits + 1 + D) := Nat.pow_le_pow_right (by decide) (by omega)
 have h3 : kept * 2 ^ D < 2 * f.binade * 2 ^ D := by
   rw [hB, ← Nat.pow_succ', ← Nat.pow_add]
   exact Nat.lt_of_lt_of_le h1 h2
 exact Nat.lt_of_mul_lt_mul_right h3
theorem write_exact (f : Format) (s : Bool) {mag : Nat} {place last : Int} (hm : mag ≠ 0) (hl : last = max (place + mag.log2 - f.fractionBits) f.leastPlace) (hd : 2 ^ (last - place).toNat ∣ mag * 2 ^ (place - last).toNat)
   (hi : (last - f.leastPlace).toNat * f.binade + mag * 2 ^ (place - last).toNat / 2 ^ (last - place).toNat < f.infRung) :
   f.read (f.nearest s mag place) = .number s (mag * 2 ^ (place - last).toNat / 2 ^ (last - place).toNat) last := by
 obtain ⟨A, hA⟩ : ∃ A, (place - last).toNat = A := ⟨_, rfl⟩
 obtain ⟨D, hD⟩ : ∃ D, (last - place).toNat = D := ⟨_, rfl⟩
 rw [hA, hD] at hd hi ⊢
 have hn : mag * 2 ^ A ≠ 0 := Nat.mul_ne_zero hm (Nat.pos_iff_ne_zero.1 (Nat.two_pow_pos _))
 obtain ⟨kept, hk⟩ : ∃ k, mag * 2 ^ A / 2 ^ D = k := ⟨_, rfl⟩
 have hkD : mag * 2 ^ A = kept * 2 ^ D := by rw [← hk, Nat.div_mul_cancel hd]
 have hlow := Nat.log2_self_le hm
 have hB : f.binade = 2 ^ f.fractionBits := rfl
 have hkb : kept < 2 * f.binade := by
   have := kept_lt hl (by rw [hA, hD]; exact hd)
   rwa [hA, hD, hk] at this
 have hkl : f.leastPlace < last → f.binade ≤ kept := fun h => by
   have h1 : 2 ^ (mag.log2 + A) ≤ kept * 2 ^ D := by
     rw [← hkD, Nat.pow_add]
     exact Nat.mul_le_mul_right _ hlow
   have h2 : 2 ^ (f.fractionBits + D) ≤ 2 ^ (mag.log2 + A) := Nat.pow_le_pow_right (by decide) (by omega)
   have h3 : f.binade * 2 ^ D ≤ kept * 2 ^ D := by
     rw [hB, ← Nat.pow_add]
     exact Nat.le_trans h2 h1
   exact Nat.le_of_mul_le_mul_right h3 (Nat.two_pow_pos _)
 have hnear : f.nearest s mag place = f.word s ((last - f.leastPlace).toNat * f.binade + kept) := by
   unfold Format.nearest
   rw [if_neg hm]
   have h1 : Toward.cut Toward.even s (mag <<< (place - last).toNat) (last - place).toNat = kept := by
     rw [hA, hD, Nat.shiftLeft_eq, cut_exact hn hd, hk]
   simp only [← hl]
   rw [h1, Nat.min_eq_left]
   rw [hk] at hi
   omega
 rw [hnear, hk]
 rw [hk] at hi
 obtain ⟨q, hq⟩ : ∃ q, (last - f.leastPlace).toNat = q := ⟨_, rfl⟩
 rw [hq] at hi ⊢
 have hinf := f.infRung_lt
 have hbp : 0 < f.binade := Nat.two_pow_pos _
 obtain ⟨rung, hrung⟩ : ∃ r, q * f.binade + kept = r := ⟨_, rfl⟩
 rw [hrung] at hi ⊢
 have hsw : f.word s rung / f.signWeight % 2 = (if s then 1 else 0) ∧ f.word s rung % f.signWeight = rung := by
   unfold Format.word
   cases s
   · simp only [Bool.false_eq_true, if_false]
     rw [Nat.div_eq_of_lt (by omega), Nat.mod_eq_of_lt (a := rung) (by omega)]
     exact ⟨rfl, rfl⟩
   · simp only [if_true]
     have hp : 0 < f.signWeight := by omega
     rw [Nat.add_div_left _ hp, Nat.div_eq_of_lt (by omega), Nat.add_mod_left, Nat.mod_eq_of_lt (a := rung) (by omega)]
     exact ⟨rfl, rfl⟩
 unfold Format.read
 rw [hsw.1, hsw.2]
 have hneg : ((if s = true then 1 else 0) == 1) = s := by cases s <;> rfl
 simp only [hneg]
 by_cases h0 : last = f.leastPlace
 · have hq0 : q = 0 := by omega
   subst hq0
   have hr : rung = kept := by omega
   subst hr
   by_cases hb : rung < f.binade
   · rw [if_pos hb, h0]
   · rw [if_neg hb, if_pos hi]
     have h1 : rung / f.binade = 1 := by
       rw [show rung = f.binade * 1 + (rung - f.binade) by omega, Nat.mul_add_div hbp, Nat.div_eq_of_lt (by omega)]
     have h2 : rung % f.binade = rung - f.binade := by
       rw [Nat.mod_eq_sub_mod (by omega), Nat.mod_eq_of_lt (by omega)]
     rw [h1, h2, h0]
     congr 1 <;> omega
 · have hlt : f.leastPlace < last := by omega
   have hkl := hkl hlt
   have hqp : 0 < q := by omega
   have hr : rung = (q + 1) * f.binade + (kept - f.binade) := by rw [Nat.succ_mul]; omega
   have hnb : ¬ rung < f.binade := by
     have : 1 * f.binade ≤ q * f.binade := Nat.mul_le_mul_right _ hqp
     omega
   rw [if_neg hnb, if_pos hi]
   have h1 : rung / f.binade = q + 1 := by
     rw [hr, Nat.mul_comm, Nat.mul_add_div hbp, Nat.div_eq_of_lt (by omega)]
   have h2 : rung % f.binade = kept - f.binade := by
     rw [hr, Nat.mul_comm, Nat.mul_add_mod, Nat.mod_eq_of_lt (by omega)]
   rw [h1, h2]
   congr 1 <;> omega
theorem write_zero (f : Format) (s : Bool) (place : Int) : f.read (f.nearest s 0 place) = .number s 0 f.leastPlace := by
 have hinf := f.infRung_lt
 have hbp : 0 < f.binade := Nat.two_pow_pos _
 unfold Format.nearest
 rw [if_pos rfl]
 have hsw : f.word s 0 / f.signWeight % 2 = (if s then 1 else 0) ∧ f.word s 0 % f.signWeight = 0 := by
   unfold Format.word
   cases s
   · simp
   · have hp : 0 < f.signWeight := by omega
     simp [Nat.div_self hp]
 unfold Format.read
 rw [hsw.1, hsw.2, if_pos hbp]
 cases s <;> rfl
def mv2 (m : Nat) (e : Int) : Nat := m * 2 ^ (e + 1200).toNat
def sv2 (s : Bool) (m : Nat) (e : Int) : Int := if s then -(mv2 m e : Int) else mv2 m e
theorem write_val (f : Format) (s : Bool) {mag : Nat} {place last : Int} (hp : -1200 ≤ place) (hf : -1200 ≤ f.leastPlace) (hl : last = max (place + mag.log2 - f.fractionBits) f.leastPlace) (hd : 2 ^ (last - place).toNat ∣ mag)
   (hi : mag ≠ 0 → (last - f.leastPlace).toNat * f.binade + mag * 2 ^ (place - last).toNat / 2 ^ (last - place).toNat < f.infRung) :
   ∃ m e, f.read (f.nearest s mag place) = .number s m e ∧ f.leastPlace ≤ e ∧ mv2 m e = mv2 mag place := by
 by_cases hm : mag = 0
 · subst hm
   exact ⟨0, _, write_zero f s place, Int.le_refl _, by simp [mv2]⟩
 · refine ⟨_, _, write_exact f s hm hl (Nat.dvd_trans hd (Nat.dvd_mul_right _ _)) (hi hm), by omega, ?_⟩
   unfold mv2
   by_cases h : last ≤ place
   · have h1 : (last - place).toNat = 0 := by omega
     rw [h1, Nat.pow_zero, Nat.div_one, Nat.mul_assoc, ← Nat.pow_add]
     congr 2
     omega
   · have h1 : (place - last).toNat = 0 := by omega
     rw [h1, Nat.pow_zero, Nat.mul_one]
     rw [show (last + 1200).toNat = (last - place).toNat + (place + 1200).toNat by omega, Nat.pow_add, ← Nat.mul_assoc, Nat.div_mul_cancel hd]
theorem log2_lt {m k : Nat} (h : m < 2 ^ k) (hm : m ≠ 0) : m.log2 < k := (Nat.log2_lt hm).2 h
def val32 (b : Nat) : Int := match single.read b with
 | .number s m e => sv2 s m e
 | _ => 0
def fin32 (b : Nat) : Bool := match single.read b with
 | .number .. => true
 | _ => false
theorem fin_form {b : Nat} (h : fin32 b = true) : ∃ s m e, single.read b = .number s m e ∧ m < 2 ^ 24 ∧ -149 ≤ e ∧ val32 b = sv2 s m e := by
 unfold fin32 at h
 unfold val32
 rw [read32] at h ⊢
 have hm := Nat.mod_lt (b % 2 ^ 31) (y := 2 ^ 23) (by decide)
 by_cases c1 : b % 2 ^ 31 < 2 ^ 23
 · rw [if_pos c1]
   exact ⟨_, _, _, rfl, by omega, by omega, rfl⟩
 rw [if_neg c1] at h ⊢
 by_cases c2 : b % 2 ^ 31 < 0x7f800000
 · rw [if_pos c2]
   exact ⟨_, _, _, rfl, by omega, by omega, rfl⟩
 rw [if_neg c2] at h
 by_cases c3 : b % 2 ^ 31 = 0x7f800000
 · rw [if_pos c3] at h
   cases h
 · rw [if_neg c3] at h
   cases h
theorem sub_self {b : Nat} (h : fin32 b = true) : single.sub b b = some 0 := by
 obtain ⟨s, m, e, h1, _, _, _⟩ := fin_form h
 unfold Format.sub
 rw [h1]
 have : (Datum.number s m e).sum (Datum.number s m e).opposite = some (.number false 0 e) := by
   unfold Datum.opposite Datum.sum
   simp only [Int.min_self, Int.sub_self]
   have h0 : signed s m (0 : Int).toNat + signed (!s) m (0 : Int).toNat = 0 := by
     unfold signed
     cases s
     · simp; omega
     · simp; omega
   rw [h0]
   cases s <;> rfl
 rw [this, Option.map_some]
 rfl
def val64 (b : Nat) : Int := match double.read b with
 | .number s m e => sv2 s m e
 | _ => 0
def fin64 (b : Nat) : Bool := match double.read b with
 | .number .. => true
 | _ => false
theorem fin64_of {r : Nat} {s : Bool} {m : Nat} {e : Int} (h : double.read r = .number s m e) : fin64 r = true ∧ val64 r = sv2 s m e := by
 unfold fin64 val64
 rw [h]
 exact ⟨rfl, rfl⟩
theorem wide {b : Nat} (h : fin32 b = true) : ∃ s m e, single.read b = .number s m e ∧ fin64 (double.write (.number s m e)) = true ∧ val64 (double.write (.number s m e)) = val32 b := by
 obtain ⟨s, m, e, h1, h2, h3, h4⟩ := fin_form h
 refine ⟨s, m, e, h1, ?_⟩
 by_cases hbig : e ≤ 104
 · obtain ⟨k, l, w1, w2, w3⟩ : ∃ k l, double.read (double.nearest s m e) = .number s k l ∧ double.leastPlace ≤ l ∧ mv2 k l = mv2 m e := by
     refine write_val double s (last := max (e + m.log2 - double.fractionBits) double.leastPlace) (by omega) (by decide) rfl ?_ fun hm => ?_
     · by_cases hm : m = 0
       · subst hm; exact Nat.dvd_zero _
       have := log2_lt h2 hm
       have e0 : (max (e + (m.log2 : Int) - double.fractionBits) double.leastPlace - e).toNat = 0 := by
         have e1 : double.fractionBits = 52 := rfl
         have e2 : double.leastPlace = -1074 := rfl
         rw [e1, e2]
         push_cast
         omega
       rw [e0]
       exact Nat.one_dvd _
     · have hlog := log2_lt h2 hm
       have e1 : double.fractionBits = 52 := rfl
       have e2 : double.leastPlace = -1074 := rfl
       have e0 : (max (e + (m.log2 : Int) - double.fractionBits) double.leastPlace - e).toNat = 0 := by
         rw [e1, e2]
         push_cast
         omega
       have hk := kept_lt (f := double) (mag := m) (place := e) rfl (by rw [e0]; exact Nat.one_dvd _)
       obtain ⟨last, hl⟩ : ∃ l, max (e + (m.log2 : Int) - double.fractionBits) double.leastPlace = l := ⟨_, rfl⟩
       rw [hl] at hk ⊢
       have hle : (last - double.leastPlace).toNat + 2 ≤ 2 ^ double.exponentBits - 1 := by
         have e3 : 2 ^ double.exponentBits - 1 = 2047 := by decide
         rw [e3]
         rw [e1, e2] at hl
         rw [e2]
         push_cast at hl
         omega
       unfold Format.infRung
       calc (last - double.leastPlace).toNat * double.binade + m * 2 ^ (e - last).toNat / 2 ^ (last - e).toNat < (last - double.leastPlace).toNat * double.binade + 2 * double.binade := by omega
         _ = ((last - double.leastPlace).toNat + 2) * double.binade := by rw [Nat.add_mul]
         _ ≤ _ := Nat.mul_le_mul_right _ hle
   have hw : double.write (.number s m e) = double.nearest s m e := rfl
   rw [hw]
   obtain ⟨q1, q2⟩ := fin64_of w1
   refine ⟨q1, ?_⟩
   rw [q2, h4]
   unfold sv2
   rw [w3]
 · exfalso
   rw [read32] at h1
   by_cases c1 : b % 2 ^ 31 < 2 ^ 23
   · rw [if_pos c1] at h1
     injection h1 with a1 a2 a3
     omega
   rw [if_neg c1] at h1
   by_cases c2 : b % 2 ^ 31 < 0x7f800000
   · rw [if_pos c2] at h1
     injection h1 with a1 a2 a3
     omega
   · rw [if_neg c2] at h1
     by_cases c3 : b % 2 ^ 31 = 0x7f800000
     · rw [if_pos c3] at h1
       cases h1
     · rw [if_neg c3] at h1
       cases h1
end
end Go.Ab
namespace Go.Proofs.YtndlfijfjglkdaaGreatDoor
open Go Go.Ab Go.Proofs Ieee
end Go.Proofs.YtndlfijfjglkdaaGreatDoor
namespace Go.Ab
open Go
theorem flat_n {b o : Nat} : flat ⟨b, o, none⟩ = true := rfl
theorem flat_z {b o : Nat} : flat ⟨b, o, some 0⟩ = true := rfl
section
variable {n : Nat} {H : Heap}
@[simp] theorem namesOk_tidy : namesOk n (tidy n H) = true := (namesOk_tidyL _).1
@[simp] theorem namesOk_tidy' {c : Nat} : namesOk (n + c) (tidy n H) = true := namesOk_mono (by omega) _ (namesOk_tidyL _).1
@[simp] theorem plainH_tidy : plainH (tidy n H) = true := (namesOk_tidyL _).2
@[simp] theorem takeNew_tidy : takeNew n (frzH (tidy n H)) = [] := takeNew_frz namesOk_tidy
theorem tidy_lt : ∀ k b, hget (tidy n H) k = some b → k < n := fun _ _ h => (hget_tidy.1 h).2.1
@[simp] theorem tidy_new : hget (tidy n H) n = none := (no_new tidy_lt).1
@[simp] theorem tidy_new' {c : Nat} : hget (tidy n H) (n + c) = none := (no_new tidy_lt).2 c
end
theorem AC.frame0 {P : Program} {f : FuncId} {args : List Value} {H : Heap} {n : Nat} {v : Value} {H1 : Heap} {n' : Nat} (h : AC P f args [] n v H1 n') (_ : ∀ k b, hget H1 k = some b → False) : AC P f args H n v H n' :=
 h.frame (fun k b hk => by cases hk) fun k b hk => .inr ⟨hk, rfl⟩
theorem nest_tidy {H : Heap} {n : Nat} (hold : ∀ k b, hget H k = some b → k < n ∧ scB (· < n) b) {v : Value} {ls : List (List Int)} (h : nestV H v = some ls) : nestV (tidy n H) v = some ls :=
 listV_tidy (decL_tidy decI_tidy) (fun k b hk => (hold k b hk).1) h
theorem int_tidy {H : Heap} {n : Nat} (hold : ∀ k b, hget H k = some b → k < n ∧ scB (· < n) b) {v : Value} {l : List Int} (h : intV H v = some l) : intV (tidy n H) v = some l :=
 listV_tidy decI_tidy (fun k b hk => (hold k b hk).1) h
theorem hdel_none : ∀ {H : Heap} {n : Nat}, hget H n = none → hdel H n = H
 | [], _, _ => rfl
 | (k, b) :: H, n, h => by
   rw [hget_cons] at h
   split at h
   · cases h
   · rename_i hne
     rw [hdel, beq_dec, decide_eq_false hne]
     rw [hdel_none h]
@[simp] theorem sne2 {n : Nat} : (n + 1 + 1 = n) = False := eq_false (by omega)
@[simp] theorem slt2 {n : Nat} : (n < n + 1 + 1) = True := eq_true (by omega)
@[simp] theorem sle2 {n : Nat} : (n ≤ n + 1 + 1) = True := eq_true (by omega)
@[simp] theorem snm2 {n : Nat} {H : Heap} : namesOk (n + 1 + 1) (tidy n H) = true := namesOk_mono (by omega) _ (namesOk_tidyL _).1
@[simp] theorem sne3 {n : Nat} : (n + 1 + 1 + 1 = n) = False := eq_false (by omega)
@[simp] theorem slt3 {n : Nat} : (n < n + 1 + 1 + 1) = True := eq_true (by omega)
@[simp] theorem sne4 {n : Nat} : (n + 1 + 1 + 1 + 1 = n) = False := eq_false (by omega)
@[simp] theorem slt4 {n : Nat} : (n < n + 1 + 1 + 1 + 1) = True := eq_true (by omega)
@[simp] theorem sle4 {n : Nat} : (n ≤ n + 1 + 1 + 1 + 1) = True := eq_true (by omega)
@[simp] theorem sne5 {n : Nat} : (n + 1 + 1 + 1 + 1 + 1 = n) = False := eq_false (by omega)
@[simp] theorem slt5 {n : Nat} : (n < n + 1 + 1 + 1 + 1 + 1) = True := eq_true (by omega)
@[simp] theorem sne6 {n : Nat} : (n + 1 + 1 + 1 + 1 + 1 + 1 = n) = False := eq_false (by omega)
@[simp] theorem slt6 {n : Nat} : (n < n + 1 + 1 + 1 + 1 + 1 + 1) = True := eq_true (by omega)
@[simp] theorem sle6 {n : Nat} : (n ≤ n + 1 + 1 + 1 + 1 + 1 + 1) = True := eq_true (by omega)
@[simp] theorem sne7 {n : Nat} : (n + 1 + 1 + 1 + 1 + 1 + 1 + 1 = n) = False := eq_false (by omega)
@[simp] theorem slt7 {n : Nat} : (n < n + 1 + 1 + 1 + 1 + 1 + 1 + 1) = True := eq_true (by omega)
@[simp] theorem sne8 {n : Nat} : (n + 1 + 1 + 1 + 1 + 1 + 1 + 1 + 1 = n) = False := eq_false (by omega)
@[simp] theorem slt8 {n : Nat} : (n < n + 1 + 1 + 1 + 1 + 1 + 1 + 1 + 1) = True := eq_true (by omega)
@[simp] theorem sne9 {n : Nat} : (n + 1 + 1 + 1 + 1 + 1 + 1 + 1 + 1 + 1 = n) = False := eq_false (by omega)
@[simp] theorem slt9 {n : Nat} : (n < n + 1 + 1 + 1 + 1 + 1 + 1 + 1 + 1 + 1) = True := eq_true (by omega)
theorem put_at {α : Type} {cs : List α} {i : Nat} {v : α} (h : i < cs.length) : cs.take i ++ [v] ++ cs.drop (i + 1) = cs.set i v := by
 rw [List.set_eq_take_append_cons_drop, if_pos h, List.append_assoc]
 rfl
theorem store_at {H : Heap} {b i : Nat} {t : TypeId} {cs : List Value} {v : Value} (h : hget H b = some (.cells cs t)) (hi : i < cs.length) : storeA H b i [v] = some (hset H b (.cells (cs.set i v) t)) := by
 unfold storeA
 rw [h]
 simp only [List.length_cons, List.length_nil, putL]
 rw [if_pos (by omega), put_at hi]
theorem hget_set {H : Heap} {b k : Nat} {x : Blk} : hget (hset H b x) k = if b = k then (hget H b).map fun _ => x else hget H k := by
 rw [hget_hset]
theorem Fresh.pair {n n2 : Nat} {H B H1 : Heap} {v u : Value} (h : Fresh n n2 H v B u H1) (e : Int) : Fresh n n2 H (.tuple #[v, Value.int .i64 e]) B (.tuple #[u, Value.int .i64 e]) H1 := by
 obtain ⟨ρ, h1, h2, h3⟩ := h
 exact ⟨ρ, h1, by rw [h2]; simp [ren], h3⟩
theorem handA_nil : ∀ H : Heap, handA [] [] H = []
 | [] => rfl
 | (k, b) :: H => by simp only [handA]; exact handA_nil H
theorem namesOk_iff {k : Nat} : ∀ {H : Heap}, namesOk k H = true ↔ ∀ x ∈ H, x.1 < k
 | [] => by simp [namesOk]
 | (i, b) :: H => by
   rw [namesOk]
   by_cases h : i < k
   · rw [(blt_iff _ _).2 h]
     simp [namesOk_iff (H := H), h]
   · have : Nat.blt i k = false := by rw [← Bool.not_eq_true, blt_iff]; exact h
     rw [this]
     simp [h]
theorem hget_in : ∀ {H : Heap} {k : Nat} {b : Blk}, hget H k = some b → ∃ x ∈ H, x.1 = k
 | [], _, _, h => by cases h
 | (j, c) :: H, k, b, h => by
   rw [hget_cons] at h
   split at h
   · rename_i e; exact ⟨(j, c), List.mem_cons_self .., e⟩
   · obtain ⟨x, hx, e⟩ := hget_in h
     exact ⟨x, List.mem_cons_of_mem _ hx, e⟩
theorem namesOk_none {H : Heap} {k : Nat} (h : namesOk k H = true) : ∀ j, k ≤ j → hget H j = none := fun j hj => by
 cases e : hget H j with
 | none => rfl
 | some b =>
   obtain ⟨x, hx, e⟩ := hget_in e
   have := namesOk_iff.1 h x hx
   omega
theorem hdel_mem : ∀ {H : Heap} {k : Nat} {x : Nat × Blk}, x ∈ hdel H k → x ∈ H
 | [], _, _, h => h
 | (i, b) :: H, k, x, h => by
   rw [hdel] at h
   split at h
   · exact List.mem_cons_of_mem _ (hdel_mem h)
   · rcases List.mem_cons.1 h with rfl | h
     · exact List.mem_cons_self ..
     · exact List.mem_cons_of_mem _ (hdel_mem h)
theorem hset_mem : ∀ {H : Heap} {k : Nat} {c : Blk} {x : Nat × Blk}, x ∈ hset H k c → ∃ y ∈ H, y.1 = x.1
 | [], _, _, _, h => by cases h
 | (i, b) :: H, k, c, x, h => by
   rw [hset] at h
   split at h
   · rcases List.mem_cons.1 h with rfl | h
     · exact ⟨(i, b), List.mem_cons_self .., rfl⟩
     · first
       | exact ⟨x, List.mem_cons_of_mem _ h, rfl⟩
       | (obtain ⟨y, hy, e⟩ := hset_mem h; exact ⟨y, List.mem_cons_of_mem _ hy, e⟩)
   · rcases List.mem_cons.1 h with rfl | h
     · exact ⟨(i, b), List.mem_cons_self .., rfl⟩
     · obtain ⟨y, hy, e⟩ := hset_mem h
       exact ⟨y, List.mem_cons_of_mem _ hy, e⟩
theorem namesOk_hdel {H : Heap} {k j : Nat} (h : namesOk k H = true) : namesOk k (hdel H j) = true := namesOk_iff.2 fun x hx => namesOk_iff.1 h x (hdel_mem hx)
theorem namesOk_hset {H : Heap} {k j : Nat} {c : Blk} (h : namesOk k H = true) : namesOk k (hset H j c) = true := namesOk_iff.2 fun x hx => by
 obtain ⟨y, hy, e⟩ := hset_mem hx
 have := namesOk_iff.1 h y hy
 omega
theorem namesOk_put {H : Heap} {k j : Nat} {c : Blk} (hj : j < k) (h : namesOk k H = true) : namesOk k ((j, c) :: H) = true := by
 rw [namesOk, (blt_iff _ _).2 hj]; exact h
theorem namesOk_app {n : Nat} {A B : Heap} (h1 : ∀ x ∈ A, x.1 < n) (h2 : namesOk n B = true) : namesOk n (A ++ B) = true := namesOk_iff.2 fun x hx => by
 rcases List.mem_append.1 hx with h | h
 · exact h1 x h
 · exact namesOk_iff.1 h2 x h
def names (c : Nat) : Nat → List Nat
 | 0 => []
 | k + 1 => c :: names (c + 1) k
structure RowK (α : Type) (dec : Dec α) where
 val : Nat → List α → Value
 blk : List α → Blk
 ren : ∀ (ρ : Nat → Nat) m l, Ab.ren ρ (val m l) = val (ρ m) l
 sc : ∀ (p : Nat → Prop) m l, p m → Ab.sc p (val m l)
 fix : ∀ (ρ : Nat → Nat) l, renB ρ (blk l) = blk l
 scB : ∀ (p : Nat → Prop) l, Ab.scB p (blk l)
 car : ∀ l, carried (blk l)
 own : ∀ l, (blk l).own = true
 see : ∀ H m l, hget H m = some (blk l) → l.length < 2147483648 → listV 1 dec H (val m l) = some l
structure En (α : Type) (dec : Dec α) where
 to : α → Value
 ren : ∀ (ρ : Nat → Nat) x, Ab.ren ρ (to x) = to x
 sc : ∀ (p : Nat → Prop) x, Ab.sc p (to x)
 one : ∀ H x, dec H [to x] = some x
theorem En.renL {α : Type} {dec : Dec α} (e : En α dec) (ρ : Nat → Nat) : ∀ l : List α, Ab.renL ρ (l.map e.to) = l.map e.to
 | [] => rfl
 | x :: l => by simp only [List.map_cons, Ab.renL, e.ren, e.renL ρ l]
theorem En.scL {α : Type} {dec : Dec α} (e : En α dec) (p : Nat → Prop) : ∀ l : List α, Ab.scL p (l.map e.to)
 | [] => trivial
 | x :: l => ⟨e.sc p x, e.scL p l⟩
theorem En.dec {α : Type} {dec : Dec α} (e : En α dec) {H : Heap} {l : List α} (i : Nat) (v : Value) (h : (l.map e.to)[i]? = some v) : dec H [v] = l[i]? := by
 rw [List.getElem?_map, Option.map_eq_some_iff] at h
 obtain ⟨x, hx, rfl⟩ := h
 rw [e.one, hx]
def kCp {α : Type} {dec : Dec α} (e : En α dec) (t : TypeId) : RowK α dec where
 val := fun m l => if l.length = 0 then .slice (some ⟨m, 0, none⟩) 0 0 else .slice (some ⟨m, 0, some 0⟩) l.length 0
 blk := fun l => if l.length = 0 then .cells [] t else .ext (l.map e.to) t 1
 ren := fun ρ m l => by split <;> rfl
 sc := fun p m l h => by split <;> exact h
 fix := fun ρ l => by
   split
   · simp [renB, Ab.renL]
   · simp only [renB, e.renL]
 scB := fun p l => by
   split
   · trivial
   · exact e.scL p l
 car := fun l => by split <;> trivial
 own := fun l => by split <;> rfl
 see := fun H m l h hl => by
   by_cases h0 : l.length = 0
   · obtain rfl := List.length_eq_zero_iff.1 h0
     rfl
   · rw [if_neg h0] at h ⊢
     exact listV_mk (cs := l.map e.to) rfl (by rw [cellsA_eq, h]; simp [cellsB]; exact List.take_of_length_le (by simp)) (by simp) hl fun i v hv => e.dec i v hv
def wroteK (P : Program) (fn : Func) (H' : Heap) (v : Value) (e : Ex) (st : St) : Prop :=
 (e = .normal ∨ e = .ret) ∧ st.marks = [] ∧ (∃ vs, resultsA P st.fr st.H fn.results.toList = some vs ∧ one vs = v) ∧ ∀ k b, hget H' k = some b → hget st.H k = some b
end Go.Ab
namespace Go.Soft
end Go.Soft
namespace Go.Proofs.YtndlfijfjglkdaaGreatDoor
section
open Go Go.Ab Go.Proofs
def cmpI (a b : Int) : Int := if a < b then -1 else if b < a then 1 else 0
theorem w242 {n : Nat} (a : Int) : AC Tryz.prog 242 [iv a] [] n (.bool false) [] n := by
 have hr := recT_ok (P := Tryz.prog) (l := []) (by simp)
 refine AC.pure Tryz.func242 rfl (by kernel_rfl) rfl [2, 0] rfl ?_
 refine E.seq (E.reg hr (by simp; rfl) ?_)
 refine E.seq (E.reg hr (by simp; rfl) ?_)
 refine E.ret ?_
 exact pureK.ret rfl rfl (by simp) (by simp)
def g242 (args : List Value) (H : Heap) (n : Nat) : R := match args with
 | [.int .i64 _] => some (.bool false, H, n)
 | _ => none
theorem ok242 : EntOk Tryz.prog (242, g242) := by
 intro args H n v H' n' h
 simp only [g242] at h
 split at h
 · injection h with h; injection h with e1 e2; injection e2 with e2 e3; subst e1 e2 e3
   exact AC.frame0 (w242 _) (by simp)
 · cases h
theorem w201 {n : Nat} (a b : Int) : AC Tryz.prog 201 [iv a, iv b] [] n (iv (cmpI a b)) [] n := by
 have hr := recT_ok (P := Tryz.prog) (l := [(242, g242)]) (by simp [ok242])
 refine AC.pure Tryz.func201 rfl (by kernel_rfl) rfl [4, 19, 16, 13, 12, 6, 11, 5, 1, 0] rfl ?_
 refine E.seq (E.reg hr (by simp; rfl) ?_)
 refine E.seq (E.reg hr (by simp [g242]; rfl) ?_)
 refine E.seq (E.reg hr (by simp [g242]; rfl) ?_)
 refine E.seq (E.seq (E.reg hr (by simp; rfl) ?_))
 refine E.cond (t := false) (by simp) (fun h => by cases h) (fun _ => ?_)
 refine E.skip (E.seq ?_)
 refine E.seq (E.reg hr (by simp; rfl) ?_)
 refine E.cond (t := false) (by simp) (fun h => by cases h) (fun _ => ?_)
 refine E.skip (E.seq ?_)
 refine E.seq (E.reg hr (by simp; rfl) ?_)
 by_cases h1 : a < b
 · refine E.cond (t := true) (by simp [h1]) (fun _ => ?_) (fun h => by cases h)
   refine E.seq (E.reg hr (by simp; rfl) ?_)
   refine E.ret ?_
   exact pureK.ret rfl rfl (by simp [cmpI, h1]) (by simp)
 · refine E.cond (t := false) (by simp [h1]) (fun h => by cases h) (fun _ => ?_)
   refine E.skip (E.seq ?_)
   refine E.seq (E.reg hr (by simp; rfl) ?_)
   by_cases h2 : b < a
   · refine E.cond (t := true) (by simp [h2]) (fun _ => ?_) (fun h => by cases h)
     refine E.seq (E.reg hr (by simp; rfl) ?_)
     refine E.ret ?_
     exact pureK.ret rfl rfl (by simp [cmpI, h1, h2]) (by simp)
   · refine E.cond (t := false) (by simp [h2]) (fun h => by cases h) (fun _ => ?_)
     refine E.skip (E.seq (E.reg hr (by simp; rfl) ?_))
     refine E.ret ?_
     exact pureK.ret rfl rfl (by simp [cmpI, h1, h2]) (by simp)
def g201 (args : List Value) (H : Heap) (n : Nat) : R := match args with
 | [.int .i64 a, .int .i64 b] => some (iv (cmpI a b), H, n)
 | _ => none
theorem ok201 : EntOk Tryz.prog (201, g201) := by
 intro args H n v H' n' h
 simp only [g201] at h
 split at h
 · injection h with h; injection h with e1 e2; injection e2 with e2 e3; subst e1 e2 e3
   exact AC.frame0 (w201 _ _) (by simp)
 · cases h
end
section
open Go Go.Ab Go.Proofs Go.Soft
theorem gcs_lenB : ∀ l : List Gun, (gcs l).length = l.length * 7
 | [] => rfl
 | g :: l => by
   have := gcs_lenB l
   unfold gcs at this ⊢
   rw [List.flatMap_cons, List.length_append, this, List.length_cons]
   show 7 + l.length * 7 = (l.length + 1) * 7
   omega
theorem gcs_appendB (a b : List Gun) : gcs (a ++ b) = gcs a ++ gcs b := by simp [gcs]
theorem gcs_atB {l : List Gun} {j : Nat} (hj : j < l.length) : ((gcs l).drop (j * 7)).take 7 = Gun.cells l[j] := by
 have e : l = l.take j ++ l[j] :: l.drop (j + 1) := by rw [← List.drop_eq_getElem_cons hj, List.take_append_drop]
 have hlen : (gcs (l.take j)).length = j * 7 := by rw [gcs_lenB, List.length_take]; congr 1; omega
 have h1 : gcs l = gcs (l.take j) ++ (Gun.cells l[j] ++ gcs (l.drop (j + 1))) := by
   conv => lhs; rw [e, gcs_appendB]
   rfl
 rw [h1, List.drop_left' hlen]
 exact List.take_left' rfl
theorem gcs_putB {l : List Gun} {j : Nat} (hj : j < l.length) (x : Gun) : (gcs l).take (j * 7) ++ Gun.cells x ++ (gcs l).drop (j * 7 + 7) = gcs (l.set j x) := by
 have e : l = l.take j ++ l[j] :: l.drop (j + 1) := by rw [← List.drop_eq_getElem_cons hj, List.take_append_drop]
 have hlen : (gcs (l.take j)).length = j * 7 := by rw [gcs_lenB, List.length_take]; congr 1; omega
 have h1 : gcs l = gcs (l.take j) ++ (Gun.cells l[j] ++ gcs (l.drop (j + 1))) := by
   conv => lhs; rw [e, gcs_appendB]
   rfl
 have h2 : gcs (l.set j x) = gcs (l.take j) ++ (Gun.cells x ++ gcs (l.drop (j + 1))) := by
   rw [List.set_eq_take_append_cons_drop, if_pos hj, gcs_appendB]
   rfl
 rw [h2, h1, List.take_left' hlen, List.append_assoc]
 congr 2
 rw [← List.drop_drop, List.drop_left' hlen]
 exact List.drop_left' rfl
theorem gcs_afB : ∀ l : List Gun, afL (gcs l) = true
 | [] => rfl
 | g :: l => by
   have := gcs_afB l
   unfold gcs at this ⊢
   simp [List.flatMap_cons, Gun.cells, afL, af, this]
section
variable {H : Heap} {m : Nat} {l : List Gun}
theorem row_put (h : hget H m = some (.ext (gcs l) 95 7)) {j : Nat} (hj : j < l.length) (x : Gun) : storeA H m (j * 7) (Gun.cells x) = some (hset H m (.ext (gcs (l.set j x)) 95 7)) := by
 have hl := gcs_lenB l
 have hx : (Gun.cells x).length = 7 := rfl
 have : j * 7 + 7 ≤ (gcs l).length := by omega
 unfold storeA
 rw [h]
 simp only [putL, hx]
 rw [if_pos this, gcs_putB hj]
end
theorem gcs_injB : ∀ {a b : List Gun}, gcs a = gcs b → a = b
 | [], [], _ => rfl
 | [], g :: b, h => by have := congrArg List.length h; rw [gcs_lenB, gcs_lenB] at this; simp at this
 | g :: a, [], h => by have := congrArg List.length h; rw [gcs_lenB, gcs_lenB] at this; simp at this
 | g :: a, g' :: b, h => by
   have e1 : gcs (g :: a) = Gun.cells g ++ gcs a := rfl
   have e2 : gcs (g' :: b) = Gun.cells g' ++ gcs b := rfl
   rw [e1, e2] at h
   obtain ⟨h1, h2⟩ := List.append_inj h rfl
   obtain ⟨s, v, x, y, f, l, u⟩ := g
   obtain ⟨s', v', x', y', f', l', u'⟩ := g'
   simp only [Gun.cells, List.cons.injEq, Value.string.injEq, Value.int.injEq, true_and, and_true] at h1
   obtain ⟨rfl, rfl, rfl, rfl, rfl, rfl, rfl⟩ := h1
   rw [gcs_injB h2]
def GunsAt (H : Heap) (v : Value) (l : List Gun) : Prop := ∃ a c, v = .slice (some a) l.length c ∧ flat a = true ∧ cellsA H a.block a.off (l.length * 7) = some (gcs l) ∧ 0 < l.length ∧ l.length < 2147483648
theorem GunsAt.mono {H H' : Heap} (hs : Sub H H') {v : Value} {l : List Gun} (h : GunsAt H v l) : GunsAt H' v l := by
 obtain ⟨a, c, e, h1, h2, h3⟩ := h
 exact ⟨a, c, e, h1, hs.cells h2, h3⟩
theorem GunsAt.tidy {H : Heap} {n : Nat} (hl : ∀ k b, hget H k = some b → k < n) {v : Value} {l : List Gun} (h : GunsAt H v l) : GunsAt (Ab.tidy n H) v l := by
 obtain ⟨a, c, e, h1, h2, h3⟩ := h
 exact ⟨a, c, e, h1, cellsA_tidy hl h2, h3⟩
theorem z95 : Tryz.prog.info? 95 = some Tryz.t95 := by kernel_rfl
theorem b95 : Tryz.t95.bytes ≤ 128 := by decide +kernel
theorem s95 : Tryz.t95.size = 7 := by kernel_rfl
theorem o95 : zeroOk Tryz.t95 = true := by kernel_rfl
theorem app_guns {H : Heap} {n m : Nat} {l : List Gun} {v : Value} (h : GunsAt H v l) (h0 : cellsA H n 0 0 = some []) : builtinA Tryz.prog .append #[30, 30] H m [.slice (some ⟨n, 0, none⟩) 0 0, v] = some (.slice (some ⟨m, 0, some 0⟩) l.length 0, (m, .ext (gcs l) 95 7) :: H, m + 1) := by
 obtain ⟨a, c, rfl, hf, hc, hp, hlt⟩ := h
 have h1 : ¬ l.length = 0 := by omega
 have h2 : ¬ l.length * 7 = 0 := by omega
 have hb := b95
 have hsm : smallA Tryz.t95.bytes l.length = true := by
   unfold smallA
   rw [Bool.and_eq_true]
   refine ⟨decide_eq_true ?_, decide_eq_true ?_⟩
   · have := Nat.mul_le_mul_left l.length hb
     omega
   · omega
 show appendA Tryz.prog #[30, 30] H m (.slice (some ⟨n, 0, none⟩) 0 0) (.slice (some a) l.length c) = _
 unfold appendA
 have hu : Tryz.prog.underlying 30 = some (.slice 95) := Tryz.underlying30
 simp only [List.getElem?_toArray, List.getElem?_cons_zero, List.getElem?_cons_succ, hu, z95, lenX, lenV, srcX, srcA, s95, if_neg h2, hf, if_true, hc, gcs_lenB, oneL_gcs, Nat.beq_refl, Bool.and_self]
 unfold appendTo
 simp only [Nat.zero_add, Nat.le_zero, h1, if_false, Nat.zero_mul, s95, h0, hsm, o95, Bool.and_self, if_true, List.nil_append]
 rfl
set_option maxRecDepth 20000 in
theorem w142 {H : Heap} {n : Nat} {v : Value} {l : List Gun} (hG : GunsAt H v l) : AC Tryz.prog 142 [v] H n (.slice (some ⟨n, 0, some 0⟩) l.length 0) ([(n, .ext (gcs l) 95 7)] ++ H) (n + 1) := by
 refine AC.given fun hold hsc hgn => AC.tidied (fun x hx => ?_) ?_
 · rw [List.mem_singleton] at hx; subst hx; exact Nat.le_refl _
 replace hG := GunsAt.tidy (fun k b h => (hold k b h).1) hG
 have hr := recT_ok (P := Tryz.prog) (l := []) (by simp)
 have hS : Sub (tidy n H) ((n, .cells [] 95) :: tidy n H) := Sub.cons (by simp) (Sub.refl _)
 have happ := app_guns (m := n + 1) (hG.mono hS) (n := n) (by rw [cellsA_eq, hget_cons, if_pos rfl]; rfl)
 obtain ⟨a, c, rfl, hf, hc, hp, hlt⟩ := hG
 refine AC.fresh Tryz.func142 rfl (by kernel_rfl) rfl [0, 2, 4] (by omega) (by show n < n + 1; omega) (fun ρ => rfl) ?_
 refine E.seq (E.reg hr (by simp; rfl) ?_)
 refine E.seq (E.seq (E.reg hr (by simp; rfl) ?_))
 refine E.cond (t := false) (by simp) (fun h => by cases h) (fun _ => ?_)
 refine E.skip (E.seq (E.reg hr (by simp [-builtinA, happ]; rfl) ?_))
 refine E.ret ?_
 refine outK.ret rfl rfl ⟨fun k => if k = n then n + 1 else k, fun k hk => if_neg (by omega), by simp [ren], fun k b hk => ?_, fun j b k c hj hk _ => ?_, hS.trans (Sub.cons (by simp) (Sub.refl _))⟩
 · rw [hget_cons] at hk
   split at hk
   · rename_i e; subst e; injection hk with hk; subst hk
     refine ⟨Nat.le_refl _, Nat.lt_succ_self _, by simp, ?_, scL_af _ _ (gcs_afB _), trivial, rfl⟩
     have hren : ∀ (ρ : Nat → Nat) (l : List Gun), renL ρ (gcs l) = gcs l := fun ρ l => by
       rw [renL_eq]
       conv => rhs; rw [← List.map_id (gcs l)]
       refine List.map_congr_left fun v hv => ?_
       unfold gcs at hv
       obtain ⟨g, _, hv⟩ := List.mem_flatMap.1 hv
       simp only [Gun.cells, List.mem_cons, List.not_mem_nil, or_false] at hv
       rcases hv with rfl | rfl | rfl | rfl | rfl | rfl | rfl <;> rfl
     simp [renB, hren]
   · cases hk
 · rw [hget_cons] at hj hk
   split at hj
   · split at hk
     · omega
     · cases hk
   · cases hj
end
end Go.Proofs.YtndlfijfjglkdaaGreatDoor
namespace Go.Ab
open Go
mutual
theorem ren_af (ρ : Nat → Nat) : ∀ v, af v = true → ren ρ v = v
 | .bool _, _ | .int _ _, _ | .float _ _, _ | .complex _ _ _, _ | .string _, _ | .nilFunc, _ | .nilIface, _ | .chan _, _ => by simp [ren]
 | .pointer none, _ | .slice none _ _, _ | .map none, _ => by simp [ren]
 | .pointer (some a), hs | .slice (some _) _ _, hs | .map (some r), hs | .func (.yield l) a b, hs => by simp [af] at hs
 | .func (.func f) a b, hs | .func (.method f) a b, hs | .func (.methodOf _ f) a b, hs | .func (.via _ _ f _) a b, hs => by
   simp only [af, Bool.and_eq_true] at hs
   simp only [ren]
   rw [renL_af ρ _ hs.1, renL_af ρ _ hs.2]
 | .iface t v, hs => by simp only [ren]; rw [ren_af ρ v (by simpa [af] using hs)]
 | .agg cs, hs => by simp only [ren]; rw [renL_af ρ _ (by simpa [af] using hs)]
 | .tuple cs, hs => by simp only [ren]; rw [renL_af ρ _ (by simpa [af] using hs)]
theorem renL_af (ρ : Nat → Nat) : ∀ vs, afL vs = true → renL ρ vs = vs
 | [], _ => rfl
 | v :: vs, hs => by
   simp only [afL, Bool.and_eq_true] at hs
   simp only [renL]; rw [ren_af ρ v hs.1, renL_af ρ vs hs.2]
end
end Go.Ab
namespace Go.Proofs.YtndlfijfjglkdaaGreatDoor
open Go Go.Ab Go.Proofs Go.Soft
theorem GunsAt.one {H : Heap} {v : Value} {l k : List Gun} (h : GunsAt H v l) (h' : GunsAt H v k) : l = k := by
 obtain ⟨a, c, rfl, _, h1, _⟩ := h
 obtain ⟨a', c', e, _, h1', _⟩ := h'
 injection e with e1 e2 e3
 injection e1 with e1
 subst e1
 rw [← e2, h1] at h1'
 injection h1' with h1'
 exact gcs_injB h1'
open Classical in
noncomputable def gunsOfB (H : Heap) (v : Value) : Option (List Gun) := if h : ∃ l, GunsAt H v l then some (Classical.choose h) else none
theorem gunsOf_atB {H : Heap} {v : Value} {l : List Gun} (h : GunsAt H v l) : gunsOfB H v = some l := by
 have hc : ∃ l, GunsAt H v l := ⟨l, h⟩
 unfold gunsOfB
 rw [dif_pos hc, (Classical.choose_spec hc).one h]
theorem gunsOf_specB {H : Heap} {v : Value} {l : List Gun} (h : gunsOfB H v = some l) : GunsAt H v l := by
 unfold gunsOfB at h
 split at h
 · rename_i hc
   injection h with h
   rw [← h]
   exact Classical.choose_spec hc
 · cases h
noncomputable def g142 (args : List Value) (H : Heap) (n : Nat) : R := match args with
 | [v] => (gunsOfB H v).map fun l => (.slice (some ⟨n, 0, some 0⟩) l.length 0, (n, .ext (gcs l) 95 7) :: H, n + 1)
 | _ => none
theorem ok142 : EntOk Tryz.prog (142, g142) := by
 intro args H n v H' n' h
 simp only [g142] at h
 split at h
 · rw [Option.map_eq_some_iff] at h
   obtain ⟨l, h1, h⟩ := h
   injection h with e1 e2; injection e2 with e2 e3; subst e1 e2 e3
   exact w142 (gunsOf_specB h1)
 · cases h
end Go.Proofs.YtndlfijfjglkdaaGreatDoor
