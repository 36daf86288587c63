/-
Contracts and plain reckonings behind the law GunDrops, part 4 of 8 (each under the conditions in its statement).
-/
import Derived.Test.YtndlfijfjglkdaaGreatDoorRc
import Derived.Test.YtndlfijfjglkdaaGreatDoorRb
import Derived.Test.YtndlfijfjglkdaaGreatDoorAf
import Derived.Test.YtndlfijfjglkdaaGreatDoorRa
namespace Go.Proofs.YtndlfijfjglkdaaGreatDoor
open Go Go.Ab Go.Proofs Go.Soft
def enS : En ByteArray decS where
 to := fun s => sv s
 ren := fun _ _ => rfl
 sc := fun _ _ => trivial
 one := fun _ _ => rfl
abbrev kS : RowK ByteArray decS := kCp enS 9
theorem strV_src {H : Heap} {v : Value} {l : List ByteArray} (h : Ab.strV H v = some l) (hne : l.length ≠ 0) : ∃ a c, v = .slice (some a) l.length c ∧ flat a = true ∧ cellsA H a.block a.off l.length = some (l.map enS.to) := by
 obtain ⟨oa, c, e, hlt, _, hrow⟩ := strV_form h
 obtain ⟨a, rfl, hf, _⟩ := hrow 0 (by omega)
 refine ⟨a, c, e, hf, ?_⟩
 subst e
 unfold Ab.strV listV at h
 simp only [if_pos hlt, if_neg hne, hf, if_true, Nat.mul_one] at h
 obtain ⟨cs, hc, hm⟩ := Option.bind_eq_some_iff.1 h
 rw [hc]
 have hl := mapO_get hm
 have hcl : cs.length = l.length := by
   have := hl.1
   rw [chunks_len] at this
   have := cellsA_cell hc (i := 0) (by omega)
   exact this.2
 congr 1
 apply List.ext_getElem?
 intro i
 by_cases hi : i < l.length
 · obtain ⟨a', e', _, hci⟩ := hrow i hi
   injection e' with e'
   subst e'
   have := (cellsA_cell hc (i := i) hi).1
   rw [← this, hci, List.getElem?_map, List.getElem?_eq_getElem hi]
   rfl
 · rw [List.getElem?_eq_none (by omega), List.getElem?_eq_none (by simp; omega)]
theorem oneL_svs : ∀ l : List ByteArray, oneL (l.map enS.to) = true
 | [] => rfl
 | x :: l => by
   have := oneL_svs l
   show oneL (sv x :: l.map enS.to) = true
   simp [oneL, this]
theorem app_words {H : Heap} {n m : Nat} {l : List ByteArray} {v : Value} (h : Ab.strV H v = some l) (hne : l.length ≠ 0) (h0 : cellsA H n 0 0 = some []) :
   builtinA Tryz.prog .append #[102, 102] H m [.slice (some ⟨n, 0, none⟩) 0 0, v] = some (.slice (some ⟨m, 0, some 0⟩) l.length 0, (m, .ext (l.map enS.to) 9 1) :: H, m + 1) := by
 have hlt : l.length < 2147483648 := by
   obtain ⟨_, _, _, hlt, _⟩ := strV_form h
   exact hlt
 obtain ⟨a, c, rfl, hf, hc⟩ := strV_src h hne
 have hsm : l.length * 16 ≤ 1099511627776 ∧ l.length ≤ 1099511627776 := by omega
 simp [-cellsA, -flat, hf, hc, hne, hsm, h0, oneL_svs]
set_option maxRecDepth 20000 in
theorem w94 {H : Heap} {n : Nat} {v : Value} {l : List ByteArray} (hl : Ab.strV H v = some l) : AC Tryz.prog 94 [v] H n (kS.val n l) ([(n, kS.blk l)] ++ H) (n + 1) := by
 refine AC.given fun hold hsc hgn => AC.tidied (fun x hx => ?_) ?_
 · rw [List.mem_singleton] at hx; subst hx; exact Nat.le_refl _
 replace hl : Ab.strV (tidy n H) v = some l := listV_tidy decS_tidy (fun k b h => (hold k b h).1) hl
 have hr := recT_ok (P := Tryz.prog) (l := []) (by simp)
 have hS : Sub (tidy n H) ((n, .cells [] 9) :: tidy n H) := Sub.cons (by simp) (Sub.refl _)
 have hl' := listV_mono decS_mono hS hl
 refine AC.fresh Tryz.func94 rfl (by kernel_rfl) rfl [0, 2] (by omega) (kS.sc _ _ _ (by omega)) (fun ρ => by rw [kS.ren]; simp only [kS, kCp]; split <;> rfl) ?_
 refine E.seq (E.reg hr (by simp; rfl) ?_)
 by_cases hne : l.length = 0
 · obtain rfl := List.length_eq_zero_iff.1 hne
   obtain ⟨oa, c, rfl, _, _, _⟩ := strV_form hl
   have hfin : Fresh n (n + 1) (tidy n H) (kS.val n []) [(n, kS.blk [])] (.slice (some ⟨n, 0, none⟩) 0 0) ((n, .cells [] 9) :: tidy n H) := by
     refine ⟨id, fun _ _ => rfl, rfl, fun k b hk => ?_, fun j b k c hj hk e => e, hS⟩
     rw [hget_cons] at hk
     split at hk
     · rename_i e; subst e; injection hk with hk; subst hk
       refine ⟨Nat.le_refl _, Nat.lt_succ_self _, Nat.le_refl _, ?_, kS.scB _ _, kS.car _, kS.own _⟩
       rw [kS.fix, id, hget_cons, if_pos rfl]
       rfl
     · cases hk
   cases oa with
   | none =>
     refine E.seq (E.reg hr (by simp; rfl) ?_)
     refine E.ret ?_
     exact outK.ret rfl rfl hfin
   | some a =>
     refine E.seq (E.reg hr (by simp; rfl) ?_)
     refine E.ret ?_
     exact outK.ret rfl rfl hfin
 · have hnn : ¬ l = [] := fun e => hne (by rw [e]; rfl)
   have happ := app_words (n := n) (m := n + 1) hl' hne (by rw [cellsA_eq, hget_cons, if_pos rfl]; rfl)
   refine E.seq (E.reg hr (by simp [-builtinA, happ]; rfl) ?_)
   refine E.ret ?_
   refine outK.ret rfl rfl ⟨fun k => if k = n then n + 1 else k, fun k hk => if_neg (by omega), ?_, fun k b hk => ?_, fun j b k c hj hk _ => ?_, hS.trans (Sub.cons (by simp) (Sub.refl _))⟩
   · rw [kS.ren]
     simp [kS, kCp, hnn]
   · rw [hget_cons] at hk
     split at hk
     · rename_i e; subst e; injection hk with hk; subst hk
       refine ⟨Nat.le_refl _, Nat.lt_succ_self _, by simp, ?_, kS.scB _ _, kS.car _, kS.own _⟩
       rw [kS.fix]
       simp [kS, kCp, hnn]
     · cases hk
   · rw [hget_cons] at hj hk
     split at hj
     · split at hk
       · omega
       · cases hk
     · cases hj
def g94 (args : List Value) (H : Heap) (n : Nat) : R := match args with
 | [v] => (Ab.strV H v).map fun l => (kS.val n l, (n, kS.blk l) :: H, n + 1)
 | _ => none
theorem ok94 : EntOk Tryz.prog (94, g94) := by
 intro args H n v H' n' h
 simp only [g94] at h
 split at h
 · rw [Option.map_eq_some_iff] at h
   obtain ⟨ls, h1, h⟩ := h
   injection h with e1 e2; injection e2 with e2 e3; subst e1 e2 e3
   exact w94 h1
 · cases h
end Go.Proofs.YtndlfijfjglkdaaGreatDoor
namespace Go.Ab
open Go
theorem AC.subV {P : Program} {f : FuncId} {args : List Value} {H : Heap} {n : Nat} {v : Value} {H1 : Heap} {n1 : Nat} {H2 : Heap} (h : AC P f args H n v H1 n1) (hv : sc (· < n) v)
   (hs : ∀ k b, hget H2 k = some b → hget H1 k = some b ∧ (hget H k = some b ∨ (k < n ∧ (∃ b0, hget H k = some b0) ∧ scB (fun _ => False) b))) : AC P f args H n v H2 n := by
 intro p φ w hB hsc
 have key : ∀ φ' w', Dn P p φ n (hget H) w v n1 (hget H1) φ' w' → den φ' v = den φ v ∧ Dn P p φ n (hget H) w v n (hget H2) φ w' := by
   intro φ' w' hd
   obtain ⟨hsm, hscv, hst⟩ := hd
   have hp : ∀ k b, hget H2 k = some b → p k ∧ scB p b := fun k b hk => by
     rcases (hs k b hk).2 with h | ⟨_, ⟨b0, h0⟩, h2⟩
     · exact hB.sm k b h
     · exact ⟨(hB.sm k b0 h0).1, scB_mono (fun _ h => h.elim) _ h2⟩
   have hagr : Agr p φ' φ := fun k hk => ⟨(hst.only k (.inl (hB.lt k hk))).1.symm, (hst.only k (.inl (hB.lt k hk))).2.symm⟩
   have hpv : sc p v := sc_mono (fun k hk => by
     rcases hk.1 with h | h
     · exact h
     · have := hk.2; omega) v (sc_and v hscv hv)
   refine ⟨(den_congr hagr v hpv).symm, fun k b hk => ⟨.inl (hp k b hk).1, scB_mono (fun _ h => .inl h) _ (hp k b hk).2⟩, sc_mono (fun _ h => .inl h) v hpv, Nat.le_refl _, fun _ _ => ⟨rfl, rfl⟩, ?_, fun k b hk ho => ?_, fun k b hk ho => ?_, hst.frm⟩
   · exact (hst.rel.sub fun k b hk => (hs k b hk).1).congr hp hagr hB.rel.glob
   · rcases hst.new k b (hs k b hk).1 ho with h | ⟨k0, b0, h1, h2, h3⟩
     · exact .inl (by rw [(hagr k (hp k b hk).1).1]; exact h)
     · exact .inr ⟨k0, b0, h1, h2, by rw [(hagr k (hp k b hk).1).1]; exact h3⟩
   · exact hst.inp k b (hs k b hk).1 ho
 rcases h p φ w hB hsc with ⟨h1, h2⟩ | ⟨φ', w', h1, h2⟩
 · refine .inl ⟨h1, CallsIn.mono h2 fun e w' hh => ?_⟩
   obtain ⟨φ', he, hd⟩ := hh
   obtain ⟨e1, e2⟩ := key φ' w' hd
   exact ⟨φ, by rw [he, e1], e2⟩
 · obtain ⟨e1, e2⟩ := key φ' w' h2
   exact .inr ⟨φ, w', by rw [h1, e1], e2⟩
theorem AC.wroteV {P : Program} {f : FuncId} {fn : Func} {c : Code} {args : List Value} {H H' : Heap} {n : Nat} {v : Value} (hf : P.funcs[f]? = some fn) (hb : fn.body = some c) (he : enterable P f = true) (hlen : Nat.ble args.length fn.ntmps = true) (vs : List Nat) (ha : af v = false) (hv : sc (· < n) v)
   (hw : ∀ k b, hget H' k = some b → k < n ∧ (hget H k = some b ∨ ((∃ b0, hget H k = some b0) ∧ scB (fun _ => False) b)))
   (h : E P n none c { fr := argsFr args 0, sz := fn.ntmps, H, n, marks := [], vs } (wroteK P fn H' v)) : AC P f args H n v H' n := by
 obtain ⟨e, st, hA, hen, hm, ⟨us, hus, hone⟩, hsub⟩ := h
 have hl : leaveF P fn args n st = some (v, st.H, st.n) := by
   unfold leaveF
   rw [hm]
   simp only [shutA, hus, hone, ha, Bool.false_and]
 refine (bodyAT_ok hf hb he (Nat.le_of_ble_eq_true hlen) hen (ATX.at hA) hl).subV hv fun k b hk => ⟨hsub k b hk, ?_⟩
 obtain ⟨h1, h2⟩ := hw k b hk
 rcases h2 with h2 | ⟨h2, h3⟩
 · exact .inl h2
 · exact .inr ⟨h1, h2, h3⟩
theorem plainH_hdel : ∀ {H : Heap} {k : Nat}, plainH H = true → plainH (hdel H k) = true
 | [], _, _ => rfl
 | (i, b) :: H, k, h => by
   simp only [plainH, Bool.and_eq_true] at h
   rw [hdel]
   split
   · exact plainH_hdel h.2
   · simp only [plainH, Bool.and_eq_true]
     exact ⟨h.1, plainH_hdel h.2⟩
theorem cellA_tidy {H : Heap} {n k o : Nat} (hl : ∀ k b, hget H k = some b → k < n) {v : Value} (h : cellA H k o = some v) : cellA (tidy n H) k o = some v := by
 rw [cellA_eq] at h ⊢
 cases hb : hget H k with
 | none => rw [hb] at h; cases h
 | some b =>
   rw [hb] at h
   have hp : plainB2 b = true := by
     cases b <;> first | rfl | cases h
   rw [hget_tidy.2 ⟨hb, hl k b hb, hp⟩]
   exact h
theorem list_all {cs : List Value} {o n : Nat} {f : Nat → Value} (h : ∀ i, i < n → cs[o + i]? = some (f i)) (hn : 0 < n) : o + n ≤ cs.length ∧ (cs.drop o).take n = (List.range n).map f := by
 have h1 := (List.getElem?_eq_some_iff.1 (h (n - 1) (by omega))).1
 refine ⟨by omega, ?_⟩
 apply List.ext_getElem?
 intro i
 by_cases hi : i < n
 · rw [List.getElem?_take, if_pos hi, List.getElem?_drop, h i hi, List.getElem?_map, List.getElem?_range hi]
   rfl
 · rw [List.getElem?_eq_none (by rw [List.length_take]; omega), List.getElem?_eq_none (by simp; omega)]
theorem cells_all {H : Heap} {k o n : Nat} {f : Nat → Value} (h : ∀ i, i < n → cellA H k (o + i) = some (f i)) (hn : 0 < n) : cellsA H k o n = some ((List.range n).map f) := by
 have h0 := h 0 hn
 rw [cellsA_eq]
 rw [cellA_eq] at h0
 cases hb : hget H k with
 | none => rw [hb] at h0; cases h0
 | some b =>
   have hg : ∀ i, i < n → cellB (o + i) b = some (f i) := fun i hi => by
     have := h i hi
     rw [cellA_eq, hb] at this
     exact this
   rw [Option.bind_some]
   cases b with
   | cells cs t =>
     obtain ⟨h1, h2⟩ := list_all (cs := cs) (o := o) hg hn
     simp only [cellsB, if_pos h1, h2]
   | ext cs t sz =>
     obtain ⟨h1, h2⟩ := list_all (cs := cs) (o := o) hg hn
     simp only [cellsB, if_pos h1, h2]
   | row cs sz =>
     obtain ⟨h1, h2⟩ := list_all (cs := cs) (o := o) hg hn
     simp only [cellsB, if_pos h1, h2]
   | inp o' cs =>
     have h3 : o' ≤ o := by
       have := hg 0 hn
       simp only [cellB] at this
       split at this
       · omega
       · cases this
     obtain ⟨h1, h2⟩ := list_all (cs := cs) (o := o - o') (f := f) (n := n) (fun i hi => by
       have := hg i hi
       simp only [cellB] at this
       rw [if_pos (by omega)] at this
       rwa [show o - o' + i = o + i - o' by omega]) hn
     have h4 : o' ≤ o ∧ o - o' + n ≤ cs.length := ⟨h3, h1⟩
     simp only [cellsB, if_pos h4, h2]
   | tab cs => cases (hg 0 hn)
   | map es cl => cases (hg 0 hn)
   | iter s p => cases (hg 0 hn)
   | miter m s se la => cases (hg 0 hn)
   | defd => cases (hg 0 hn)
   | loop => cases (hg 0 hn)
def WdsV (H : Heap) (v : Value) (l : List ByteArray) : Prop := ∃ oa c, v = .slice oa l.length c ∧ l.length < 2 ^ 63 ∧ (oa = none → c = 0) ∧ ∀ i (hi : i < l.length), ∃ a, oa = some a ∧ flat a = true ∧ cellA H a.block (a.off + i) = some (.string l[i])
theorem WdsV.mono {H H' : Heap} (hs : Sub H H') {v : Value} {l : List ByteArray} (h : WdsV H v l) : WdsV H' v l := by
 obtain ⟨oa, c, e, h1, h2, h3⟩ := h
 refine ⟨oa, c, e, h1, h2, fun i hi => ?_⟩
 obtain ⟨a, e1, e2, e3⟩ := h3 i hi
 exact ⟨a, e1, e2, hs.cell e3⟩
theorem WdsV.tidy {H : Heap} {n : Nat} (hl : ∀ k b, hget H k = some b → k < n) {v : Value} {l : List ByteArray} (h : WdsV H v l) : WdsV (Ab.tidy n H) v l := by
 obtain ⟨oa, c, e, h1, h2, h3⟩ := h
 refine ⟨oa, c, e, h1, h2, fun i hi => ?_⟩
 obtain ⟨a, e1, e2, e3⟩ := h3 i hi
 exact ⟨a, e1, e2, cellA_tidy hl e3⟩
theorem WdsV.one {H : Heap} {v : Value} {l k : List ByteArray} (h : WdsV H v l) (h' : WdsV H v k) : l = k := by
 obtain ⟨oa, c, rfl, _, _, h3⟩ := h
 obtain ⟨oa', c', e, _, _, h3'⟩ := h'
 injection e with e1 e2 e3
 subst e1
 apply List.ext_getElem e2
 intro i h1 h2
 obtain ⟨a, f1, _, f3⟩ := h3 i h1
 obtain ⟨a', g1, _, g3⟩ := h3' i h2
 rw [f1] at g1
 injection g1 with g1
 subst g1
 rw [f3] at g3
 injection g3 with g3
 injection g3
theorem WdsV.small {H : Heap} {v : Value} {l : List ByteArray} (h : WdsV H v l) (hl : l.length < 2147483648) : strV H v = some l := by
 obtain ⟨oa, c, rfl, _, h2, h3⟩ := h
 cases oa with
 | none =>
   have : l.length = 0 := by
     rcases Nat.eq_zero_or_pos l.length with h | h
     · exact h
     · obtain ⟨a, e, _⟩ := h3 0 h
       cases e
   rw [this, h2 rfl, List.length_eq_zero_iff.1 this]
   rfl
 | some a =>
   by_cases h0 : l.length = 0
   · rw [List.length_eq_zero_iff.1 h0]
     rfl
   · obtain ⟨a', e, hf, _⟩ := h3 0 (by omega)
     injection e with e
     subst e
     have hc : cellsA H a.block a.off l.length = some ((List.range l.length).map fun i => .string (l.getD i default)) := cells_all (fun i hi => by
       obtain ⟨a', e, _, e3⟩ := h3 i hi
       injection e with e
       subst e
       rw [e3, List.getD_eq_getElem?_getD, List.getElem?_eq_getElem hi]
       rfl) (by omega)
     refine listV_mk (cs := (List.range l.length).map fun i => .string (l.getD i default)) hf (by simpa using hc) (by simp) hl fun i v hv => ?_
     rw [List.getElem?_map] at hv
     by_cases hi : i < l.length
     · rw [List.getElem?_range hi] at hv
       injection hv with hv
       subst hv
       dsimp only
       rw [List.getD_eq_getElem?_getD, List.getElem?_eq_getElem hi]
       rfl
     · rw [List.getElem?_eq_none (by simp; omega)] at hv
       cases hv
def outS (o k : Nat) : Value := if k = 0 then .slice none 0 0 else .slice (some ⟨o, 0, some 0⟩) k 0
@[simp] theorem outS_nil {o : Nat} : outS o 0 = .slice none 0 0 := rfl
theorem outS_ne {o k : Nat} (h : k ≠ 0) : outS o k = .slice (some ⟨o, 0, some 0⟩) k 0 := if_neg h
def outSB (n t sz k : Nat) (cs : List Value) : Heap := if k = 0 then [] else [(n, .ext cs t sz)]
structure GL (L : Heap) (n t sz : Nat) (cs : List Value) (k : Nat) (Hx : Heap) (N o : Nat) : Prop where
 len : cs.length = k * sz
 out : k ≠ 0 → hget Hx o = some (.ext cs t sz) ∧ o < N
 sub : Sub L Hx
 nm : namesOk N Hx = true
 big : n ≤ N
 low : n ≤ o
 pl : plainH Hx = true
section
variable {L Hx : Heap} {n t sz k N o : Nat} {cs new : List Value}
theorem GL.start (hs : Sub L Hx) (hn : namesOk N Hx = true) (hb : n ≤ N) (hp : plainH Hx = true) : GL L n t sz [] 0 Hx N n :=
 ⟨by simp, fun h => absurd rfl h, hs, hn, hb, Nat.le_refl _, hp⟩
theorem GL.skip (hL : ∀ k b, hget L k = some b → k < n) (h : GL L n t sz cs k Hx N o) (b : Blk) (hp : plainB2 b = true) : GL L n t sz cs k ((N, b) :: Hx) (N + 1) o := by
 have hb := h.big
 refine ⟨h.len, fun hk => ?_, fun j b' hj => ?_, namesOk_put (by omega) (namesOk_mono (by omega) _ h.nm), by omega, h.low, by rw [plainH, hp, h.pl]; rfl⟩
 · obtain ⟨h1, h2⟩ := h.out hk
   rw [hget_cons, if_neg (by omega)]
   exact ⟨h1, by omega⟩
 · have := hL j b' hj
   rw [hget_cons, if_neg (by omega)]
   exact h.sub j b' hj
theorem GL.grow (hL : ∀ k b, hget L k = some b → k < n) (h : GL L n t sz cs k Hx N o) {cs' : List Value} {k' : Nat} (hl : cs'.length = k' * sz) : GL L n t sz cs' k' ((N, .ext cs' t sz) :: (if k = 0 then Hx else hdel Hx o)) (N + 1) N := by
 have hb := h.big
 have hlo := h.low
 have hg : ∀ j, j < n → hget (if k = 0 then Hx else hdel Hx o) j = hget Hx j := fun j hj => by
   split
   · rfl
   · rw [hget_hdel, if_neg (by omega)]
 have hn2 : namesOk N (if k = 0 then Hx else hdel Hx o) = true := by
   split
   · exact h.nm
   · exact namesOk_hdel h.nm
 have hp2 : plainH (if k = 0 then Hx else hdel Hx o) = true := by
   split
   · exact h.pl
   · exact plainH_hdel h.pl
 refine ⟨hl, fun _ => ⟨by rw [hget_cons, if_pos rfl], by omega⟩, fun j b hj => ?_, namesOk_put (by omega) (namesOk_mono (by omega) _ hn2), by omega, by omega, by simp [plainH, hp2]⟩
 have := hL j b hj
 rw [hget_cons, if_neg (by omega), hg j this]
 exact h.sub j b hj
theorem GL.app {P : Program} {st : TypeId} {i : TypeInfo} (hL : ∀ k b, hget L k = some b → k < n) (hu : P.underlying st = some (.slice t)) (hi : P.info? t = some i) (hsz : i.size = sz) (hz : zeroOk i = true) (hb : i.bytes ≤ 128) (h : GL L n t sz cs k Hx N o) (hk : k < 2147483647) (hnew : new.length = sz) (hs0 : 0 < sz) (hone : oneL new = true) (hpn : plainB2 (.cells new t) = true) :
   ∃ Hz, builtinA P .append #[st, st] ((N, .cells new t) :: Hx) (N + 1) [outS o k, .slice (some ⟨N, 0, none⟩) 1 1] = some (outS (N + 1) (k + 1), Hz, N + 1 + 1) ∧ GL L n t sz (cs ++ new) (k + 1) Hz (N + 1 + 1) (N + 1) := by
 have h2 := h.skip hL (.cells new t) hpn
 refine ⟨_, ?_, h2.grow hL (by rw [List.length_append, h.len, hnew, Nat.succ_mul])⟩
 have hc : cellsA ((N, .cells new t) :: Hx) N 0 (1 * sz) = some new := by
   rw [cellsA_eq, hget_cons, if_pos rfl]
   simp only [Option.bind_some, cellsB]
   rw [if_pos (by omega), List.drop_zero, List.take_of_length_le (by omega)]
 have hsm1 : smallA i.bytes 1 = true := by
   unfold smallA
   rw [Bool.and_eq_true]
   exact ⟨decide_eq_true (by omega), decide_eq_true (by omega)⟩
 have hsm : smallA i.bytes (k + 1) = true := by
   unfold smallA
   rw [Bool.and_eq_true]
   refine ⟨decide_eq_true ?_, decide_eq_true ?_⟩
   · have := Nat.mul_le_mul_left (k + 1) hb
     omega
   · omega
 have h1 : ¬ 1 * sz = 0 := by omega
 show appendA P #[st, st] _ _ _ _ = _
 unfold appendA
 have hnb : Nat.beq new.length (1 * sz) = true := by rw [hnew, Nat.one_mul, Nat.beq_refl]
 rw [outS_ne (Nat.succ_ne_zero k)]
 by_cases hk0 : k = 0
 · subst hk0
   simp only [outS_nil, List.getElem?_toArray, List.getElem?_cons_zero, List.getElem?_cons_succ, hu, hi, lenX, lenV, srcX, srcA, hsz, if_neg h1, flat_n, if_true, hc, hnb, hone, Bool.and_self]
   unfold appendTo
   have hcs : cs = [] := List.eq_nil_of_length_eq_zero (by rw [h.len, Nat.zero_mul])
   subst hcs
   simp only [and_self, if_true, Nat.one_ne_zero, if_false, hsm1, hz, Bool.and_self, hsz]
   rfl
 · obtain ⟨ho, _⟩ := h2.out hk0
   have hle : ¬ (k + 1) * sz ≤ cs.length := by rw [h.len, Nat.succ_mul]; omega
   have hle2 : k * sz ≤ cs.length := by rw [h.len]; omega
   have htk : cs.take (k * sz) = cs := List.take_of_length_le (by rw [h.len]; omega)
   rw [outS_ne hk0]
   simp only [List.getElem?_toArray, List.getElem?_cons_zero, List.getElem?_cons_succ, hu, hi, lenX, lenV, srcX, srcA, hsz, if_neg h1, flat_n, if_true, hc, hnb, hone, Bool.and_self]
   unfold appendTo
   simp only [ho, hsz, hle2, and_self, if_true, if_neg hle, hsm, hz, Bool.and_self, htk, if_neg hk0]
   rfl
theorem sc_outS {o k : Nat} {p : Nat → Prop} (h : p o) : sc p (outS o k) := by
 unfold outS
 split
 · trivial
 · exact h
theorem ren_outS {o m k : Nat} {ρ : Nat → Nat} (h : ρ o = m) : ren ρ (outS o k) = outS m k := by
 unfold outS
 split
 · rfl
 · simp [ren, h]
theorem GL.fresh {n0 : Nat} (h : GL L n t sz cs k Hx N o) (hn : n0 ≤ n) (haf : afL cs = true) (hren : ∀ ρ, renL ρ cs = cs) : Fresh n0 (n0 + 1) L (outS n0 k) (outSB n0 t sz k cs) (outS o k) Hx := by
 have hlo := h.low
 refine ⟨fun j => if j = n0 then o else j, fun j hj => if_neg (by omega), by rw [ren_outS (ρ := fun j => if j = n0 then o else j) (m := o) (by simp)], fun j b hj => ?_, fun j b j' c hj hj' _ => ?_, h.sub⟩
 · by_cases hk : k = 0
   · rw [outSB, if_pos hk] at hj; cases hj
   · rw [outSB, if_neg hk, hget_cons] at hj
     split at hj
     · rename_i e; subst e; injection hj with hj; subst hj
       refine ⟨Nat.le_refl _, Nat.lt_succ_self _, by simp; omega, ?_, scL_af _ _ haf, trivial, rfl⟩
       simp [renB, hren, (h.out hk).1]
     · cases hj
 · by_cases hk : k = 0
   · rw [outSB, if_pos hk] at hj; cases hj
   · rw [outSB, if_neg hk, hget_cons] at hj hj'
     split at hj
     · split at hj'
       · omega
       · cases hj'
     · cases hj
end
theorem AC.wider {P : Program} {f : FuncId} {args : List Value} {H : Heap} {n : Nat} {v : Value} (h : AC P f args H n v H n) (hr : v = Ab.ren id v) (hv : sc (· < n + 1) v) : AC P f args H n v H (n + 1) :=
 AC.given fun hold _ _ => h.ren id (fun _ _ => rfl) (by omega) hr hv (fun _ _ hk => .inl ⟨hk, hk⟩) fun j b k c hj hk h1 _ _ => absurd (hold j b h1).1 (by omega)
theorem AC.grown {P : Program} {f : FuncId} {fn : Func} {c : Code} {args : List Value} {H : Heap} {n t sz k : Nat} {cs : List Value} (hf : P.funcs[f]? = some fn) (hb : fn.body = some c) (he : enterable P f = true) (hlen : Nat.ble args.length fn.ntmps = true) (vs : List Nat)
   (h : E P n none c { fr := argsFr args 0, sz := fn.ntmps, H, n, marks := [], vs } (outK P fn (Fresh n (n + 1) H (outS n k) (outSB n t sz k cs)))) : AC P f args H n (outS n k) (outSB n t sz k cs ++ H) (n + 1) := by
 by_cases hk : k = 0
 · subst hk
   have h2 : AC P f args H n (.slice none 0 0) H n := AC.pure hf hb he hlen vs rfl (E.mono h fun e st hh => by
     obtain ⟨h1, h2, us, h3, ρ, _, h4, _, _, h5⟩ := hh
     exact ⟨h1, h2, ⟨us, h3, by rw [h4]; rfl⟩, h5⟩)
   exact h2.wider rfl trivial
 · exact AC.fresh hf hb he hlen vs (by omega) (sc_outS (by omega)) (fun ρ => by rw [outS_ne hk]; rfl) h
theorem AC.grownE {P : Program} {f : FuncId} {fn : Func} {c : Code} {args : List Value} {H : Heap} {n t sz k : Nat} {cs : List Value} {e : Int} (hf : P.funcs[f]? = some fn) (hb : fn.body = some c) (he : enterable P f = true) (hlen : Nat.ble args.length fn.ntmps = true) (vs : List Nat)
   (h : E P n none c { fr := argsFr args 0, sz := fn.ntmps, H, n, marks := [], vs } (outK P fn (Fresh n (n + 1) H (.tuple #[outS n k, .int .i64 e]) (outSB n t sz k cs)))) : AC P f args H n (.tuple #[outS n k, .int .i64 e]) (outSB n t sz k cs ++ H) (n + 1) := by
 by_cases hk : k = 0
 · subst hk
   have h2 : AC P f args H n (.tuple #[.slice none 0 0, .int .i64 e]) H n := AC.pure hf hb he hlen vs rfl (E.mono h fun e st hh => by
     obtain ⟨h1, h2, us, h3, ρ, _, h4, _, _, h5⟩ := hh
     exact ⟨h1, h2, ⟨us, h3, by rw [h4]; rfl⟩, h5⟩)
   exact h2.wider rfl ⟨trivial, trivial, trivial⟩
 · exact AC.fresh hf hb he hlen vs (by omega) ⟨sc_outS (by omega), trivial, trivial⟩ (fun ρ => by rw [outS_ne hk]; rfl) h
theorem fresh_none {n t sz : Nat} {H H1 : Heap} {cs : List Value} (hs : Sub H H1) : Fresh n (n + 1) H (outS n 0) (outSB n t sz 0 cs) (.slice none 0 0) H1 :=
 ⟨id, fun _ _ => rfl, rfl, fun k b hk => (by cases hk), fun j b k c hj _ _ => (by cases hj), hs⟩
theorem outSB_ge {n t sz k : Nat} {cs : List Value} : ∀ x ∈ outSB n t sz k cs, n ≤ x.1 := fun x hx => by
 unfold outSB at hx
 split at hx
 · cases hx
 · rw [List.mem_singleton] at hx; subst hx; exact Nat.le_refl _
theorem Fresh.lower {n n2 : Nat} {H H' B H1 : Heap} {v u : Value} (h : Fresh n n2 H v B u H1) (hs : Sub H' H) : Fresh n n2 H' v B u H1 := by
 obtain ⟨ρ, h1, h2, h3, h4, h5⟩ := h
 exact ⟨ρ, h1, h2, h3, h4, fun k b hk => h5 k b (hs k b hk)⟩
theorem fresh_sb {n m t sz k : Nat} {cs : List Value} {H Z : Heap} (haf : afL cs = true) (hren : ∀ ρ, renL ρ cs = cs) (hm : n ≤ m) (hs : Sub H Z) (hZ : hget H m = none) : Fresh n (n + 1) H (outS n k) (outSB n t sz k cs) (outS m k) (outSB m t sz k cs ++ Z) := by
 by_cases hk : k = 0
 · subst hk
   exact fresh_none hs
 · have e : outSB m t sz k cs ++ Z = (m, .ext cs t sz) :: Z := by rw [outSB, if_neg hk]; rfl
   rw [e]
   refine ⟨fun j => if j = n then m else j, fun j hj => if_neg (by omega), by rw [ren_outS (ρ := fun j => if j = n then m else j) (m := m) (by simp)], fun j b hj => ?_, fun j b j' c hj hj' _ => ?_, fun j b hj => ?_⟩
   · rw [outSB, if_neg hk, hget_cons] at hj
     split at hj
     · rename_i e; subst e; injection hj with hj; subst hj
       refine ⟨Nat.le_refl _, Nat.lt_succ_self _, by simpa using hm, ?_, scL_af _ _ haf, trivial, rfl⟩
       simp [renB, hren]
     · cases hj
   · rw [outSB, if_neg hk, hget_cons] at hj hj'
     split at hj
     · split at hj'
       · omega
       · cases hj'
     · cases hj
   · rw [hget_cons, if_neg fun e => by rw [e] at hZ; rw [hZ] at hj; cases hj]
     exact hs j b hj
theorem flat_at {α : Type} {c : α → List Value} {sz : Nat} (hc : ∀ x, (c x).length = sz) : ∀ (l : List α) (i : Nat) (h : i < l.length), ((l.flatMap c).drop (i * sz)).take sz = c l[i]
 | x :: l, 0, _ => by
   simp only [Nat.zero_mul, List.drop_zero, List.flatMap_cons, List.getElem_cons_zero]
   exact List.take_left' (hc x)
 | x :: l, i + 1, h => by
   rw [Nat.succ_mul, Nat.add_comm, ← List.drop_drop, List.flatMap_cons, List.drop_left' (hc x)]
   exact flat_at hc l i (by simpa using h)
theorem flat_len {α : Type} {c : α → List Value} {sz : Nat} (hc : ∀ x, (c x).length = sz) : ∀ l : List α, (l.flatMap c).length = l.length * sz
 | [] => by simp
 | x :: l => by
   rw [List.flatMap_cons, List.length_append, hc, flat_len hc l, List.length_cons, Nat.succ_mul, Nat.add_comm]
theorem listV_flat {α : Type} {c : α → List Value} {sz : Nat} {dec : Dec α} (hc : ∀ x, (c x).length = sz) {H : Heap} (hd : ∀ x, dec H (c x) = some x) {a : Addr} {cap : Nat} {l : List α} (hf : flat a = true) (hcs : cellsA H a.block a.off (l.length * sz) = some (l.flatMap c)) (hlt : l.length < 2147483648) : listV sz dec H (.slice (some a) l.length cap) = some l := by
 show (if l.length < 2147483648 then _ else _) = _
 rw [if_pos hlt]
 by_cases h0 : l.length = 0
 · rw [if_pos h0, List.length_eq_zero_iff.1 h0]
 · rw [if_neg h0, if_pos hf, hcs]
   refine mapO_of (chunks_len _ _ _) fun i x hx => ?_
   by_cases hi : i < l.length
   · rw [chunks_get _ _ _ _ hi] at hx
     injection hx with hx
     rw [← hx, flat_at hc l i hi, hd, List.getElem?_eq_getElem hi]
   · rw [List.getElem?_eq_none (by rw [chunks_len]; omega)] at hx
     cases hx
theorem GL.list {α : Type} {c : α → List Value} {sz t n N o : Nat} {L Hx : Heap} {dec : Dec α} {l : List α} (h : GL L n t sz (l.flatMap c) l.length Hx N o) (hc : ∀ x, (c x).length = sz) (hd : ∀ H x, dec H (c x) = some x) (hlt : l.length < 2147483648) : listV sz dec Hx (outS o l.length) = some l := by
 by_cases h0 : l.length = 0
 · rw [List.length_eq_zero_iff.1 h0]; rfl
 · rw [outS_ne h0]
   refine listV_flat hc (hd _) rfl ?_ hlt
   rw [cellsA_eq, (h.out h0).1]
   simp only [Option.bind_some, cellsB]
   rw [if_pos (by rw [flat_len hc]; omega), List.drop_zero, List.take_of_length_le (by rw [flat_len hc]; omega)]
end Go.Ab
namespace Go.Proofs.YtndlfijfjglkdaaGreatDoor
open Go Go.Ab Go.Proofs Ieee
theorem ivs_ren (ρ : Nat → Nat) : ∀ l : List Int, renL ρ (l.map iv) = l.map iv
 | [] => rfl
 | x :: l => by simp only [List.map_cons, renL, ivs_ren ρ l]; rfl
theorem sz27i : Tryz.t27.size = 1 := by kernel_rfl
theorem by27 : Tryz.t27.bytes ≤ 128 := by decide +kernel
theorem zo27 : zeroOk Tryz.t27 = true := by kernel_rfl
theorem sz3i : Tryz.t3.size = 1 := by kernel_rfl
theorem by3 : Tryz.t3.bytes ≤ 128 := by decide +kernel
theorem zo3 : zeroOk Tryz.t3 = true := by kernel_rfl
end Go.Proofs.YtndlfijfjglkdaaGreatDoor
namespace Go.Ab
open Go
end Go.Ab
namespace Go.Proofs.YtndlfijfjglkdaaGreatDoor
open Go Go.Ab Go.Proofs Go.Soft
def shortW (l : List ByteArray) : Bool := l.all (fun s => decide (s.size ≤ 40)) && decide (l.length ≤ 9)
theorem w96 {H : Heap} {n : Nat} {v : Value} {l : List ByteArray} (hW : WdsV H v l) : AC Tryz.prog 96 [v] H n (.bool (shortW l)) H n := by
 refine AC.given fun hold _ _ => AC.tidied (B := []) (by simp) ?_
 replace hW := hW.tidy fun k b h => (hold k b h).1
 have hr := recT_ok (P := Tryz.prog) (l := []) (by simp)
 obtain ⟨oa, c, rfl, hlt, _, hrow⟩ := hW
 refine AC.pure Tryz.func96 rfl (by kernel_rfl) rfl [0, 3] rfl ?_
 refine E.seq (E.reg hr (by simp; rfl) ?_)
 refine E.seq (E.seq (E.reg hr (by simp; rfl) ?_))
 refine E.block (E.loop ?_)
 refine EL.ind (fun i : Nat => { fr := [(0, .slice oa l.length c), (3, iv i)], sz := 19, H := tidy n H, n := n, marks := [], vs := [0, 3] }) (fun i => l.length - i) (fun i => i ≤ l.length ∧ ∀ j (h : j < l.length), j < i → l[j].size ≤ 40) 0 (.keep rfl rfl rfl (by simp) (Sub.refl _)) ⟨Nat.zero_le _, fun j _ hj => by omega⟩ (fun _ => rfl) ?_
 rintro i ⟨hi, hg⟩
 have hw : i < l.length → IntKind.i64.wrap ((i : Int) + 1) = (i : Int) + 1 := fun _ => W_in (by omega) (by omega)
 refine E.seq (E.seq (E.reg hr (by simp; rfl) ?_))
 by_cases hil : i < l.length
 · obtain ⟨a, rfl, hf, hc⟩ := hrow i hil
   refine E.cond (t := true) (by simp [hil]) (fun _ => ?_) (fun h => by cases h)
   refine E.skip (E.seq ?_)
   refine E.block (E.seq (E.reg hr (by simp [-cellA, -flat, hil, hf, hc]; rfl) ?_))
   by_cases h4 : l[i].size ≤ 40
   · have h4' : ¬ (40 : Int) < l[i].size := by omega
     refine E.cond (t := false) (by simp [h4']) (fun h => by cases h) (fun _ => ?_)
     refine E.skip (E.reg hr (by simp [hw hil]; rfl) ?_)
     exact ⟨i + 1, .keep rfl rfl rfl (by simp) (Sub.refl _), ⟨hil, fun j h hj => if e : j = i then by subst e; exact h4 else hg j h (by omega)⟩, by dsimp only; omega⟩
   · have h4' : (40 : Int) < l[i].size := by omega
     have hs : shortW l = false := by
       unfold shortW
       rw [show l.all (fun s => decide (s.size ≤ 40)) = false from List.all_eq_false.2 ⟨l[i], List.getElem_mem hil, by simpa using h4⟩, Bool.false_and]
     refine E.cond (t := true) (by simp [h4']) (fun _ => ?_) (fun h => by cases h)
     refine E.seq (E.reg hr (by simp; rfl) ?_)
     refine E.ret ?_
     exact pureK.ret rfl rfl (by simp [hs]) (Sub.refl _)
 · have hs : shortW l = decide (l.length ≤ 9) := by
     unfold shortW
     rw [show l.all (fun s => decide (s.size ≤ 40)) = true from List.all_eq_true.2 fun x hx => by
       obtain ⟨j, hj, rfl⟩ := List.getElem_of_mem hx
       simpa using hg j hj (by omega), Bool.true_and]
   refine E.cond (t := false) (by simp [hil]) (fun h => by cases h) (fun _ => ?_)
   refine E.exit ?_
   refine E.seq (E.reg hr (by simp; rfl) ?_)
   refine E.ret ?_
   exact pureK.ret rfl rfl (by simp [hs]; omega) (Sub.refl _)
open Classical in
noncomputable def g96 (args : List Value) (H : Heap) (n : Nat) : R := match args with
 | [v] => if h : ∃ l, WdsV H v l then some (.bool (shortW (Classical.choose h)), H, n) else none
 | _ => none
theorem g96_at {H : Heap} {n : Nat} {v : Value} {l : List ByteArray} (h : WdsV H v l) : g96 [v] H n = some (.bool (shortW l), H, n) := by
 have hx : ∃ l, WdsV H v l := ⟨l, h⟩
 simp only [g96]
 rw [dif_pos hx, (Classical.choose_spec hx).one h]
theorem ok96 : EntOk Tryz.prog (96, g96) := by
 intro args H n v H' n' h
 simp only [g96] at h
 split at h
 · split at h
   · rename_i hx
     injection h with h; injection h with e1 e2; injection e2 with e2 e3; subst e1 e2 e3
     exact w96 (Classical.choose_spec hx)
   · cases h
 · cases h
theorem GunsAt.at {H : Heap} {a : Addr} {c : Nat} {l : List Gun} (h : GunsAt H (.slice (some a) l.length c) l) : gunsAt H a l.length = some l := by
 obtain ⟨a', c', e, hf, hc, h0, hlt⟩ := h
 injection e with e1 e2 e3
 injection e1 with e1
 subst e1
 have hb : Nat.blt l.length 9223372036854775808 = true := (blt_iff _ _).2 (by omega)
 unfold gunsAt
 rw [hf, hb]
 simp only [Bool.and_self, if_true]
 rw [hc]
 exact gunsOf_gcs l
def zeroG : Gun := ⟨⟨#[]⟩, 0, 0, 0, 0, 0, 0⟩
def RowG (H : Heap) (m : Nat) (Z : List Gun) : Prop := hget H m = some (.ext (gcs Z) 95 7) ∨ hget H m = some (.row (gcs Z) 7)
theorem used_row {H : Heap} {m : Nat} {Z : List Gun} (h : RowG H m Z) (k : Nat) (s : Nat) : usedA H 7 (some ⟨m, k, some 0⟩) s = Z.length - s := by
 rcases h with h | h <;> simp [usedA, h]
section
variable {fr : Fr} {H : Heap} {n m L : Nat} {x y z u : Operand} {Z : List Gun}
theorem slice_hi {i : Nat} (hg : RowG H m Z) (hi : i ≤ Z.length) (h0 : 0 < Z.length) (hx : evO Tryz.prog fr x = some (.slice (some ⟨m, 0, some 0⟩) L 0)) (hy : evO Tryz.prog fr y = some (iv i)) :
   opSlice Tryz.prog 30 x none (some y) none fr H n = some (.slice (some ⟨m, 0, some 0⟩) i 0, H, n) := by
 simp only [opSlice, hx, evI, hy, Tryz.underlying30, show szA Tryz.prog 95 = some 7 from by simp, used_row hg]
 simp [sliceA, boundA, hi, h0]
end
def Dis (l : List Gun) : Prop := ∀ i j (hi : i < l.length) (hj : j < l.length), l[i].name = l[j].name → i = j
theorem strE_zero {l : List Gun} (h : strE l = 0) : l ≠ [] ∧ l.length ≤ 8 ∧ Dis l ∧ ∀ g ∈ l, 1 ≤ g.v ∧ g.v ≤ 64 := by
 unfold strE at h
 split at h
 · cases h
 · rename_i h0
   split at h
   · cases h
   · rename_i h8
     have hz : ∀ i, i < l.length → gunChk l i = 0 := fun i hi => (firstV_zero _).1 h _ (List.mem_map.2 ⟨i, List.mem_range.2 hi, rfl⟩)
     have hg : ∀ i (hi : i < l.length), nameE l[i].name = 0 ∧ (if 0 ≤ atV l l[i].name i then (9 : Int) else 0) = 0 ∧ l[i].err = 0 := fun i hi => by
       have := hz i hi
       rw [gunChk_at hi] at this
       have h1 := (firstV_zero _).1 this
       exact ⟨h1 _ (by simp), h1 _ (by simp), h1 _ (by simp)⟩
     have hlt : ∀ i j (hi : i < l.length) (hj : j < l.length), i < j → l[i].name ≠ l[j].name := fun i j hi hj hij e => by
       have h2 := (hg j hj).2.1
       have hex : ∃ k, ∃ hk : k < j, (l[k]'(by omega)).name = l[j].name := ⟨i, hij, e⟩
       have h3 : 0 ≤ atV l l[j].name j := by
         apply Classical.byContradiction
         intro hn
         unfold atV at hn
         split at hn
         · omega
         · rename_i hf
           rw [List.findIdx?_eq_none_iff] at hf
           have hm : l[i] ∈ l.take j := by
             rw [List.mem_take_iff_getElem]
             exact ⟨i, by omega, rfl⟩
           have := hf _ hm
           simp [e] at this
       rw [if_pos h3] at h2
       cases h2
     refine ⟨fun e => h0 (by rw [e]; rfl), by omega, fun i j hi hj e => ?_, fun g hgm => ?_⟩
     · rcases Nat.lt_trichotomy i j with h | h | h
       · exact absurd e (hlt i j hi hj h)
       · exact h
       · exact absurd e.symm (hlt j i hj hi h)
     · obtain ⟨i, hi, rfl⟩ := List.getElem_of_mem hgm
       have h1 := (hg i hi).2.2
       unfold Gun.err at h1
       have h2 := (firstV_zero _).1 h1 (withinV l[i].v 1 64) (by simp)
       unfold withinV at h2
       split at h2
       · cases h2
       · omega
def OwnG (H : Heap) (v : Value) (l : List Gun) : Prop := ∃ b, v = .slice (some ⟨b, 0, some 0⟩) l.length 0 ∧ RowG H b l ∧ 0 < l.length ∧ l.length < 2147483648
theorem OwnG.mono {H H' : Heap} (hs : Sub H H') {v : Value} {l : List Gun} (h : OwnG H v l) : OwnG H' v l := by
 obtain ⟨b, e, h1, h2⟩ := h
 refine ⟨b, e, ?_, h2⟩
 rcases h1 with h1 | h1
 · exact .inl (hs _ _ h1)
 · exact .inr (hs _ _ h1)
theorem OwnG.tidy {H : Heap} {n : Nat} (hl : ∀ k b, hget H k = some b → k < n) {v : Value} {l : List Gun} (h : OwnG H v l) : OwnG (Ab.tidy n H) v l := by
 obtain ⟨b, e, h1, h2⟩ := h
 refine ⟨b, e, ?_, h2⟩
 rcases h1 with h1 | h1
 · exact .inl (hget_tidy.2 ⟨h1, hl _ _ h1, rfl⟩)
 · exact .inr (hget_tidy.2 ⟨h1, hl _ _ h1, rfl⟩)
theorem OwnG.frz {H : Heap} {v : Value} {l : List Gun} (h : OwnG H v l) : OwnG (frzH H) v l := by
 obtain ⟨b, e, h1, h2⟩ := h
 refine ⟨b, e, .inr ?_, h2⟩
 rw [hget_frz]
 rcases h1 with h1 | h1 <;> rw [h1] <;> rfl
theorem OwnG.guns {H : Heap} {v : Value} {l : List Gun} (h : OwnG H v l) : GunsAt H v l := by
 obtain ⟨b, e, h1, h2, h3⟩ := h
 refine ⟨_, 0, e, rfl, ?_, h2, h3⟩
 have hg := gcs_length l
 rcases h1 with h1 | h1 <;> rw [cellsA_eq, h1] <;> simp [cellsB] <;> exact List.take_of_length_le (by omega)
theorem OwnG.check {H : Heap} {v : Value} {l : List Gun} (h : OwnG H v l) (n : Nat) : g31 [.agg ⟨[v]⟩] H n = some (iv (strE l), H, n) := by
 obtain ⟨b, rfl, h1, h2, h3⟩ := h
 have hr : rowOf H b = some (gcs l, 7) := by
   unfold rowOf
   rcases h1 with h1 | h1 <;> rw [h1]
 have hlt : l.length < 2 ^ 63 := by omega
 simp only [g31, hr, gunsOf_gcs]
 rw [if_pos ⟨trivial, hlt⟩]
end Go.Proofs.YtndlfijfjglkdaaGreatDoor
namespace Go.Soft
end Go.Soft
namespace Go.Proofs.YtndlfijfjglkdaaGreatDoor
section
open Go Go.Ab Go.Proofs Go.Soft
theorem strAt_mono {H H' : Heap} (hs : Sub H H') {x : Value} {l : List Gun} (h : strAt H x = some l) : strAt H' x = some l := by
 unfold strAt at h ⊢
 split at h
 · exact h
 · unfold gunsAt at h ⊢
   split at h
   · rename_i hc
     rw [if_pos hc]
     obtain ⟨cs, h1, h2⟩ := Option.bind_eq_some_iff.1 h
     rw [hs.cells h1]
     exact h2
   · cases h
 · cases h
theorem strAt_tidy {H : Heap} {n : Nat} (hl : ∀ k b, hget H k = some b → k < n) {x : Value} {l : List Gun} (h : strAt H x = some l) : strAt (Ab.tidy n H) x = some l := by
 unfold strAt at h ⊢
 split at h
 · exact h
 · unfold gunsAt at h ⊢
   split at h
   · rename_i hc
     rw [if_pos hc]
     obtain ⟨cs, h1, h2⟩ := Option.bind_eq_some_iff.1 h
     rw [cellsA_tidy hl h1]
     exact h2
   · cases h
 · cases h
theorem strAt_guns {H : Heap} {v : Value} {l : List Gun} (h : strAt H (.agg ⟨[v]⟩) = some l) (hne : l ≠ []) (hlt : l.length < 2147483648) : GunsAt H v l := by
 unfold strAt at h
 split at h
 · injection h with h
   exact absurd h.symm hne
 · rename_i a len c e
   simp only [Value.agg.injEq, Array.mk.injEq, List.cons.injEq, and_true] at e
   subst e
   obtain ⟨hf, hc, hlen, _⟩ := gunsAt_ok h
   subst hlen
   exact ⟨a, c, rfl, hf, hc, List.length_pos_iff.2 hne, hlt⟩
 · cases h
theorem strAt_nil {H : Heap} {n : Nat} {v : Value} (h : strAt H (.agg ⟨[v]⟩) = some []) : g21 [.agg ⟨[v]⟩] H n = some (nilV, H, n) := by
 simp only [g21, h, if_true]
theorem strAt_own {H : Heap} {n : Nat} {v : Value} {l : List Gun} (h : strAt H (.agg ⟨[v]⟩) = some l) (hne : l ≠ []) (hl : l.length ≤ 4096) : g21 [.agg ⟨[v]⟩] H n = some (.agg ⟨[.slice (some ⟨n, 0, some 0⟩) l.length 0]⟩, (n, .ext (gcs l) 95 7) :: H, n + 1) := by
 simp only [g21, h]
 rw [if_neg hne, if_pos hl]
theorem own_row {H : Heap} {n : Nat} {l : List Gun} (hne : l ≠ []) (hl : l.length ≤ 4096) : OwnG ((n, .ext (gcs l) 95 7) :: H) (.slice (some ⟨n, 0, some 0⟩) l.length 0) l :=
 ⟨n, rfl, .inl (by rw [hget_cons, if_pos rfl]), List.length_pos_iff.2 hne, by omega⟩
end
section
open Go Go.Ab Go.Proofs Ieee
theorem cellA_read {L : List Nat} {H : Heap} {a o : Nat} : cellA (readA L H) a o = if memN L a = true then cellA H a o else none := by
 rw [cellA_eq, cellA_eq, hget_readA]
 split <;> rfl
theorem cellsA_read {L : List Nat} {H : Heap} {a o k : Nat} : cellsA (readA L H) a o k = if memN L a = true then cellsA H a o k else none := by
 rw [cellsA_eq, cellsA_eq, hget_readA]
 split <;> rfl
theorem strAt_box {H : Heap} {x : Value} {l : List Gun} (h : strAt H x = some l) : ∃ v, x = .agg ⟨[v]⟩ := by
 unfold strAt at h
 split at h
 · exact ⟨_, rfl⟩
 · exact ⟨_, rfl⟩
 · cases h
def OwnS (H : Heap) (x : Value) (l : List Gun) : Prop := (∃ v, x = .agg ⟨[v]⟩ ∧ OwnG H v l) ∨ (x = nilV ∧ l = [])
theorem OwnS.mono {H H' : Heap} (hs : Sub H H') {x : Value} {l : List Gun} (h : OwnS H x l) : OwnS H' x l := by
 rcases h with ⟨v, e, h⟩ | h
 · exact .inl ⟨v, e, h.mono hs⟩
 · exact .inr h
theorem OwnS.tidy {H : Heap} {n : Nat} (hl : ∀ k b, hget H k = some b → k < n) {x : Value} {l : List Gun} (h : OwnS H x l) : OwnS (Ab.tidy n H) x l := by
 rcases h with ⟨v, e, h⟩ | h
 · exact .inl ⟨v, e, h.tidy hl⟩
 · exact .inr h
theorem OwnS.box {H : Heap} {x : Value} {l : List Gun} (h : OwnS H x l) : ∃ v, x = .agg ⟨[v]⟩ := by
 rcases h with ⟨v, e, _⟩ | h
 · exact ⟨v, e⟩
 · exact ⟨_, h.1⟩
theorem OwnS.check {H : Heap} {x : Value} {l : List Gun} (h : OwnS H x l) (n : Nat) : g31 [x] H n = some (iv (strE l), H, n) := by
 rcases h with ⟨v, rfl, h⟩ | ⟨rfl, rfl⟩
 · exact h.check n
 · rfl
theorem OwnS.own {H : Heap} {x : Value} {l : List Gun} (h : OwnS H x l) (hst : strE l = 0) : ∃ v, x = .agg ⟨[v]⟩ ∧ OwnG H v l := by
 rcases h with h | ⟨rfl, rfl⟩
 · exact h
 · simp [strE] at hst
theorem OwnS.one {H : Heap} {x : Value} {l k : List Gun} (h : OwnS H x l) (h' : OwnS H x k) : l = k := by
 rcases h with ⟨v, rfl, h⟩ | ⟨rfl, rfl⟩ <;> rcases h' with ⟨u, e, h'⟩ | ⟨e, rfl⟩
 · injection e with e
   injection e with e
   injection e with e
   subst e
   exact h.guns.one h'.guns
 · injection e with e
   injection e with e
   injection e with e
   subst e
   obtain ⟨b, e, _⟩ := h
   cases e
 · injection e with e
   injection e with e
   injection e with e
   subst e
   obtain ⟨b, e, _⟩ := h'
   cases e
 · rfl
end
section
open Go Go.Ab Go.Proofs
end
end Go.Proofs.YtndlfijfjglkdaaGreatDoor
namespace Go.Ab
open Go
end Go.Ab
namespace Go.Proofs.YtndlfijfjglkdaaGreatDoor
section
open Go Go.Ab Go.Proofs
end
section
open Go Go.Ab Go.Proofs Ieee
theorem OwnG.rows {H : Heap} {v : Value} {l : List Gun} (h : OwnG H v l) : ∃ b, v = .slice (some ⟨b, 0, some 0⟩) l.length 0 ∧ rowGuns H b l.length = some l ∧ 0 < l.length := by
 obtain ⟨b, e, h1, h2, h3⟩ := h
 refine ⟨b, e, ?_, h2⟩
 have hr : rowOf H b = some (gcs l, 7) := by
   unfold rowOf
   rcases h1 with h1 | h1 <;> rw [h1]
 unfold rowGuns
 rw [hr]
 simp [gunsOf_gcs, show l.length < 9223372036854775808 by omega]
theorem OwnG.arr {H : Heap} {v : Value} {l : List Gun} {d : ByteArray} (h : OwnG H v l) (hst : strE l = 0) (hd : hasW d dirs = true) (n : Nat) : g116 [.agg ⟨[v]⟩, sv d] H n = some (.slice (some ⟨n, 0, some 0⟩) (arrL d l).length 0, (n, .ext ((arrL d l).map iv) 3 1) :: H, n + 1) := by
 obtain ⟨b, rfl, h1, _⟩ := h.rows
 simp only [g116, h1]
 rw [if_pos ⟨hst, hd⟩]
def firstS {β : Type} (f : Int → Option β) : Int → Nat → Option β
 | _, 0 => none
 | s, m + 1 => match f s with
   | some y => some y
   | none => firstS f (s + 1) m
theorem firstS_none {β : Type} {f : Int → Option β} {s : Int} : firstS f s 0 = none := rfl
theorem firstS_step {β : Type} {f : Int → Option β} {s : Int} {m k : Nat} (hk : k < m) : firstS f (s + k) (m - k) = match f (s + k) with
   | some y => some y
   | none => firstS f (s + (k + 1 : Nat)) (m - (k + 1)) := by
 obtain ⟨j, rfl⟩ : ∃ j, m = k + 1 + j := ⟨m - (k + 1), by omega⟩
 rw [show k + 1 + j - k = j + 1 by omega, show k + 1 + j - (k + 1) = j by omega, firstS, show s + ((k + 1 : Nat) : Int) = s + k + 1 by omega] <;> (cases f (s + k) <;> rfl)
theorem OwnG.gun {H : Heap} {b : Nat} {l : List Gun} (h : OwnG H (.slice (some ⟨b, 0, some 0⟩) l.length 0) l) {i : Nat} (hi : i < l.length) : cellsA H b (i * 7) 7 = some l[i].cells := by
 obtain ⟨b', e, hr, _⟩ := h
 injection e with e
 injection e with e
 injection e with e
 subst e
 have hc : cellsA H b 0 (l.length * 7) = some (gcs l) := by
   have hg := gcs_length l
   rcases hr with h1 | h1 <;> rw [cellsA_eq, h1] <;> simp [cellsB] <;> exact List.take_of_length_le (by omega)
 have := cells_part (sz := 7) (i := i) hc hi
 rwa [gcs_atB hi, Nat.zero_add] at this
end
end Go.Proofs.YtndlfijfjglkdaaGreatDoor
namespace Go.Ab
open Go
theorem AC.same {P : Program} {f : FuncId} {fn : Func} {c : Code} {args : List Value} {H : Heap} {n : Nat} {v : Value} (hf : P.funcs[f]? = some fn) (hb : fn.body = some c) (he : enterable P f = true) (hlen : Nat.ble args.length fn.ntmps = true) (vs : List Nat) (hv : sc (· < n) v)
   (hold : ∀ k b, hget H k = some b → k < n) (h : E P n none c { fr := argsFr args 0, sz := fn.ntmps, H, n, marks := [], vs } (pureK P fn H v)) : AC P f args H n v H n := by
 cases ha : af v with
 | true => exact AC.pure hf hb he hlen vs ha h
 | false => exact AC.wroteV hf hb he hlen vs ha hv (fun k b hk => ⟨hold k b hk, .inl hk⟩) h
end Go.Ab
namespace Go.Proofs.YtndlfijfjglkdaaGreatDoor
open Go Go.Ab Go.Proofs Ieee
def okSh (l : List Gun) (sh : List Int) : Prop := ∀ j (h : j < sh.length), (gAt l j).lo ≤ sh[j] ∧ sh[j] ≤ (gAt l j).hi
theorem okSh_all {l : List Gun} {sh : List Int} (h : okSh l sh) (hl : sh.length = l.length) : shE l sh = 0 := by
 refine shE_ok hl fun j hj => ?_
 rw [shC_at hj (by omega)]
 have := h j (by omega)
 rw [gAt_at l hj] at this
 exact (withinV_zero _ _ _).2 this
theorem strAt_form {H : Heap} {x : Value} {l : List Gun} (h : strAt H x = some l) : ∃ oa c, x = .agg ⟨[.slice oa l.length c]⟩ := by
 unfold strAt at h
 split at h
 · injection h with h; subst h; exact ⟨none, 0, rfl⟩
 · obtain ⟨_, _, rfl, _⟩ := gunsAt_ok h
   exact ⟨_, _, rfl⟩
 · cases h
def four (ns : List Int) (k : Nat) : Int × Int × Int :=
 ((ns.getD (4 * k) 0 + ns.getD (4 * k + 1) 0 + ns.getD (4 * k + 2) 0 + ns.getD (4 * k + 3) 0) * (ns.getD (4 * k) 0 + ns.getD (4 * k + 1) 0 + ns.getD (4 * k + 2) 0 + ns.getD (4 * k + 3) 0),
  (ns.getD (4 * k) 0 - ns.getD (4 * k + 2) 0) * (ns.getD (4 * k) 0 - ns.getD (4 * k + 2) 0) + (ns.getD (4 * k + 1) 0 - ns.getD (4 * k + 3) 0) * (ns.getD (4 * k + 1) 0 - ns.getD (4 * k + 3) 0),
  (ns.getD (4 * k) 0 - ns.getD (4 * k + 1) 0 + ns.getD (4 * k + 2) 0 - ns.getD (4 * k + 3) 0) * (ns.getD (4 * k) 0 - ns.getD (4 * k + 1) 0 + ns.getD (4 * k + 2) 0 - ns.getD (4 * k + 3) 0))
def bacc (ns : List Int) : Nat → Int × Int × Int
 | 0 => (0, 0, 0)
 | k + 1 => ((bacc ns k).1 + (four ns k).1, (bacc ns k).2.1 + (four ns k).2.1, (bacc ns k).2.2 + (four ns k).2.2)
def bandV (p : Int × Int × Int) : Value := .agg ⟨[iv p.1, iv p.2.1, iv p.2.2]⟩
theorem sq_bd {x B : Int} (h1 : -B ≤ x) (h2 : x ≤ B) : 0 ≤ x * x ∧ x * x ≤ B * B := by
 constructor
 · rcases Int.le_total 0 x with h | h
   · exact Int.mul_nonneg h h
   · have := Int.mul_nonneg (show 0 ≤ -x by omega) (show 0 ≤ -x by omega)
     rwa [Int.neg_mul_neg] at this
 · have h3 : 0 ≤ (B - x) * (B + x) := Int.mul_nonneg (by omega) (by omega)
   have h4 : (B - x) * (B + x) = B * B - x * x := by
     rw [Int.sub_mul, Int.mul_add, Int.mul_add, Int.mul_comm x B]
     omega
   omega
def inS (ns : List Int) : Prop := ∀ x ∈ ns, -16384 ≤ x ∧ x ≤ 16384
theorem inS_at {ns : List Int} (h : inS ns) (k : Nat) : -16384 ≤ ns.getD k 0 ∧ ns.getD k 0 ≤ 16384 := by
 rw [List.getD_eq_getElem?_getD]
 by_cases hk : k < ns.length
 · rw [List.getElem?_eq_getElem hk]
   exact h _ (List.getElem_mem hk)
 · rw [List.getElem?_eq_none (by omega)]
   simp
theorem four_bd {ns : List Int} (h : inS ns) (k : Nat) : (0 ≤ (four ns k).1 ∧ (four ns k).1 ≤ 4294967296) ∧ (0 ≤ (four ns k).2.1 ∧ (four ns k).2.1 ≤ 4294967296) ∧ 0 ≤ (four ns k).2.2 ∧ (four ns k).2.2 ≤ 4294967296 := by
 have a := inS_at h (4 * k)
 have b := inS_at h (4 * k + 1)
 have c := inS_at h (4 * k + 2)
 have d := inS_at h (4 * k + 3)
 have s1 := sq_bd (x := ns.getD (4 * k) 0 + ns.getD (4 * k + 1) 0 + ns.getD (4 * k + 2) 0 + ns.getD (4 * k + 3) 0) (B := 65536) (by omega) (by omega)
 have s2 := sq_bd (x := ns.getD (4 * k) 0 - ns.getD (4 * k + 2) 0) (B := 32768) (by omega) (by omega)
 have s3 := sq_bd (x := ns.getD (4 * k + 1) 0 - ns.getD (4 * k + 3) 0) (B := 32768) (by omega) (by omega)
 have s4 := sq_bd (x := ns.getD (4 * k) 0 - ns.getD (4 * k + 1) 0 + ns.getD (4 * k + 2) 0 - ns.getD (4 * k + 3) 0) (B := 65536) (by omega) (by omega)
 unfold four
 dsimp only
 omega
theorem bacc_bd {ns : List Int} (h : inS ns) : ∀ k : Nat, (0 ≤ (bacc ns k).1 ∧ (bacc ns k).1 ≤ 4294967296 * k) ∧ (0 ≤ (bacc ns k).2.1 ∧ (bacc ns k).2.1 ≤ 4294967296 * k) ∧ 0 ≤ (bacc ns k).2.2 ∧ (bacc ns k).2.2 ≤ 4294967296 * k
 | 0 => by simp [bacc]
 | k + 1 => by
   have h1 := bacc_bd h k
   have h2 := four_bd h k
   rw [bacc]
   dsimp only
   omega
set_option maxRecDepth 20000 in
set_option maxHeartbeats 1000000 in
theorem w86 {H : Heap} {n : Nat} {v : Value} {ns : List Int} (hV : intV H v = some ns) (hl : ns.length ≤ 1024) (hb : inS ns) : AC Tryz.prog 86 [v] H n (bandV (bacc ns (ns.length / 4))) H n := by
 refine AC.given fun hold hsc hgn => AC.tidied (B := []) (by simp) ?_
 have hlt0 := fun k b h => (hold k b h).1
 replace hV : intV (tidy n H) v = some ns := listV_tidy decI_tidy hlt0 hV
 have hr := recT_ok (P := Tryz.prog) (l := []) (by simp)
 obtain ⟨oa, c, rfl, hlt, _, hrow⟩ := intV_form hV
 refine AC.pure Tryz.func86 rfl (by kernel_rfl) rfl [0, 2, 3, 4, 5, 6, 7, 8, 13] rfl ?_
 refine E.seq (E.reg hr (by simp; rfl) ?_)
 refine E.seq (E.reg hr (by simp; rfl) ?_)
 refine E.seq (E.seq (E.reg hr (by simp; rfl) ?_))
 refine E.block (E.loop ?_)
 refine EL.ind (fun k : Nat => { fr := [(0, .slice oa ns.length c), (2, .pointer (some ⟨n, 0, none⟩)), (3, .pointer (some ⟨n + 1, 0, none⟩)), (4, iv ((4 * k : Nat) : Int))], sz := 93, H := (n + 1, .cells [iv (bacc ns k).1, iv (bacc ns k).2.1, iv (bacc ns k).2.2] 50) :: (n, .cells [iv 0, iv 0, iv 0] 50) :: tidy n H, n := n + 1 + 1, marks := [], vs := [0, 2, 3, 4, 5, 6, 7, 8, 13] }) (fun k => ns.length / 4 - k) (fun k => k ≤ ns.length / 4) 0 (.keep rfl rfl rfl (by simp) (by simp [bacc]; exact Sub.refl _)) (Nat.zero_le _) (fun _ => rfl) ?_
 intro k hk
 have hAb := bacc_bd hb k
 obtain ⟨A0, hA0⟩ : ∃ A, (bacc ns k).1 = A := ⟨_, rfl⟩
 obtain ⟨A1, hA1⟩ : ∃ A, (bacc ns k).2.1 = A := ⟨_, rfl⟩
 obtain ⟨A2, hA2⟩ : ∃ A, (bacc ns k).2.2 = A := ⟨_, rfl⟩
 have hbs : bacc ns (k + 1) = (A0 + (four ns k).1, A1 + (four ns k).2.1, A2 + (four ns k).2.2) := by rw [bacc, hA0, hA1, hA2]
 rw [hA0, hA1, hA2] at hAb ⊢
 obtain ⟨j, hj⟩ : ∃ j, 4 * k = j := ⟨_, rfl⟩
 unfold four at hbs
 dsimp only at hbs
 rw [hj] at hbs ⊢
 have ja := inS_at hb j
 have jb := inS_at hb (j + 1)
 have jc := inS_at hb (j + 2)
 have jd := inS_at hb (j + 3)
 have hw4 : IntKind.i64.wrap ((j : Int) + 4) = (j : Int) + 4 := W_in (by omega) (by omega)
 refine E.seq (E.seq ?_)
 by_cases hk4 : k < ns.length / 4
 case neg =>
   have hkk : k = ns.length / 4 := by omega
   have hgt : ¬ (j : Int) + 4 ≤ ns.length := by omega
   refine E.reg hr (by simp [hw4]; rfl) ?_
   refine E.cond (t := false) (by simp [hgt]) (fun h => by cases h) (fun _ => ?_)
   refine E.exit ?_
   refine E.seq (E.reg hr (by simp; rfl) ?_)
   refine E.ret ?_
   exact pureK.ret rfl (by simp [resultsA, resultA]; rfl) (by rw [← hkk, bandV, hA0, hA1, hA2]; rfl) (Sub.cons (by simp) (Sub.cons (by simp) (Sub.refl _)))
 have hlt4 : (j : Int) + 4 ≤ ns.length := by omega
 have gd : ∀ i (h : i < ns.length), ns.getD i 0 = ns[i] := fun i h => by rw [List.getD_eq_getElem?_getD, List.getElem?_eq_getElem h]; rfl
 obtain ⟨aa, rfl, hfa, hc0⟩ := hrow j (by omega)
 obtain ⟨_, e1, _, hc1⟩ := hrow (j + 1) (by omega)
 obtain ⟨_, e2, _, hc2⟩ := hrow (j + 2) (by omega)
 obtain ⟨_, e3, _, hc3⟩ := hrow (j + 3) (by omega)
 injection e1 with e1
 injection e2 with e2
 injection e3 with e3
 subst e1 e2 e3
 rw [← gd] at hc0 hc1 hc2 hc3
 obtain ⟨a, ha⟩ : ∃ a, ns.getD j 0 = a := ⟨_, rfl⟩
 obtain ⟨b, hb'⟩ : ∃ a, ns.getD (j + 1) 0 = a := ⟨_, rfl⟩
 obtain ⟨c', hc'⟩ : ∃ a, ns.getD (j + 2) 0 = a := ⟨_, rfl⟩
 obtain ⟨d, hd'⟩ : ∃ a, ns.getD (j + 3) 0 = a := ⟨_, rfl⟩
 rw [ha] at hc0 ja hbs
 rw [hb'] at hc1 jb hbs
 rw [hc'] at hc2 jc hbs
 rw [hd'] at hc3 jd hbs
 have i1 : (j : Int) < ns.length := by omega
 have i2 : (j : Int) + 1 < ns.length := by omega
 have i3 : (j : Int) + 2 < ns.length := by omega
 have i4 : (j : Int) + 3 < ns.length := by omega
 have n1 : j < ns.length := by omega
 have n2 : j + 1 < ns.length := by omega
 have n3 : j + 2 < ns.length := by omega
 have n4 : j + 3 < ns.length := by omega
 have v1 : IntKind.i64.wrap ((j : Int) + 1) = (j : Int) + 1 := W_in (by omega) (by omega)
 have v2 : IntKind.i64.wrap ((j : Int) + 2) = (j : Int) + 2 := W_in (by omega) (by omega)
 have p2 : (0 : Int) ≤ (j : Int) + 2 := by omega
 have p3 : (0 : Int) ≤ (j : Int) + 3 := by omega
 have t2 : ((j : Int) + 2).toNat = j + 2 := by omega
 have t3 : ((j : Int) + 3).toNat = j + 3 := by omega
 have v3 : IntKind.i64.wrap ((j : Int) + 3) = (j : Int) + 3 := W_in (by omega) (by omega)
 refine E.reg hr (by simp [hw4]; rfl) ?_
 refine E.cond (t := true) (by simp [hlt4]) (fun _ => ?_) (fun h => by cases h)
 have hnm : namesOk (n + 1 + 1) ((n + 1, Blk.cells [iv A0, iv A1, iv A2] 50) :: (n, Blk.cells [iv 0, iv 0, iv 0] 50) :: tidy n H) = true := namesOk_put (by omega) (namesOk_put (by omega) (namesOk_mono (by omega) _ namesOk_tidy))
 have hab : aa.block < n := cellA_lt tidy_lt hc0
 have q1 : ¬ n + 1 = aa.block := by omega
 have q2 : ¬ n = aa.block := by omega
 have hra : ∀ o, cellA (readA [aa.block] ((n + 1, Blk.cells [iv A0, iv A1, iv A2] 50) :: (n, Blk.cells [iv 0, iv 0, iv 0] 50) :: tidy n H)) aa.block o = cellA (tidy n H) aa.block o := fun o => by
   rw [cellA_read, if_pos (by simp), cellA_cons, if_neg q1, cellA_cons, if_neg q2]
 have hab2 : aa.block < n + 1 + 1 := by omega
 obtain ⟨X, hX⟩ : ∃ X, (n + 1, Blk.cells [iv A0, iv A1, iv A2] 50) :: (n, Blk.cells [iv 0, iv 0, iv 0] 50) :: tidy n H = X := ⟨_, rfl⟩
 rw [hX] at hnm hra ⊢
 refine E.skip (E.seq ?_)
 refine E.block (E.seq ?_)
 refine E.drawU mixed hr [] [] [3, 8, 13, 18] (by kernel_rfl) (by simp [-cellA, -flat, -readA, hnm, hra, hab2, i1, i2, i3, i4, v1, v2, v3, p2, p3, t2, t3, hfa, hc0, hc1, hc2, hc3]; rfl) ?_
 rw [← hX]
 have x1 : IntKind.i64.wrap (a + b) = a + b := W_in (by omega) (by omega)
 have x2 : IntKind.i64.wrap (a + b + c') = a + b + c' := W_in (by omega) (by omega)
 have x3 : IntKind.i64.wrap (a + b + c' + d) = a + b + c' + d := W_in (by omega) (by omega)
 have x4 : IntKind.i64.wrap (a - c') = a - c' := W_in (by omega) (by omega)
 have x5 : IntKind.i64.wrap (b - d) = b - d := W_in (by omega) (by omega)
 have x6 : IntKind.i64.wrap (a - b) = a - b := W_in (by omega) (by omega)
 have x7 : IntKind.i64.wrap (a - b + c') = a - b + c' := W_in (by omega) (by omega)
 have x8 : IntKind.i64.wrap (a - b + c' - d) = a - b + c' - d := W_in (by omega) (by omega)
 have s1 := sq_bd (x := a + b + c' + d) (B := 65536) (by omega) (by omega)
 have s2 := sq_bd (x := a - c') (B := 32768) (by omega) (by omega)
 have s3 := sq_bd (x := b - d) (B := 32768) (by omega) (by omega)
 have s4 := sq_bd (x := a - b + c' - d) (B := 65536) (by omega) (by omega)
 obtain ⟨P, hP⟩ : ∃ P, a + b + c' + d = P := ⟨_, rfl⟩
 obtain ⟨Q, hQ⟩ : ∃ Q, a - c' = Q := ⟨_, rfl⟩
 obtain ⟨R', hR'⟩ : ∃ R, b - d = R := ⟨_, rfl⟩
 obtain ⟨T, hT⟩ : ∃ T, a - b + c' - d = T := ⟨_, rfl⟩
 rw [hP] at x3 s1 hbs
 rw [hQ] at x4 s2 hbs
 rw [hR'] at x5 s3 hbs
 rw [hT] at x8 s4 hbs
 have y1 : IntKind.i64.wrap (P * P) = P * P := W_in (by omega) (by omega)
 have y2 : IntKind.i64.wrap (A0 + P * P) = A0 + P * P := W_in (by omega) (by omega)
 have y3 : IntKind.i64.wrap (Q * Q) = Q * Q := W_in (by omega) (by omega)
 have y4 : IntKind.i64.wrap (A1 + Q * Q) = A1 + Q * Q := W_in (by omega) (by omega)
 have y5 : IntKind.i64.wrap (R' * R') = R' * R' := W_in (by omega) (by omega)
 have y6 : IntKind.i64.wrap (A1 + Q * Q + R' * R') = A1 + Q * Q + R' * R' := W_in (by omega) (by omega)
 have y7 : IntKind.i64.wrap (T * T) = T * T := W_in (by omega) (by omega)
 have y8 : IntKind.i64.wrap (A2 + T * T) = A2 + T * T := W_in (by omega) (by omega)
 rw [← Int.add_assoc] at hbs
 refine E.seq (E.reg hr (by simp [x1, x2, x3, hP, y1, y2]; rfl) ?_)
 refine E.seq (E.reg hr (by simp [x4, x5, hQ, hR', y3, y4, y5, y6]; rfl) ?_)
 refine E.reg hr (by simp [x6, x7, x8, hT, y7, y8]; rfl) ?_
 refine E.reg hr (by simp [hw4]; rfl) ?_
 exact ⟨k + 1, .keep rfl rfl rfl (by simp; omega) (by dsimp only; rw [hbs]; exact Sub.refl _), hk4, by dsimp only; omega⟩
instance decInS (ns : List Int) : Decidable (inS ns) := by unfold inS; infer_instance
def g86 (args : List Value) (H : Heap) (n : Nat) : R := match args with
 | [v] => match intV H v with
   | some ns => if ns.length ≤ 1024 ∧ inS ns then some (bandV (bacc ns (ns.length / 4)), H, n) else none
   | none => none
 | _ => none
theorem ok86 : EntOk Tryz.prog (86, g86) := by
 intro args H n v H' n' h
 simp only [g86] at h
 split at h
 · split at h
   · rename_i h1
     split at h
     · rename_i hc
       injection h with h; injection h with e1 e2; injection e2 with e2 e3; subst e1 e2 e3
       exact w86 h1 hc.1 hc.2
     · cases h
   · cases h
 · cases h
noncomputable def asg156 : Code := match rfOf (bodyOf' Tryz.f156) with
 | some x => x.1
 | none => .skip
noncomputable def bdy156 : Code := match rfOf (bodyOf' Tryz.f156) with
 | some x => x.2
 | none => .skip
abbrev fn247 : Value := .func (.func 247) #[] #[.pointer (some ⟨13, 0, none⟩), .pointer (some ⟨14, 0, none⟩)]
abbrev fr156 : Fr := [(11, fn247), (2, .pointer (some ⟨11, 0, none⟩)), (3, .pointer (some ⟨12, 0, none⟩))]
abbrev vs156 : List Nat := [2, 3, 4, 5, 6, 7, 8, 9, 11, 15, 21]
theorem yieldF_exit {r : Rec} {l : Nat} {args : List Value} {H : Heap} {n : Nat} {fr : Fr} {sz : Nat} {vs : List Nat} {ps : Array Tmp} {a b c : Code} {d : Nat} {s1 s2 : St} {e : Ex}
   (h0 : hget H l = some (.loop .ready none fr sz vs ps a b d)) (hlen : (Nat.beq args.length ps.size && ps.toList.all (fun t => Nat.blt t sz)) = true)
   (h1 : r.code (some l) a { fr := (ps.toList.zip args).foldl (fun fr (t, v) => (t, v) :: fr) fr, sz, H, n, marks := [], vs } = some (.normal, s1)) (hl1 : hget s1.H l = some (.loop .ready none fr sz vs ps a b d))
   (h2 : r.code (some l) b { s1 with H := hset s1.H l (.loop .busy none fr sz vs ps a b d) } = some (e, s2)) (he : Code.ex e = some c) (hl2 : hget s2.H l = some (.loop .busy none fr sz vs ps a b d)) :
   yieldF r l args H n = some (.bool false, hset s2.H l (.loop .done (some c) fr sz vs ps a b d), s2.n) := by
 unfold yieldF
 rw [h0]
 simp only [hlen, h1, hl1, h2, hl2, he]
 rfl
open Classical in
noncomputable def r156 (s1 : St) (e : Ex) (s2 : St) : Rec := recV Tryz.prog (fun _ c _ => match c with
 | .region _ _ _ => some (.normal, s1)
 | .block _ _ => some (e, s2)
 | _ => none) (fun _ _ _ _ => none)
end Go.Proofs.YtndlfijfjglkdaaGreatDoor
namespace Go.Ab
open Go
section
variable {P : Program}
theorem runS_bind {α β : Type} (a : Sem α) (g : α → Sem β) : runP P (a >>= g) = (runP P a).bind fun x => runP P (g x) := by
 show runP P (Sem.bind a g) = _
 induction a with
 | program k ih => exact ih P
 | mark m k ih => exact ih
 | _ => rfl
theorem runS_pure {α : Type} (a : α) : runP P (pure a : Sem α) = some a := rfl
theorem runS_und {t : TypeId} {d : TypeDesc} (h : P.underlying t = some d) : runP P (underlying t) = some d := by
 show runP P (match P.underlying t with | some d => _ | none => _) = _
 rw [h]
 rfl
theorem runS_int (d : Nat) {t : TypeId} {k k' : IntKind} (n m : Int) (h : P.underlying t = some (.int k')) : runP P (Op.equalIn (d + 1) t (.int k n) (.int k m)) = some (n == m) := by
 simp only [Op.equalIn, runS_bind, runS_und h, Option.bind_some, if_true, runS_pure]
end
section
variable {P : Program}
theorem runA_eq (d : Nat) {t e : TypeId} {N n : Nat} (xs ys : Array Value) (q : Nat → Bool) (ht : P.underlying t = some (.array N e)) (hn : runP P (sizeOf e) = some n)
   (h : ∀ i, i < N → ∃ a b, runP P (part e xs (i * n)) = some a ∧ runP P (part e ys (i * n)) = some b ∧ runP P (Op.equalIn d e a b) = some (q i)) : runP P (Op.equalIn (d + 1) t (.agg xs) (.agg ys)) = some ((List.range' 0 N 1).all q) := by
 simp only [Op.equalIn, runS_bind, runS_und ht, Option.bind_some, hn]
 simp only [Std.Legacy.Range.forIn_eq_forIn_range', Std.Legacy.Range.size, Nat.sub_zero, Nat.add_one_sub_one, Nat.div_one]
 have hm : ∀ i ∈ List.range' 0 N 1, i < N := fun i hi => by
   rw [List.mem_range'_1] at hi
   omega
 generalize List.range' 0 N 1 = fl at hm
 induction fl with
 | nil => rfl
 | cons i fl ih =>
   obtain ⟨a, b, h1, h2, h3⟩ := h i (hm i (List.mem_cons_self ..))
   have ih := ih fun j hj => hm j (List.mem_cons_of_mem _ hj)
   simp only [List.forIn_cons, runS_bind]
   cases he : q i with
   | true =>
     simp only [h1, h2, h3, he, Option.bind_some, Bool.not_true, Bool.false_eq_true, if_false, runS_pure, List.all_cons, Bool.true_and]
     exact ih
   | false =>
     simp only [h1, h2, h3, he, Option.bind_some, Bool.not_false, if_true, runS_pure, List.all_cons, Bool.false_and]
end
end Go.Ab
namespace Go.Proofs.YtndlfijfjglkdaaGreatDoor
open Go Go.Ab Go.Proofs Ieee
theorem eq281v (a b c d a' b' c' d' : Int) : runP Tryz.prog (Op.equalIn 10000 281 (.agg ⟨[iv a, iv b, iv c, iv d]⟩) (.agg ⟨[iv a', iv b', iv c', iv d']⟩)) = some ((a == a') && ((b == b') && ((c == c') && ((d == d') && true)))) := by
 have := runA_eq (P := Tryz.prog) 9999 (t := 281) (e := 3) (N := 4) (n := 1) ⟨[iv a, iv b, iv c, iv d]⟩ ⟨[iv a', iv b', iv c', iv d']⟩ (fun i => match i with
   | 0 => a == a'
   | 1 => b == b'
   | 2 => c == c'
   | _ => d == d') Tryz.underlying281 (by kernel_rfl) fun i hi => ?_
 · exact this
 · rcases (show i = 0 ∨ i = 1 ∨ i = 2 ∨ i = 3 by omega) with rfl | rfl | rfl | rfl
   · exact ⟨iv a, iv a', by kernel_rfl, by kernel_rfl, runS_int _ _ _ Tryz.underlying3⟩
   · exact ⟨iv b, iv b', by kernel_rfl, by kernel_rfl, runS_int _ _ _ Tryz.underlying3⟩
   · exact ⟨iv c, iv c', by kernel_rfl, by kernel_rfl, runS_int _ _ _ Tryz.underlying3⟩
   · exact ⟨iv d, iv d', by kernel_rfl, by kernel_rfl, runS_int _ _ _ Tryz.underlying3⟩
theorem eq281 {x y : Operand} {H : Heap} {n : Nat} (a b c d a' b' c' d' : Int) : binV Tryz.prog .eql 281 x y (.agg ⟨[iv a, iv b, iv c, iv d]⟩) (.agg ⟨[iv a', iv b', iv c', iv d']⟩) H n = some (.bool ((a == a') && ((b == b') && ((c == c') && ((d == d') && true)))), H, n) := by
 have h : runP Tryz.prog (do eqGuard .eql 281 x y (.agg ⟨[iv a, iv b, iv c, iv d]⟩) (.agg ⟨[iv a', iv b', iv c', iv d']⟩); binOp .eql 281 (.agg ⟨[iv a, iv b, iv c, iv d]⟩) (.agg ⟨[iv a', iv b', iv c', iv d']⟩)) = some (.bool ((a == a') && ((b == b') && ((c == c') && ((d == d') && true))))) := by
   rw [runP_bind']
   have h1 : runP Tryz.prog (eqGuard .eql 281 x y (.agg ⟨[iv a, iv b, iv c, iv d]⟩) (.agg ⟨[iv a', iv b', iv c', iv d']⟩)) = some () := by kernel_rfl
   rw [h1, Option.bind_some]
   show runP Tryz.prog (Op.equalIn 10000 281 (.agg ⟨[iv a, iv b, iv c, iv d]⟩) (.agg ⟨[iv a', iv b', iv c', iv d']⟩) >>= fun b => pure (Value.bool b)) = _
   rw [runP_bind', eq281v]
   rfl
 have ha : afq (.agg ⟨[iv a, iv b, iv c, iv d]⟩) = true := rfl
 have hb : afq (.agg ⟨[iv a', iv b', iv c', iv d']⟩) = true := rfl
 unfold binV
 rw [ha, hb]
 simp only [Bool.and_self, if_true]
 rw [h]
 rfl
theorem run_s2ap {P : Program} {r : Rec} {st : St} {dst : Option Tmp} {arr : TypeId} {x : Operand} {ty : TypeId} {ps : String} {af : Array Edge} {g : Option (Nat × Bool)} : runOp P r ⟨dst, .sliceToArrayPointer arr x, ty, ps, af, g⟩ st = opSlicetoarraypointer P arr x st.fr st.H st.n := rfl
theorem build281 {fr : Fr} {H : Heap} {n : Nat} : opBuild Tryz.prog 281 #[] fr H n = some (.agg ⟨[iv 0, iv 0, iv 0, iv 0]⟩, H, n) := by kernel_rfl
end Go.Proofs.YtndlfijfjglkdaaGreatDoor
namespace Go.Ab
open Go Go.RowKit
theorem AC.bodyX {P : Program} {f : FuncId} {fn : Func} {c : Code} {args : List Value} {H : Heap} {n : Nat} {Q : Value → Heap → Nat → Prop} (hf : P.funcs[f]? = some fn) (hb : fn.body = some c) (he : enterable P f = true) (hlen : Nat.ble args.length fn.ntmps = true) (vs : List Nat)
   (h : E P n none c { fr := argsFr args 0, sz := fn.ntmps, H, n, marks := [], vs } fun e st => (e = .normal ∨ e = .ret) ∧ ∃ v H' n', leaveF P fn args n st = some (v, H', n') ∧ Q v H' n') : ∃ v H' n', AC P f args H n v H' n' ∧ Q v H' n' := by
 obtain ⟨e, st, hA, hen, v, H', n', hl, hq⟩ := h
 exact ⟨v, H', n', bodyAT_ok hf hb he (Nat.le_of_ble_eq_true hlen) hen (ATX.at hA) hl, hq⟩
end Go.Ab
namespace Go.Proofs.YtndlfijfjglkdaaGreatDoor
section
open Go Go.Ab Go.Proofs Ieee
theorem w207 {H : Heap} {n : Nat} {oa : Option Addr} {m c : Nat} : AC Tryz.prog 207 [.slice oa m c, iv 4] H n (.func (.func 247) #[] #[.pointer (some ⟨n, 0, none⟩), .pointer (some ⟨n + 1, 0, none⟩)]) ((n + 1, .cells [iv 4] 3) :: (n, .cells [.slice oa m c] 45) :: H) (n + 1 + 1) := by
 have hr := recT_ok (P := Tryz.prog) (l := []) (by simp)
 refine AC.body Tryz.func207 rfl (by kernel_rfl) rfl [0, 1, 2, 3, 4, 6] ?_
 refine E.seq (E.reg hr (by simp; rfl) ?_)
 refine E.seq (E.seq (E.reg hr (by simp; rfl) ?_))
 refine E.cond (t := false) (by simp) (fun h => by cases h) (fun _ => ?_)
 refine E.skip (E.seq (E.reg hr (by simp [opMakefunc]; rfl) ?_))
 refine E.ret ?_
 refine ⟨.inr rfl, ?_⟩
 simp [leaveF, shutA, resultsA, resultA, Tryz.results207, dropOk]
def g207 (args : List Value) (H : Heap) (n : Nat) : R := match args with
 | [.slice oa m c, .int .i64 k] => if k = 4 then some (.func (.func 247) #[] #[.pointer (some ⟨n, 0, none⟩), .pointer (some ⟨n + 1, 0, none⟩)], (n + 1, .cells [iv 4] 3) :: (n, .cells [.slice oa m c] 45) :: H, n + 1 + 1) else none
 | _ => none
theorem ok207 : EntOk Tryz.prog (207, g207) := by
 intro args H n v H' n' h
 simp only [g207] at h
 split at h
 · split at h
   · rename_i hk
     subst hk
     injection h with h; injection h with e1 e2; injection e2 with e2 e3; subst e1 e2 e3
     exact w207
   · cases h
 · cases h
theorem ent247 : enterable Tryz.prog 247 = true := by kernel_rfl
theorem rangeF_exit {P : Program} {r : Rec} {f : Operand} {ps : Array Tmp} {x y : Code} {st : St} {g : FuncId} {first captured : Array Value} {v : Value} {H' : Heap} {k : Nat} {fr : Fr} {sz : Nat} {vs : List Nat} {d : Nat} {a b c : Code} {e : Ex} {st' : St}
   (hf : evO P st.fr f = some (.func (.func g) first captured)) (he : enterable P g = true)
   (hc : r.call g (first.toList ++ [.func (.yield (st.n + 1)) #[] #[]] ++ captured.toList) ((st.n + 1, .loop .ready none st.fr st.sz st.vs ps x y st.n) :: (st.n, .defd) :: st.H) (st.n + 2) = some (v, H', k))
   (hl : hget H' (st.n + 1) = some (.loop .done (some c) fr sz vs ps a b d))
   (h2 : r.code none c { st with H := hset H' (st.n + 1) (.loop .exhausted (some c) fr sz vs ps a b d), n := k, marks := st.n :: st.marks } = some (e, st')) :
   rangeF P r none f ps x y st = some (e, st') := by
 unfold rangeF
 rw [hf]
 simp only [he, hc, hl]
 exact h2
end
section
open Go Go.Ab Go.Proofs
structure Rul where
 dir : ByteArray
 band : Int
 least : Int
 deriving DecidableEq
def Rul.cells (r : Rul) : List Value := [sv r.dir, iv r.band, iv r.least]
@[simp] theorem Rul.cells_length (r : Rul) : r.cells.length = 3 := rfl
def decR : Dec Rul := fun _ cs => match cs with
 | [.string d, .int .i64 b, .int .i64 l] => some ⟨d, b, l⟩
 | _ => none
theorem decR_mono : DecMono decR := fun _ _ _ _ _ h => h
theorem decR_tidy : DecTidy decR := fun _ _ _ _ _ h => h
theorem decR_frz : DecFrz decR := fun _ _ => rfl
theorem decR_cells (H : Heap) (r : Rul) : decR H r.cells = some r := rfl
theorem decR_ok {H : Heap} {cs : List Value} {r : Rul} (h : decR H cs = some r) : cs = r.cells := by
 unfold decR at h
 split at h
 · injection h with h; subst h; rfl
 · cases h
def rulV (H : Heap) (v : Value) : Option (List Rul) := listV 3 decR H v
theorem rulV_form {H : Heap} {v : Value} {l : List Rul} (h : rulV H v = some l) : ∃ oa c, v = .slice oa l.length c ∧ l.length < 2147483648 ∧ ∀ i (hi : i < l.length), ∃ a, oa = some a ∧ flat a = true ∧ cellsA H a.block (a.off + i * 3) 3 = some l[i].cells := by
 obtain ⟨oa, c, e, h1, _, h3⟩ := listV_form h
 refine ⟨oa, c, e, h1, fun i hi => ?_⟩
 obtain ⟨a, r, e1, e2, e3, e4⟩ := h3 i hi
 refine ⟨a, e1, e2, ?_⟩
 rw [e3, decR_ok e4]
theorem rul_cell {H : Heap} {b o : Nat} {r : Rul} (h : cellsA H b o 3 = some r.cells) : cellA H b o = some (sv r.dir) ∧ cellA H b (o + 1) = some (iv r.band) ∧ cellA H b (o + 2) = some (iv r.least) := by
 have h0 := (cellsA_cell h (i := 0) (by omega)).1
 have h1 := (cellsA_cell h (i := 1) (by omega)).1
 have h2 := (cellsA_cell h (i := 2) (by omega)).1
 exact ⟨h0, h1, h2⟩
def rulE (r : Rul) : Int := firstV [dirE r.dir, withinV r.band 0 2, withinV r.least 0 64]
def rulsE (l : List Rul) : Int := if 12 < l.length then 5 else firstV (l.map rulE)
def shortR (l : List Rul) : Bool := l.all (fun r => decide (r.dir.size ≤ 20)) && (decide (l.length ≤ 4) || decide (l.length = 13))
set_option maxRecDepth 20000 in
theorem w177 {H : Heap} {n : Nat} (r : Rul) (g0 : hget H 0 = some (.inp 0 names0)) : AC Tryz.prog 177 [.agg ⟨[sv r.dir, iv r.band, iv r.least]⟩] H n (iv (rulE r)) H n := by
 refine AC.given fun hold hsc hgn => AC.tidied (B := []) (by simp) ?_
 have hn0 : 0 < n := (hold 0 _ g0).1
 replace g0 : hget (tidy n H) 0 = some (.inp 0 names0) := hget_tidy.2 ⟨g0, (hold 0 _ g0).1, rfl⟩
 have hr := recT_ok (P := Tryz.prog) (l := [(115, g115), (138, g138), (113, g113)]) (by simp only [List.forall_mem_cons]; exact ⟨ok115, ok138, ok113, by simp⟩)
 obtain ⟨z1, hz1⟩ : ∃ z, dirE r.dir = z := ⟨_, rfl⟩
 have h115 : ∀ X m, hget X 0 = some (.inp 0 names0) → g115 [sv r.dir] X m = some (iv z1, X, m) := fun X m h => by
   simp only [g115]
   rw [if_pos h, hz1]
 have h115a := fun m => h115 ((n, Blk.inp 0 [sv r.dir, iv r.band, iv r.least]) :: frzH (tidy n H)) m (by rw [hget_cons, if_neg (by omega), hget_frz, g0]; rfl)
 have e : rulE r = firstV [z1, withinV r.band 0 2, withinV r.least 0 64] := by rw [rulE, hz1]
 rw [e]
 refine AC.pure Tryz.func177 rfl (by kernel_rfl) rfl [1, 2] rfl ?_
 refine E.seq (E.reg hr (by simp; rfl) ?_)
 refine E.seq (E.drawU mixed hr [8, 9, 10] [2, 5, 8, 9, 10] [1, 2, 5, 8, 9, 10] (by kernel_rfl) (by simp [h115a, g138, g113, intsAt, intsOf]; rfl) ?_)
 refine E.ret ?_
 exact pureK.ret rfl rfl (by simp) (by repeat first | exact Sub.refl _ | refine Sub.cons (by simp) ?_)
open Classical in
noncomputable def g177 (args : List Value) (H : Heap) (n : Nat) : R := match args with
 | [.agg ⟨[.string d, .int .i64 b, .int .i64 l]⟩] => if hget H 0 = some (.inp 0 names0) then some (iv (rulE ⟨d, b, l⟩), H, n) else none
 | _ => none
theorem ok177 : EntOk Tryz.prog (177, g177) := by
 intro args H n v H' n' h
 simp only [g177] at h
 split at h
 · split at h
   · rename_i g0
     injection h with h; injection h with e1 e2; injection e2 with e2 e3; subst e1 e2 e3
     exact w177 ⟨_, _, _⟩ g0
   · cases h
 · cases h
def rulsL (l : List Rul) : List Value := l.flatMap fun b => [iv (rulE b)]
theorem rulsL_eq (l : List Rul) : rulsL l = (l.map rulE).map iv := by
 induction l with
 | nil => rfl
 | cons b l ih => simp [rulsL] at ih ⊢; exact ih
set_option maxRecDepth 20000 in
theorem w176 {H : Heap} {n : Nat} {v : Value} {l : List Rul} (g0 : hget H 0 = some (.inp 0 names0)) (hV : rulV H v = some l) : AC Tryz.prog 176 [v, .func (.func 177) #[] #[]] H n (outS n l.length) (outSB n 27 1 l.length (rulsL l) ++ H) (n + 1) := by
 refine AC.given fun hold hsc hgn => AC.tidied (fun x hx => outSB_ge x hx) ?_
 replace g0 : hget (tidy n H) 0 = some (.inp 0 names0) := hget_tidy.2 ⟨g0, (hold 0 _ g0).1, rfl⟩
 replace hV : rulV (tidy n H) v = some l := listV_tidy decR_tidy (fun k b h => (hold k b h).1) hV
 have hr := recT_ok (P := Tryz.prog) (l := [(177, g177)]) (by simp [ok177])
 obtain ⟨oa, c, rfl, hlt, hrow⟩ := rulV_form hV
 refine AC.grown Tryz.func176 rfl (by kernel_rfl) rfl [1, 5, 8, 9, 10] ?_
 refine E.seq (E.reg hr (by simp; rfl) ?_)
 refine E.seq (E.reg hr (by simp; rfl) ?_)
 refine E.seq (E.seq (E.reg hr (by simp; rfl) ?_))
 refine E.block (E.loop ?_)
 refine EL.ind (fun x : Nat × Heap × Nat × Nat => { fr := [(1, .func (.func 177) #[] #[]), (5, outS x.2.2.2 x.1), (8, .slice oa l.length c), (9, iv l.length), (10, iv x.1)], sz := 22, H := x.2.1, n := x.2.2.1, marks := [], vs := [1, 5, 8, 9, 10] }) (fun x => l.length - x.1) (fun x => x.1 ≤ l.length ∧ GL (tidy n H) n 27 1 (rulsL (l.take x.1)) x.1 x.2.1 x.2.2.1 x.2.2.2) (0, tidy n H, n, n) (.keep rfl rfl rfl (by simp) (Sub.refl _)) ⟨Nat.zero_le _, by simpa [rulsL] using GL.start (t := 27) (sz := 1) (Sub.refl (tidy n H)) namesOk_tidy (Nat.le_refl n) (by simp)⟩ (fun _ => rfl) ?_
 rintro ⟨i, Hx, N, o⟩ ⟨hi, hG⟩
 dsimp only at hi hG ⊢
 have hw : IntKind.i64.wrap ((i : Int) + 1) = (i : Int) + 1 := W_in (by omega) (by omega)
 refine E.seq (E.reg hr (by simp; rfl) ?_)
 refine E.seq ?_
 by_cases hil : i < l.length
 · obtain ⟨a, rfl, hf, hc⟩ := hrow i hil
   have htk : l.take (i + 1) = l.take i ++ [l[i]] := List.take_succ_eq_append_getElem hil
   have hsn : rulsL (l.take i) ++ [iv (rulE l[i])] = rulsL (l.take (i + 1)) := by rw [htk]; unfold rulsL; rw [List.flatMap_append]; rfl
   obtain ⟨q, hq⟩ : ∃ q, l[i] = q := ⟨_, rfl⟩
   rw [hq] at hc hsn
   have hfl : ∀ H m, hget H 0 = some (.inp 0 names0) → g177 [.agg ⟨[sv q.dir, iv q.band, iv q.least]⟩] H m = some (iv (rulE q), H, m) := fun _ _ h => if_pos h
   have hG1 := hG.skip tidy_lt (.cells [sv q.dir, iv q.band, iv q.least] 182) rfl
   have hflx := fun m => hfl _ m (hG1.sub _ _ g0)
   obtain ⟨hc0, hc1, hc2⟩ := rul_cell hc
   obtain ⟨Hz, happ, hGz⟩ := hG1.app (P := Tryz.prog) (st := 206) (i := Tryz.t27) (new := [iv (rulE q)]) tidy_lt Tryz.underlying206 inf27 sz27i zo27 by27 (by omega) rfl (by omega) rfl rfl
   rw [hsn] at hGz
   refine E.cond (t := true) (by simp [hil]) (fun _ => ?_) (fun h => by cases h)
   refine E.skip (E.seq ?_)
   refine E.block (E.seq (E.reg hr (by simp [-cellsA, -flat, hil, hf, hG.sub.cells hc, Rul.cells]; rfl) ?_))
   refine E.reg hr (by simp [-builtinA, run_vcall_tmp, vcallF, target, hflx, happ]; rfl) ?_
   refine E.reg hr (by simp [hw]; rfl) ?_
   exact ⟨(i + 1, Hz, N + 1 + 1 + 1, N + 1 + 1), .keep rfl rfl rfl (by simp) (Sub.refl _), ⟨hil, hGz⟩, by dsimp only; omega⟩
 · have hil' : i = l.length := by omega
   subst hil'
   rw [List.take_length] at hG
   refine E.cond (t := false) (by simp) (fun h => by cases h) (fun _ => ?_)
   refine E.exit ?_
   refine E.seq (E.reg hr (by simp; rfl) ?_)
   refine E.ret ?_
   exact outK.ret rfl rfl (hG.fresh (Nat.le_refl _) (by rw [rulsL_eq]; exact afL_iv _) fun ρ => by rw [rulsL_eq]; exact ivs_ren ρ _)
open Classical in
noncomputable def g176 (args : List Value) (H : Heap) (n : Nat) : R := match args with
 | [v, .func (.func 177) ⟨[]⟩ ⟨[]⟩] => if hget H 0 = some (.inp 0 names0) then (rulV H v).map fun l => (outS n l.length, outSB n 27 1 l.length (rulsL l) ++ H, n + 1) else none
 | _ => none
theorem ok176 : EntOk Tryz.prog (176, g176) := by
 intro args H n v H' n' h
 simp only [g176] at h
 split at h
 · split at h
   · rename_i g0
     rw [Option.map_eq_some_iff] at h
     obtain ⟨l, h1, h⟩ := h
     injection h with e1 e2; injection e2 with e2 e3; subst e1 e2 e3
     exact w176 g0 h1
   · cases h
 · cases h
theorem first_outR {H : Heap} {n m : Nat} {l : List Rul} (hl : l.length < 2147483648) : g113' [outS n l.length] (outSB n 27 1 l.length (rulsL l) ++ H) m = some (iv (firstV (l.map rulE)), outSB n 27 1 l.length (rulsL l) ++ H, m) := by
 by_cases h0 : l.length = 0
 · obtain rfl := List.length_eq_zero_iff.1 h0
   rfl
 · have hb : outSB n 27 1 l.length (rulsL l) = [(n, .ext (rulsL l) 27 1)] := if_neg h0
   rw [outS_ne h0, hb]
   have : intsAt ([(n, Blk.ext (rulsL l) 27 1)] ++ H) ⟨n, 0, some 0⟩ l.length = some (l.map rulE) := by
     refine intsAt_iv rfl ?_ hl
     rw [cellsA_eq, List.singleton_append, hget_cons, if_pos rfl]
     show cellsB 0 l.length (.ext (rulsL l) 27 1) = _
     rw [rulsL_eq]
     simp [cellsB]
     exact List.take_of_length_le (by simp)
   simp only [g113', this, Option.map_some]
theorem w102 {H : Heap} {n : Nat} {v : Value} {l : List Rul} (g0 : hget H 0 = some (.inp 0 names0)) (hV : rulV H v = some l) : AC Tryz.prog 102 [v] H n (iv (rulsE l)) H n := by
 refine AC.given fun hold hsc hgn => AC.tidied (B := []) (by simp) ?_
 replace g0 : hget (tidy n H) 0 = some (.inp 0 names0) := hget_tidy.2 ⟨g0, (hold 0 _ g0).1, rfl⟩
 replace hV : rulV (tidy n H) v = some l := listV_tidy decR_tidy (fun k b h => (hold k b h).1) hV
 have hr := recT_ok (P := Tryz.prog) (l := [(176, g176), (113, g113')]) (by simp [ok176, ok113'])
 obtain ⟨oa, c, rfl, hlt, _⟩ := rulV_form hV
 have h176 : ∀ k, g176 [.slice oa l.length c, .func (.func 177) #[] #[]] (tidy n H) k = some (outS k l.length, outSB k 27 1 l.length (rulsL l) ++ tidy n H, k + 1) := fun k => by
   simp only [g176, hV, Option.map_some]
   rw [if_pos g0]
 have h113 := first_outR (H := tidy n H) (n := n) (m := n + 1) (l := l) hlt
 refine AC.pure Tryz.func102 rfl (by kernel_rfl) rfl [] rfl ?_
 refine E.seq (E.reg hr (by simp; rfl) ?_)
 refine E.seq (E.seq (E.reg hr (by simp; rfl) ?_))
 by_cases hm : (12 : Int) < l.length
 · refine E.cond (t := true) (by simp [hm]; try omega) (fun _ => ?_) (fun h => by cases h)
   refine E.seq (E.reg hr (by simp; rfl) ?_)
   refine E.ret ?_
   exact pureK.ret rfl rfl (by rw [rulsE, if_pos (by omega)]; rfl) (Sub.refl _)
 · refine E.cond (t := false) (by simp [hm]; try omega) (fun h => by cases h) (fun _ => ?_)
   refine E.skip (E.seq (E.reg hr (by simp [h176, h113]; rfl) ?_))
   refine E.ret ?_
   exact pureK.ret rfl rfl (by rw [rulsE, if_neg (by omega)]; rfl) (Sub.app (fun x hx => namesOk_none namesOk_tidy _ (outSB_ge x hx)) (Sub.refl _))
open Classical in
noncomputable def g102 (args : List Value) (H : Heap) (n : Nat) : R := match args with
 | [v] => if hget H 0 = some (.inp 0 names0) then (rulV H v).map fun l => (iv (rulsE l), H, n) else none
 | _ => none
theorem ok102 : EntOk Tryz.prog (102, g102) := by
 intro args H n v H' n' h
 simp only [g102] at h
 split at h
 · split at h
   · rename_i g0
     rw [Option.map_eq_some_iff] at h
     obtain ⟨l, h1, h⟩ := h
     injection h with e1 e2; injection e2 with e2 e3; subst e1 e2 e3
     exact w102 g0 h1
   · cases h
 · cases h
theorem firstV_consE (a : Int) (l : List Int) : firstV (a :: l) = if a = 0 then firstV l else a := rfl
theorem rulE_drop {l : List Rul} {i : Nat} (h : i < l.length) : firstV ((l.drop i).map rulE) = if rulE l[i] = 0 then firstV ((l.drop (i + 1)).map rulE) else rulE l[i] := by
 rw [List.drop_eq_getElem_cons h, List.map_cons]
 exact firstV_consE _ _
set_option maxRecDepth 20000 in
set_option maxHeartbeats 1000000 in
theorem w90 {H : Heap} {n : Nat} {v : Value} {l : List Rul} (hV : rulV H v = some l) : AC Tryz.prog 90 [v] H n (iv (rulsE l)) H n := by
 refine AC.given fun hold hsc hgn => AC.tidied (B := []) (by simp) ?_
 replace hV : rulV (tidy n H) v = some l := listV_tidy decR_tidy (fun k b h => (hold k b h).1) hV
 have hr := recT_ok (P := Tryz.prog) (l := [(29, gSI dirE), (62, g138), (27, g113)]) (by simp only [List.forall_mem_cons]; exact ⟨ok29, ok62, ok27, by simp⟩)
 obtain ⟨oa, c, rfl, hlt, hrow⟩ := rulV_form hV
 refine AC.pure Tryz.func90 rfl (by kernel_rfl) rfl [0, 3] rfl ?_
 refine E.seq (E.reg hr (by simp; rfl) ?_)
 refine E.seq (E.seq (E.reg hr (by simp; rfl) ?_))
 by_cases hm : (12 : Int) < l.length
 · refine E.cond (t := true) (by simp [hm]; try omega) (fun _ => ?_) (fun h => by cases h)
   refine E.seq (E.reg hr (by simp; rfl) ?_)
   refine E.ret ?_
   exact pureK.ret rfl rfl (by rw [rulsE, if_pos (by omega)]; rfl) (Sub.refl _)
 have hE : rulsE l = firstV (l.map rulE) := by rw [rulsE, if_neg (by omega)]
 refine E.cond (t := false) (by simp [hm]; try omega) (fun h => by cases h) (fun _ => ?_)
 refine E.skip (E.seq ?_)
 refine E.seq (E.reg hr (by simp; rfl) ?_)
 refine E.block (E.loop ?_)
 refine EL.ind (fun i : Nat => { fr := [(0, .slice oa l.length c), (3, iv i)], sz := 37, H := tidy n H, n := n, marks := [], vs := [0, 3] }) (fun i => l.length - i) (fun i => i ≤ l.length ∧ firstV (l.map rulE) = firstV ((l.drop i).map rulE)) 0 (.keep rfl rfl rfl (by simp) (Sub.refl _)) ⟨Nat.zero_le _, rfl⟩ (fun _ => rfl) ?_
 rintro i ⟨hi, hg⟩
 have hw : IntKind.i64.wrap ((i : Int) + 1) = (i : Int) + 1 := W_in (by omega) (by omega)
 refine E.seq (E.seq (E.reg hr (by simp; rfl) ?_))
 by_cases hil : i < l.length
 · have hilI : (i : Int) < l.length := by omega
   obtain ⟨a, rfl, hf, hc⟩ := hrow i hil
   rw [rulE_drop hil] at hg
   obtain ⟨q, hq⟩ : ∃ q, l[i] = q := ⟨_, rfl⟩
   rw [hq] at hc hg
   obtain ⟨hc0, hc1, hc2⟩ := rul_cell hc
   have ha : a.block < n := cellA_lt (fun k b h => tidy_lt k b h) hc0
   obtain ⟨z1, hz1⟩ : ∃ z, dirE q.dir = z := ⟨_, rfl⟩
   obtain ⟨z2, hz2⟩ : ∃ z, withinV q.band 0 2 = z := ⟨_, rfl⟩
   obtain ⟨z3, hz3⟩ : ∃ z, withinV q.least 0 64 = z := ⟨_, rfl⟩
   have h29 : ∀ X m, gSI dirE [sv q.dir] X m = some (iv z1, X, m) := fun X m => by
     show some (iv (dirE q.dir), X, m) = _
     rw [hz1]
   have h62a : ∀ X m, g138 [iv q.band, iv 0, iv 2] X m = some (iv z2, X, m) := fun X m => by
     show some (iv (withinV q.band 0 2), X, m) = _
     rw [hz2]
   have h62b : ∀ X m, g138 [iv q.least, iv 0, iv 64] X m = some (iv z3, X, m) := fun X m => by
     show some (iv (withinV q.least 0 64), X, m) = _
     rw [hz3]
   have e : rulE q = firstV [z1, z2, z3] := by rw [rulE, hz1, hz2, hz3]
   obtain ⟨z, hz⟩ : ∃ z, firstV [z1, z2, z3] = z := ⟨_, rfl⟩
   rw [e, hz] at hg
   have hnt := namesOk_tidy (n := n) (H := H)
   refine E.cond (t := true) (by simp [hil]) (fun _ => ?_) (fun h => by cases h)
   refine E.skip (E.seq ?_)
   refine E.block (E.seq ?_)
   refine E.drawU mixed hr [17, 18, 19] [5, 11, 17, 18, 19] [4, 5, 11, 17, 18, 19] (by kernel_rfl) (by simp [-cellA, -readA, -flat, cellA_read, hil, hilI, hf, hc0, hc1, hc2, ha, h29, h62a, h62b, flat_n, g113, intsAt, intsOf, hz]; rfl) ?_
   refine E.seq (E.reg hr (by simp; rfl) ?_)
   by_cases hz0 : z = 0
   · subst hz0
     rw [if_pos rfl] at hg
     refine E.cond (t := false) (by simp) (fun h => by cases h) (fun _ => ?_)
     refine E.skip (E.reg hr (by simp [hw]; rfl) ?_)
     exact ⟨i + 1, .back rfl (fun k b hk => hold k b (hget_tidy.1 hk).1) (Sub.cons (by simp) (Sub.refl _)) rfl rfl ⟨rfl, rfl⟩ (by simp [ha]), ⟨hil, hg⟩, by dsimp only; omega⟩
   · rw [if_neg hz0] at hg
     refine E.cond (t := true) (by simp [hz0]) (fun _ => ?_) (fun h => by cases h)
     refine E.seq (E.reg hr (by simp; rfl) ?_)
     refine E.ret ?_
     exact pureK.ret rfl rfl (by rw [hE, hg]; rfl) (by repeat first | exact Sub.refl _ | refine Sub.cons (by simp) ?_)
 · have e : i = l.length := by omega
   subst e
   rw [List.drop_length] at hg
   refine E.cond (t := false) (by simp) (fun h => by cases h) (fun _ => ?_)
   refine E.exit ?_
   refine E.seq (E.reg hr (by simp; rfl) ?_)
   refine E.ret ?_
   exact pureK.ret rfl rfl (by rw [hE, hg]; rfl) (Sub.refl _)
def gRul (F : List Rul → Value) (args : List Value) (H : Heap) (n : Nat) : R := match args with
 | [v] => (rulV H v).map fun l => (F l, H, n)
 | _ => none
theorem ok90 : EntOk Tryz.prog (90, gRul fun l => iv (rulsE l)) := by
 intro args H n v H' n' h
 simp only [gRul] at h
 split at h
 · rw [Option.map_eq_some_iff] at h
   obtain ⟨l, h1, h⟩ := h
   injection h with e1 e2; injection e2 with e2 e3; subst e1 e2 e3
   exact w90 h1
 · cases h
def RulsV (H : Heap) (v : Value) (l : List Rul) : Prop := ∃ oa c, v = .slice oa l.length c ∧ l.length < 2 ^ 63 ∧ (oa = none → c = 0) ∧ ∀ i (hi : i < l.length), ∃ a, oa = some a ∧ flat a = true ∧ cellsA H a.block (a.off + i * 3) 3 = some l[i].cells
theorem RulsV.mono {H H' : Heap} (hs : Sub H H') {v : Value} {l : List Rul} (h : RulsV H v l) : RulsV H' v l := by
 obtain ⟨oa, c, e, h1, h2, h3⟩ := h
 refine ⟨oa, c, e, h1, h2, fun i hi => ?_⟩
 obtain ⟨a, e1, e2, e3⟩ := h3 i hi
 exact ⟨a, e1, e2, hs.cells e3⟩
theorem RulsV.tidy {H : Heap} {n : Nat} (hl : ∀ k b, hget H k = some b → k < n) {v : Value} {l : List Rul} (h : RulsV H v l) : RulsV (Ab.tidy n H) v l := by
 obtain ⟨oa, c, e, h1, h2, h3⟩ := h
 refine ⟨oa, c, e, h1, h2, fun i hi => ?_⟩
 obtain ⟨a, e1, e2, e3⟩ := h3 i hi
 exact ⟨a, e1, e2, cellsA_tidy hl e3⟩
theorem RulsV.one {H : Heap} {v : Value} {l k : List Rul} (h : RulsV H v l) (h' : RulsV H v k) : l = k := by
 obtain ⟨oa, c, rfl, _, _, h3⟩ := h
 obtain ⟨oa', c', e, _, _, h3'⟩ := h'
 injection e with e1 e2 e3
 subst e1
 refine List.ext_getElem e2 fun i h1 h2 => ?_
 obtain ⟨a, ea, _, ec⟩ := h3 i h1
 obtain ⟨b, eb, _, ed⟩ := h3' i h2
 rw [ea] at eb
 injection eb with eb
 subst eb
 rw [ec] at ed
 injection ed with ed
 have : ∀ r q : Rul, r.cells = q.cells → r = q := fun r q h => by
   obtain ⟨r1, r2, r3⟩ := r
   obtain ⟨q1, q2, q3⟩ := q
   simp only [Rul.cells, List.cons.injEq, Value.string.injEq, Value.int.injEq, true_and, and_true] at h
   obtain ⟨h1, h2, h3⟩ := h
   rw [h1, h2, h3]
 exact this _ _ ed
set_option maxRecDepth 20000 in
theorem w89 {H : Heap} {n : Nat} {v : Value} {l : List Rul} (hW : RulsV H v l) : AC Tryz.prog 89 [v] H n (.bool (shortR l)) H n := by
 refine AC.given fun hold _ _ => AC.tidied (B := []) (by simp) ?_
 replace hW := hW.tidy fun k b h => (hold k b h).1
 have hr := recT_ok (P := Tryz.prog) (l := []) (by simp)
 obtain ⟨oa, c, rfl, hlt, _, hrow⟩ := hW
 refine AC.pure Tryz.func89 rfl (by kernel_rfl) rfl [0, 3] rfl ?_
 refine E.seq (E.reg hr (by simp; rfl) ?_)
 refine E.seq (E.seq (E.reg hr (by simp; rfl) ?_))
 refine E.block (E.loop ?_)
 refine EL.ind (fun i : Nat => { fr := [(0, .slice oa l.length c), (3, iv i)], sz := 25, H := tidy n H, n := n, marks := [], vs := [0, 3] }) (fun i => l.length - i) (fun i => i ≤ l.length ∧ ∀ j (h : j < l.length), j < i → l[j].dir.size ≤ 20) 0 (.keep rfl rfl rfl (by simp) (Sub.refl _)) ⟨Nat.zero_le _, fun j h hj => by omega⟩ (fun _ => rfl) ?_
 rintro i ⟨hi, hg⟩
 have hw : i < l.length → IntKind.i64.wrap ((i : Int) + 1) = (i : Int) + 1 := fun _ => W_in (by omega) (by omega)
 refine E.seq (E.seq (E.reg hr (by simp; rfl) ?_))
 by_cases hil : i < l.length
 · obtain ⟨a, rfl, hf, hc⟩ := hrow i hil
   have hc0 := (rul_cell hc).1
   refine E.cond (t := true) (by simp [hil]) (fun _ => ?_) (fun h => by cases h)
   refine E.skip (E.seq ?_)
   refine E.block (E.seq (E.reg hr (by simp [-cellA, -flat, hil, hf, hc0]; rfl) ?_))
   by_cases h4 : l[i].dir.size ≤ 20
   · have h4' : ¬ (20 : Int) < l[i].dir.size := by omega
     refine E.cond (t := false) (by simp [h4']) (fun h => by cases h) (fun _ => ?_)
     refine E.skip (E.reg hr (by simp [hw hil]; rfl) ?_)
     exact ⟨i + 1, .keep rfl rfl rfl (by simp) (Sub.refl _), ⟨hil, fun j h hj => if e : j = i then by subst e; exact h4 else hg j h (by omega)⟩, by dsimp only; omega⟩
   · have h4' : (20 : Int) < l[i].dir.size := by omega
     have hs : shortR l = false := by
       unfold shortR
       rw [show l.all (fun r => decide (r.dir.size ≤ 20)) = false from List.all_eq_false.2 ⟨l[i], List.getElem_mem hil, by simpa using h4⟩, Bool.false_and]
     refine E.cond (t := true) (by simp [h4']) (fun _ => ?_) (fun h => by cases h)
     refine E.seq (E.reg hr (by simp; rfl) ?_)
     refine E.ret ?_
     exact pureK.ret rfl rfl (by simp [hs]) (Sub.refl _)
 · have hs : shortR l = (decide (l.length ≤ 4) || decide (l.length = 13)) := by
     unfold shortR
     rw [show l.all (fun r => decide (r.dir.size ≤ 20)) = true from List.all_eq_true.2 fun x hx => by
       obtain ⟨j, hj, rfl⟩ := List.getElem_of_mem hx
       simpa using hg j hj (by omega), Bool.true_and]
   rw [hs]
   refine E.cond (t := false) (by simp [hil]) (fun h => by cases h) (fun _ => ?_)
   refine E.exit ?_
   refine E.seq ?_
   by_cases h4 : l.length ≤ 4
   · have h4I : (l.length : Int) ≤ 4 := by omega
     refine E.reg hr (by simp [h4I, undefV]; rfl) ?_
     refine E.ret ?_
     exact pureK.ret rfl rfl (by simp [h4]) (Sub.refl _)
   · have h4I : ¬ (l.length : Int) ≤ 4 := by omega
     refine E.reg hr (by simp [h4I]; rfl) ?_
     refine E.ret ?_
     exact pureK.ret rfl rfl (by simp [h4]; try omega) (Sub.refl _)
open Classical in
noncomputable def g89 (args : List Value) (H : Heap) (n : Nat) : R := match args with
 | [v] => if h : ∃ l, RulsV H v l then some (.bool (shortR (Classical.choose h)), H, n) else none
 | _ => none
theorem g89_at {H : Heap} {n : Nat} {v : Value} {l : List Rul} (h : RulsV H v l) : g89 [v] H n = some (.bool (shortR l), H, n) := by
 have he : ∃ l, RulsV H v l := ⟨l, h⟩
 simp only [g89]
 rw [dif_pos he, (Classical.choose_spec he).one h]
theorem ok89 : EntOk Tryz.prog (89, g89) := by
 intro args H n v H' n' h
 simp only [g89] at h
 split at h
 · split at h
   · rename_i he
     injection h with h; injection h with e1 e2; injection e2 with e2 e3; subst e1 e2 e3
     exact w89 (Classical.choose_spec he)
   · cases h
 · cases h
theorem sz182i : Tryz.t182.size = 3 := by kernel_rfl
theorem zo182 : zeroOk Tryz.t182 = true := by kernel_rfl
theorem by182 : Tryz.t182.bytes ≤ 128 := by decide
def rlsL (l : List Rul) : List Value := l.flatMap Rul.cells
theorem afL_rls : ∀ l : List Rul, afL (rlsL l) = true
 | [] => rfl
 | r :: l => by
   show afL (r.cells ++ rlsL l) = true
   rw [afL_append, afL_rls l]
   rfl
theorem rls_ren (ρ : Nat → Nat) (l : List Rul) : renL ρ (rlsL l) = rlsL l := renL_af ρ _ (afL_rls l)
theorem RulsV.small {H : Heap} {v : Value} {l : List Rul} (h : RulsV H v l) (_hl : l.length < 2147483648) : ∃ oa c, v = .slice oa l.length c ∧ ∀ i (hi : i < l.length), ∃ a, oa = some a ∧ flat a = true ∧ cellsA H a.block (a.off + i * 3) 3 = some l[i].cells := by
 obtain ⟨oa, c, e, _, _, h3⟩ := h
 exact ⟨oa, c, e, h3⟩
set_option maxRecDepth 20000 in
theorem w92 {H : Heap} {n : Nat} {v : Value} {l : List Rul} (hV : RulsV H v l) (hlt : l.length < 2147483648) : AC Tryz.prog 92 [v] H n (outS n l.length) (outSB n 182 3 l.length (rlsL l) ++ H) (n + 1) := by
 refine AC.given fun hold hsc hgn => AC.tidied (fun x hx => outSB_ge x hx) ?_
 replace hV := hV.tidy fun k b h => (hold k b h).1
 have hr := recT_ok (P := Tryz.prog) (l := []) (by simp)
 obtain ⟨oa, c, rfl, hrow⟩ := hV.small hlt
 refine AC.grown Tryz.func92 rfl (by kernel_rfl) rfl [3, 6, 7, 8] ?_
 refine E.seq (E.reg hr (by simp; rfl) ?_)
 refine E.seq (E.reg hr (by simp; rfl) ?_)
 refine E.seq (E.seq (E.reg hr (by simp; rfl) ?_))
 refine E.block (E.loop ?_)
 refine EL.ind (fun x : Nat × Heap × Nat × Nat => { fr := [(3, outS x.2.2.2 x.1), (6, .slice oa l.length c), (7, iv l.length), (8, iv x.1)], sz := 18, H := x.2.1, n := x.2.2.1, marks := [], vs := [3, 6, 7, 8] }) (fun x => l.length - x.1) (fun x => x.1 ≤ l.length ∧ GL (tidy n H) n 182 3 (rlsL (l.take x.1)) x.1 x.2.1 x.2.2.1 x.2.2.2) (0, tidy n H, n, n) (.keep rfl rfl rfl (by simp) (Sub.refl _)) ⟨Nat.zero_le _, by simpa [rlsL] using GL.start (t := 182) (sz := 3) (Sub.refl (tidy n H)) namesOk_tidy (Nat.le_refl n) (by simp)⟩ (fun _ => rfl) ?_
 rintro ⟨i, Hx, N, o⟩ ⟨hi, hG⟩
 dsimp only at hi hG ⊢
 have hw : IntKind.i64.wrap ((i : Int) + 1) = (i : Int) + 1 := W_in (by omega) (by omega)
 refine E.seq (E.reg hr (by simp; rfl) ?_)
 refine E.seq ?_
 by_cases hil : i < l.length
 · obtain ⟨a, rfl, hf, hc⟩ := hrow i hil
   have htk : l.take (i + 1) = l.take i ++ [l[i]] := List.take_succ_eq_append_getElem hil
   have hsn : rlsL (l.take i) ++ l[i].cells = rlsL (l.take (i + 1)) := by rw [htk]; unfold rlsL; rw [List.flatMap_append]; simp
   obtain ⟨q, hq⟩ : ∃ q, l[i] = q := ⟨_, rfl⟩
   rw [hq] at hc hsn
   have hcx : cellsA Hx a.block (a.off + i * 3) 3 = some [sv q.dir, iv q.band, iv q.least] := hG.sub.cells hc
   have hG1 := hG.skip tidy_lt (.cells [sv q.dir, iv q.band, iv q.least] 159) rfl
   obtain ⟨Hz, happ, hGz⟩ := hG1.app (P := Tryz.prog) (st := 154) (i := Tryz.t182) (new := [sv q.dir, iv q.band, iv q.least]) tidy_lt Tryz.underlying154 inf182 sz182i zo182 by182 (by omega) rfl (by omega) rfl rfl
   rw [show [sv q.dir, iv q.band, iv q.least] = q.cells from rfl, hsn] at hGz
   refine E.cond (t := true) (by simp [hil]) (fun _ => ?_) (fun h => by cases h)
   refine E.skip (E.seq ?_)
   refine E.block (E.seq (E.reg hr (by simp [-cellsA, -flat, hil, hf, hcx]; rfl) ?_))
   refine E.reg hr (by simp [-builtinA, happ]; rfl) ?_
   refine E.reg hr (by simp [hw]; rfl) ?_
   exact ⟨(i + 1, Hz, N + 1 + 1 + 1, N + 1 + 1), .keep rfl rfl rfl (by simp) (Sub.refl _), ⟨hil, hGz⟩, by dsimp only; omega⟩
 · have hil' : i = l.length := by omega
   subst hil'
   rw [List.take_length] at hG
   refine E.cond (t := false) (by simp) (fun h => by cases h) (fun _ => ?_)
   refine E.exit ?_
   refine E.seq (E.reg hr (by simp; rfl) ?_)
   refine E.ret ?_
   exact outK.ret rfl rfl (hG.fresh (Nat.le_refl _) (afL_rls _) fun ρ => rls_ren ρ _)
open Classical in
noncomputable def g92 (args : List Value) (H : Heap) (n : Nat) : R := match args with
 | [v] => if h : ∃ l, RulsV H v l ∧ l.length < 2147483648 then some (outS n (Classical.choose h).length, outSB n 182 3 (Classical.choose h).length (rlsL (Classical.choose h)) ++ H, n + 1) else none
 | _ => none
theorem g92_at {H : Heap} {n : Nat} {v : Value} {l : List Rul} (h : RulsV H v l) (hl : l.length < 2147483648) : g92 [v] H n = some (outS n l.length, outSB n 182 3 l.length (rlsL l) ++ H, n + 1) := by
 have he : ∃ l, RulsV H v l ∧ l.length < 2147483648 := ⟨l, h, hl⟩
 simp only [g92]
 rw [dif_pos he, (Classical.choose_spec he).1.one h]
theorem ok92 : EntOk Tryz.prog (92, g92) := by
 intro args H n v H' n' h
 simp only [g92] at h
 split at h
 · split at h
   · rename_i he
     injection h with h; injection h with e1 e2; injection e2 with e2 e3; subst e1 e2 e3
     exact w92 (Classical.choose_spec he).1 (Classical.choose_spec he).2
   · cases h
 · cases h
def RowW (H : Heap) (m : Nat) (Z : List ByteArray) : Prop := hget H m = some (.ext (Z.map sv) 9 1) ∨ hget H m = some (.row (Z.map sv) 1)
theorem used_rowW {H : Heap} {m : Nat} {Z : List ByteArray} (h : RowW H m Z) (k : Nat) (s : Nat) : usedA H 1 (some ⟨m, k, some 0⟩) s = Z.length - s := by
 rcases h with h | h <;> simp [usedA, h]
theorem slice_hiW {fr : Fr} {H : Heap} {n m L : Nat} {x y : Operand} {Z : List ByteArray} {i : Nat} (hg : RowW H m Z) (hi : i ≤ Z.length) (h0 : 0 < Z.length) (hx : evO Tryz.prog fr x = some (.slice (some ⟨m, 0, some 0⟩) L 0)) (hy : evO Tryz.prog fr y = some (iv i)) :
   opSlice Tryz.prog 102 x none (some y) none fr H n = some (.slice (some ⟨m, 0, some 0⟩) i 0, H, n) := by
 simp only [opSlice, hx, evI, hy, Tryz.underlying102, show szA Tryz.prog 9 = some 1 from by simp, used_rowW hg]
 simp [sliceA, boundA, hi, h0]
theorem RowW.frz {H : Heap} {m : Nat} {Z : List ByteArray} (h : RowW H m Z) : RowW (frzH H) m Z := by
 refine .inr ?_
 rw [hget_frz]
 rcases h with h | h <;> rw [h] <;> rfl
theorem RowW.mono {H H' : Heap} (hs : Sub H H') {m : Nat} {Z : List ByteArray} (h : RowW H m Z) : RowW H' m Z := h.imp (hs _ _) (hs _ _)
theorem RowW.cells {H : Heap} {m k : Nat} {Z : List ByteArray} (h : RowW H m Z) (hk : k ≤ Z.length) : cellsA H m 0 k = some ((Z.take k).map sv) := by
 rcases h with h | h <;> rw [cellsA_eq, h] <;> simp [cellsB, List.map_take] <;> omega
theorem strsOf_map : ∀ l : List ByteArray, strsOf (l.map sv) = some l
 | [] => rfl
 | x :: l => by
   show (strsOf (l.map sv)).map (x :: ·) = _
   rw [strsOf_map l]
   rfl
theorem RowW.strs {H : Heap} {m k : Nat} {Z : List ByteArray} (h : RowW H m Z) (hk : k ≤ Z.length) (hl : Z.length < 2147483648) : strsAt H ⟨m, 0, some 0⟩ k = some (Z.take k) := by
 unfold strsAt
 rw [h.cells hk, if_pos (by simp [flat]; omega), Option.bind_some, strsOf_map]
def dropC (l : List Gun) (ws : List ByteArray) (i : Nat) : Int := match ws[i]? with
 | some s => firstV [whenV (decide (atV l s l.length < 0)) 10, whenV (hasW s (ws.take i)) 9]
 | none => 0
def dropE (l : List Gun) (ws : List ByteArray) : Int := firstV ((List.range ws.length).map (dropC l ws))
theorem dropC_at {l : List Gun} {ws : List ByteArray} {i : Nat} (h : i < ws.length) : dropC l ws i = firstV [whenV (decide (atV l ws[i] l.length < 0)) 10, whenV (hasW ws[i] (ws.take i)) 9] := by
 unfold dropC
 rw [List.getElem?_eq_getElem h]
theorem GunsAt.frzA {H : Heap} {v : Value} {l : List Gun} (h : GunsAt H v l) : GunsAt (frzH H) v l := by
 obtain ⟨a, c, e, h1, h2, h3⟩ := h
 exact ⟨a, c, e, h1, by rw [cellsA_frz]; exact h2, h3⟩
set_option maxRecDepth 20000 in
set_option maxHeartbeats 1000000 in
theorem w159 {H : Heap} {n b : Nat} {v : Value} {l : List Gun} {ws : List ByteArray} (hG : GunsAt H v l) (hW : RowW H b ws) (h0 : 0 < ws.length) (hlt : ws.length < 2147483648) : AC Tryz.prog 159 [.agg ⟨[v]⟩, .slice (some ⟨b, 0, some 0⟩) ws.length 0] H n (iv (dropE l ws)) H n := by
 refine AC.given fun hold hsc hgn => AC.tidied (B := []) (by simp) ?_
 have hlt0 := fun k b h => (hold k b h).1
 replace hG := hG.tidy hlt0
 have hbn : b < n := by rcases hW with h | h <;> exact hlt0 _ _ h
 replace hW : RowW (tidy n H) b ws := hW.imp (fun h => hget_tidy.2 ⟨h, hbn, rfl⟩) (fun h => hget_tidy.2 ⟨h, hbn, rfl⟩)
 have hr := recT_ok (P := Tryz.prog) (l := [(122, g122), (114, g114), (161, g161), (113, g113)]) (by simp only [List.forall_mem_cons]; exact ⟨ok122, ok114, ok161, ok113, by simp⟩)
 obtain ⟨ga, gc, rfl, hgf, hgc, hg0, hg31⟩ := hG
 obtain ⟨X0, hX0⟩ : ∃ X0, (n, Blk.cells [.slice (some ga) l.length gc] 32) :: tidy n H = X0 := ⟨_, rfl⟩
 have hS0 : Sub (tidy n H) X0 := by rw [← hX0]; exact Sub.cons (by simp) (Sub.refl _)
 have hnm : namesOk (n + 1) X0 = true := by rw [← hX0]; exact namesOk_put (by omega) (namesOk_mono (by omega) _ namesOk_tidy)
 have hpl : plainH X0 = true := by rw [← hX0]; simp [plainH, plainB2]
 have hb0 : cellA X0 n 0 = some (.slice (some ga) l.length gc) := by rw [← hX0, cellA_cons, if_pos rfl]; rfl
 have hWx : RowW X0 b ws := hW.mono hS0
 have hWf := hWx.frz
 have htk := takeNew_frz hnm
 have hbx : b < n + 1 := by omega
 refine AC.pure Tryz.func159 rfl (by kernel_rfl) rfl [1, 2, 8, 9, 10] rfl ?_
 refine E.seq (E.reg hr (by simp; rfl) ?_)
 rw [hX0]
 refine E.seq (E.seq (E.reg hr (by simp; rfl) ?_))
 refine E.block (E.loop ?_)
 refine EL.ind (fun x : Nat × Heap × Nat => { fr := [(1, .slice (some ⟨b, 0, some 0⟩) ws.length 0), (2, .pointer (some ⟨n, 0, none⟩)), (8, .slice (some ⟨b, 0, some 0⟩) ws.length 0), (9, iv ws.length), (10, iv x.1)], sz := 33, H := x.2.1, n := x.2.2, marks := [], vs := [1, 2, 8, 9, 10] }) (fun x => ws.length - x.1) (fun x => x.1 ≤ ws.length ∧ (∀ j, j < x.1 → dropC l ws j = 0) ∧ Sub X0 x.2.1 ∧ n < x.2.2 ∧ namesOk x.2.2 x.2.1 = true ∧ plainH x.2.1 = true) (0, X0, n + 1) (.keep rfl rfl rfl (by simp) (Sub.refl _)) ⟨Nat.zero_le _, fun j hj => by omega, Sub.refl _, Nat.lt_succ_self _, hnm, hpl⟩ (fun _ => rfl) ?_
 rintro ⟨i, Z, N⟩ ⟨hi, hz, hSZ, hNn, hnZ, hpZ⟩
 dsimp only at hi hz hSZ hNn hnZ hpZ ⊢
 have hw : IntKind.i64.wrap ((i : Int) + 1) = (i : Int) + 1 := W_in (by omega) (by omega)
 refine E.seq (E.reg hr (by simp; rfl) ?_)
 refine E.seq ?_
 by_cases hil : i < ws.length
 · have hilI : (i : Int) < ws.length := by omega
   have hWz : RowW Z b ws := hW.mono (hS0.trans hSZ)
   have hWzf := hWz.frz
   have hcw : cellA Z b i = some (sv ws[i]) := by
     rcases hWz with h | h <;> rw [cellA_eq, h] <;> simp [cellB, List.getElem?_map, List.getElem?_eq_getElem hil]
   have hbz := hSZ.cell hb0
   have hGz : GunsAt Z (.slice (some ga) l.length gc) l := ⟨ga, gc, rfl, hgf, hSZ.cells (hS0.cells hgc), hg0, hg31⟩
   have hGzf : gunsAt (frzH Z) ga l.length = some l := GunsAt.at (GunsAt.frzA hGz)
   have htz := takeNew_frz hnZ
   obtain ⟨s, hs⟩ : ∃ s, ws[i] = s := ⟨_, rfl⟩
   have hC := dropC_at (l := l) hil
   rw [hs] at hcw hC
   obtain ⟨q, hq⟩ : ∃ q, atV l s l.length = q := ⟨_, rfl⟩
   obtain ⟨hb, hhb⟩ : ∃ z, hasW s (ws.take i) = z := ⟨_, rfl⟩
   rw [hq, hhb] at hC
   have h122 : ∀ m, g122 [.slice (some ga) l.length gc, sv s] (frzH Z) m = some (iv q, frzH Z, m) := fun m => by
     simp only [g122, hGzf, Option.map_some, hq]
   have h161 : ∀ m, g161 [.slice (some ⟨b, 0, some 0⟩) i 0, sv s] (frzH Z) m = some (.bool hb, frzH Z, m) := fun m => by
     simp only [g161, hWzf.strs (Nat.le_of_lt hil) hlt, Option.map_some, hhb]
   have h161z : ∀ m, g161 [.slice (some ⟨b, 0, some 0⟩) i 0, sv s] Z m = some (.bool hb, Z, m) := fun m => by
     simp only [g161, hWz.strs (Nat.le_of_lt hil) hlt, Option.map_some, hhb]
   have hib : i ≤ ws.length := hi
   obtain ⟨z, hzz⟩ : ∃ z, firstV [whenV (decide (q < 0)) 10, whenV hb 9] = z := ⟨_, rfl⟩
   have hnN : n < N := hNn
   have hbN : b < N := by omega
   have hnZ1 := namesOk_mono (Nat.le_succ N) _ hnZ
   have hWr : RowW (readA [b] Z) b ws := hWz.imp (fun h => by rw [hget_readA, if_pos (by simp [memN]), h]) (fun h => by rw [hget_readA, if_pos (by simp [memN]), h])
   refine E.cond (t := true) (by simp [hil]) (fun _ => ?_) (fun h => by cases h)
   refine E.skip (E.seq ?_)
   refine E.block (E.seq (E.reg hr (by simp [-cellA, hil, hilI, hcw]; rfl) ?_))
   refine E.seq (E.drawU mixed hr [10, 11, 12, 13] [3, 5, 10, 11, 12, 13] [1, 3, 5, 10, 11, 12, 13] (by kernel_rfl) (by simp [-cellA, -readA, cellA_read, hnZ, hnZ1, hpZ, htz, hnN, hbz, h122, h161z, g114, hbN, slice_hiW (L := ws.length) hWr hib h0, g113, intsAt, intsOf, hzz]; rfl) ?_)
   refine E.seq (E.reg hr (by simp; rfl) ?_)
   rw [hzz] at hC
   by_cases hz0 : z = 0
   · refine E.cond (t := false) (by simp [hz0]) (fun h => by cases h) (fun _ => ?_)
     refine E.skip (E.reg hr (by simp [hw]; rfl) ?_)
     exact ⟨(i + 1, (N, Blk.cells [iv (whenV (decide (q < 0)) 10), iv (whenV hb 9)] 27) :: Z, N + 1), .keep rfl rfl rfl (by simp) (Sub.refl _), ⟨hil, fun j hj => if e : j = i then by rw [e, hC, hz0] else hz j (by omega), hSZ.trans (Sub.cons (namesOk_none hnZ _ (Nat.le_refl _)) (Sub.refl _)), Nat.lt_succ_of_lt hNn, namesOk_put (Nat.lt_succ_self _) hnZ1, by simp [plainH, plainB2, hpZ]⟩, by dsimp only; omega⟩
   · have hd : dropE l ws = z := by rw [dropE, firstV_map_hit hil hz (by rw [hC]; exact hz0), hC]
     refine E.cond (t := true) (by simp [hz0]) (fun _ => ?_) (fun h => by cases h)
     refine E.seq (E.reg hr (by simp; rfl) ?_)
     refine E.ret ?_
     exact pureK.ret rfl rfl (by rw [hd]; rfl) (hS0.trans (hSZ.trans (Sub.cons (namesOk_none hnZ _ (Nat.le_refl _)) (Sub.refl _))))
 · have e : i = ws.length := by omega
   subst e
   have hd : dropE l ws = 0 := by rw [dropE, firstV_map_zero hz]
   refine E.cond (t := false) (by simp) (fun h => by cases h) (fun _ => ?_)
   refine E.exit ?_
   refine E.seq (E.reg hr (by simp; rfl) ?_)
   refine E.ret ?_
   exact pureK.ret rfl rfl (by rw [hd]; rfl) (hS0.trans hSZ)
theorem w159n {H : Heap} {n c : Nat} {oa : Option Addr} {v : Value} {l : List Gun} (_hG : GunsAt H v l) : AC Tryz.prog 159 [.agg ⟨[v]⟩, .slice oa 0 c] H n (iv 0) H n := by
 refine AC.given fun hold hsc hgn => AC.tidied (B := []) (by simp) ?_
 have hr := recT_ok (P := Tryz.prog) (l := []) (by simp)
 refine AC.pure Tryz.func159 rfl (by kernel_rfl) rfl [8, 9, 10] rfl ?_
 refine E.seq (E.reg hr (by simp; rfl) ?_)
 refine E.seq (E.seq (E.reg hr (by simp; rfl) ?_))
 refine E.block (E.loop ?_)
 refine EL.ind (fun _ : Nat => { fr := [(8, .slice oa 0 c), (9, iv 0), (10, iv 0)], sz := 33, H := (n, .cells [v] 32) :: tidy n H, n := n + 1, marks := [], vs := [8, 9, 10] }) (fun i => i) (fun i => i = 0) 0 (.keep rfl rfl rfl (by simp) (Sub.refl _)) rfl (fun _ => rfl) ?_
 rintro i rfl
 refine E.seq (E.reg hr (by simp; rfl) ?_)
 refine E.seq ?_
 refine E.cond (t := false) (by simp) (fun h => by cases h) (fun _ => ?_)
 refine E.exit ?_
 refine E.seq (E.reg hr (by simp; rfl) ?_)
 refine E.ret ?_
 exact pureK.ret rfl rfl rfl (Sub.cons (by simp) (Sub.refl _))
def OwnW (H : Heap) (v : Value) (ws : List ByteArray) : Prop := (∃ b, v = .slice (some ⟨b, 0, some 0⟩) ws.length 0 ∧ RowW H b ws ∧ 0 < ws.length ∧ ws.length < 2147483648) ∨ (ws = [] ∧ ∃ oa c, v = .slice oa 0 c)
theorem OwnW.mono {H H' : Heap} (hs : Sub H H') {v : Value} {ws : List ByteArray} (h : OwnW H v ws) : OwnW H' v ws := by
 rcases h with ⟨b, e, h1, h2⟩ | h
 · exact .inl ⟨b, e, h1.mono hs, h2⟩
 · exact .inr h
theorem RowW.one {H : Heap} {b : Nat} {l k : List ByteArray} (h : RowW H b l) (h' : RowW H b k) : l = k := by
 have e : ∀ {l k : List ByteArray}, l.map sv = k.map sv → l = k := fun {l k} h => by
   have := congrArg strsOf h
   rw [strsOf_map, strsOf_map] at this
   injection this
 rcases h with h | h <;> rcases h' with h' | h' <;> rw [h] at h'
 · injection h' with h'; injection h' with h1; exact e h1
 · injection h' with h'; cases h'
 · injection h' with h'; cases h'
 · injection h' with h'; injection h' with h1; exact e h1
theorem OwnW.one {H : Heap} {v : Value} {l k : List ByteArray} (h : OwnW H v l) (h' : OwnW H v k) : l = k := by
 rcases h with ⟨b, rfl, h1, h2, _⟩ | ⟨rfl, oa, c, rfl⟩
 · rcases h' with ⟨b', e, h1', _⟩ | ⟨rfl, oa, c, e⟩
   · injection e with e
     injection e with e
     injection e with e
     subst e
     exact h1.one h1'
   · injection e with _ e
     omega
 · rcases h' with ⟨b', e, _, h2', _⟩ | ⟨rfl, _⟩
   · injection e with _ e
     omega
   · rfl
open Classical in
noncomputable def g159 (args : List Value) (H : Heap) (n : Nat) : R := match args with
 | [.agg ⟨[v]⟩, u] => if h : ∃ p : List Gun × List ByteArray, GunsAt H v p.1 ∧ OwnW H u p.2 then some (iv (dropE (Classical.choose h).1 (Classical.choose h).2), H, n) else none
 | _ => none
theorem g159_at {H : Heap} {n : Nat} {v u : Value} {l : List Gun} {ws : List ByteArray} (hG : GunsAt H v l) (hW : OwnW H u ws) : g159 [.agg ⟨[v]⟩, u] H n = some (iv (dropE l ws), H, n) := by
 have he : ∃ p : List Gun × List ByteArray, GunsAt H v p.1 ∧ OwnW H u p.2 := ⟨(l, ws), hG, hW⟩
 simp only [g159]
 rw [dif_pos he, (Classical.choose_spec he).1.one hG, (Classical.choose_spec he).2.one hW]
theorem ok159 : EntOk Tryz.prog (159, g159) := by
 intro args H n v H' n' h
 simp only [g159] at h
 split at h
 · split at h
   · rename_i he
     injection h with h; injection h with e1 e2; injection e2 with e2 e3; subst e1 e2 e3
     obtain ⟨h1, h2⟩ := Classical.choose_spec he
     generalize Classical.choose he = p at h1 h2 ⊢
     obtain ⟨l, ws⟩ := p
     dsimp only at h1 h2 ⊢
     rcases h2 with ⟨b, rfl, h3, h4, h5⟩ | ⟨rfl, oa, c, rfl⟩
     · exact w159 h1 h3 h4 h5
     · exact w159n h1
   · cases h
 · cases h
theorem fresh_cells {n m k t : Nat} {cs : List Value} {H H1 : Heap} (haf : afL cs = true) (hm : n ≤ m) (hg : hget H1 m = some (.cells cs t)) (hs : Sub H H1) : Fresh n (n + 1) H (.slice (some ⟨n, 0, none⟩) k k) [(n, .cells cs t)] (.slice (some ⟨m, 0, none⟩) k k) H1 := by
 refine ⟨fun j => if j = n then m else j, fun j hj => if_neg (by omega), ?_, fun k b hk => ?_, fun j b k c hj hk _ => ?_, hs⟩
 · simp [Ab.ren]
 · rw [hget_cons] at hk
   split at hk
   · rename_i e; subst e; injection hk with hk; subst hk
     exact ⟨Nat.le_refl _, Nat.lt_succ_self _, by simpa using hm, by simp only [if_true, renB]; rw [renL_af _ _ haf]; exact hg, scL_af _ _ haf, trivial, rfl⟩
   · simp at hk
 · rw [hget_cons] at hj hk
   split at hj
   · split at hk
     · omega
     · simp at hk
   · simp at hj
theorem plainI {k : Nat} {b : Blk} (hb : plainB2 b = true) : ∀ {H : Heap}, plainH H = true → plainH (hset H k b) = true
 | [], _ => rfl
 | (j, c) :: H, h => by
   simp only [plainH, Bool.and_eq_true] at h
   unfold hset
   split
   · simp only [plainH, Bool.and_eq_true]
     exact ⟨hb, h.2⟩
   · simp only [plainH, Bool.and_eq_true]
     exact ⟨h.1, plainI hb h.2⟩
def sigF (b : Nat → Bool) (l : List Gun) (sh : List Int) (d : ByteArray) (W : Nat) : Nat → List Int
 | 0 => zeros W
 | i + 1 => if b i then addAll (sigF b l sh d W i) ((arrL d l).getD i 0) (vAt l i) (sh.getD i 0) else sigF b l sh d W i
@[simp] theorem sigF_length (b : Nat → Bool) (l : List Gun) (sh : List Int) (d : ByteArray) (W : Nat) : ∀ i, (sigF b l sh d W i).length = W
 | 0 => by simp [sigF]
 | i + 1 => by
   rw [sigF]
   split
   · simp [sigF_length b l sh d W i]
   · exact sigF_length b l sh d W i
structure FireOk (f : Nat) (cap : List Value) (K : Heap → Prop) (b : Nat → Bool) (L : Nat) : Prop where
 ok : ∀ (H : Heap) (n i : Nat), K H → i < L → AC Tryz.prog f (iv i :: cap) H n (.bool (b i)) H n
 mono : ∀ H H' : Heap, Sub H H' → K H → K H'
 tidy : ∀ (H : Heap) (n : Nat), (∀ k b, hget H k = some b → k < n) → K H → K (Ab.tidy n H)
open Classical in
noncomputable def gFire (cap : List Value) (K : Heap → Prop) (b : Nat → Bool) (L : Nat) (args : List Value) (H : Heap) (n : Nat) : R := match args with
 | .int .i64 i :: cs => if cs = cap ∧ K H ∧ 0 ≤ i ∧ i.toNat < L then some (.bool (b i.toNat), H, n) else none
 | _ => none
theorem okFire {f : Nat} {cap : List Value} {K : Heap → Prop} {b : Nat → Bool} {L : Nat} (h : FireOk f cap K b L) : EntOk Tryz.prog (f, gFire cap K b L) := by
 intro args H n v H' n' hh
 simp only [gFire] at hh
 split at hh
 · rename_i i cs
   split at hh
   · rename_i hc
     obtain ⟨rfl, h1, h2, h3⟩ := hc
     injection hh with hh; injection hh with e1 e2; injection e2 with e2 e3; subst e1 e2 e3
     obtain ⟨k, rfl⟩ := Int.eq_ofNat_of_zero_le h2
     exact h.ok H n k h1 h3
   · cases hh
 · cases hh
set_option maxRecDepth 20000 in
set_option maxHeartbeats 2000000 in
theorem w133F {H : Heap} {n f bsh W : Nat} {cap : Array Value} {K : Heap → Prop} {b : Nat → Bool} {v : Value} {l : List Gun} {sh : List Int} {d : ByteArray} {c : Nat} (hG : OwnG H v l) (hsv : intV H (.slice (some ⟨bsh, 0, some 0⟩) sh.length c) = some sh) (hF : FireOk f cap.toList K b l.length) (hK : K H) (hf1 : f ≠ 116) (hf2 : f ≠ 128) (hst : strE l = 0) (hd : hasW d dirs = true) (hsh : shE l sh = 0) (hW : 1 ≤ W ∧ W ≤ 64) :
   AC Tryz.prog 133 [.agg ⟨[v]⟩, .slice (some ⟨bsh, 0, some 0⟩) sh.length c, sv d, iv W, .func (.func f) #[] cap] H n (.slice (some ⟨n, 0, none⟩) W W) ([(n, .cells ((sigF b l sh d W l.length).map iv) 3)] ++ H) (n + 1) := by
 refine AC.given fun hold hsc hgn => AC.tidied (fun x hx => by rw [List.mem_singleton] at hx; subst hx; exact Nat.le_refl _) ?_
 have hlt0 := fun k b h => (hold k b h).1
 replace hG := hG.tidy hlt0
 replace hsv : intV (tidy n H) (.slice (some ⟨bsh, 0, some 0⟩) sh.length c) = some sh := listV_tidy decI_tidy hlt0 hsv
 replace hK := hF.tidy H n hlt0 hK
 have hr := recT_ok (P := Tryz.prog) (l := [(116, g116), (128, g128), (f, gFire cap.toList K b l.length)]) (by simp only [List.forall_mem_cons]; exact ⟨ok116, ok128, okFire hF, by simp⟩)
 obtain ⟨h1, h8⟩ := strE_len hst
 obtain ⟨hse, hsb⟩ := shE_zero hsh
 have hal := arrL_length d l
 obtain ⟨X0, hX0⟩ : ∃ X0, (n, Blk.cells [v] 32) :: tidy n H = X0 := ⟨_, rfl⟩
 have hS0 : Sub (tidy n H) X0 := by rw [← hX0]; exact Sub.cons (by simp) (Sub.refl _)
 have hnm0 : namesOk (n + 1) X0 = true := by rw [← hX0]; exact namesOk_put (by omega) (namesOk_mono (by omega) _ namesOk_tidy)
 have hpl0 : plainH X0 = true := by rw [← hX0]; simp [plainH, plainB2]
 have hb0 : hget X0 n = some (.cells [v] 32) := by rw [← hX0, hget_cons, if_pos rfl]
 have hb0' : cellsA X0 n 0 1 = some [v] := by rw [cellsA_eq, hb0]; rfl
 obtain ⟨X1, hX1⟩ : ∃ X1, (n + 1, Blk.cells (List.replicate W (iv 0)) 3) :: X0 = X1 := ⟨_, rfl⟩
 have hS1 : Sub X0 X1 := by rw [← hX1]; exact Sub.cons (namesOk_none hnm0 _ (Nat.le_refl _)) (Sub.refl _)
 have hnm1 : namesOk (n + 1 + 1) X1 = true := by rw [← hX1]; exact namesOk_put (by omega) (namesOk_mono (by omega) _ hnm0)
 have hpl1 : plainH X1 = true := by rw [← hX1]; simp [plainH, plainB2, hpl0]
 have hb1 : hget X1 (n + 1) = some (.cells ((zeros W).map iv) 3) := by
   rw [← hX1, hget_cons, if_pos rfl]
   simp [zeros]
 have h116 := (hG.mono (hS0.trans hS1)).arr (d := d) hst hd (n + 1 + 1)
 obtain ⟨X2, hX2⟩ : ∃ X2, (n + 1 + 1, Blk.ext ((arrL d l).map iv) 3 1) :: X1 = X2 := ⟨_, rfl⟩
 have hS2 : Sub X1 X2 := by rw [← hX2]; exact Sub.cons (namesOk_none hnm1 _ (Nat.le_refl _)) (Sub.refl _)
 have hnm2 : namesOk (n + 1 + 1 + 1) X2 = true := by rw [← hX2]; exact namesOk_put (by omega) (namesOk_mono (by omega) _ hnm1)
 have hpl2 : plainH X2 = true := by rw [← hX2]; simp [plainH, plainB2, hpl1]
 have hb2 : hget X2 (n + 1 + 1) = some (.ext ((arrL d l).map iv) 3 1) := by rw [← hX2, hget_cons, if_pos rfl]
 rw [hX2] at h116
 have hS02 := hS0.trans (hS1.trans hS2)
 obtain ⟨al, hal2⟩ : ∃ al, (arrL d l).length = al := ⟨_, rfl⟩
 rw [hal2] at h116
 refine AC.fresh Tryz.func133 rfl (by kernel_rfl) rfl [1, 4, 5, 11, 18, 19, 20] (by omega) (show n < n + 1 by omega) (fun ρ => rfl) ?_
 refine E.seq (E.reg hr (by simp; rfl) ?_)
 rw [hX0]
 refine E.seq (E.reg hr (by simp [mk45 (w := (W : Int)) (by omega) (by omega)]; rfl) ?_)
 rw [hX1]
 refine E.seq (E.seq (E.reg hr (by simp [-cellsA, hS1.cells hb0', h116]; rfl) ?_))
 refine E.block (E.loop ?_)
 refine EL.ind (fun x : Nat × Heap => { fr := [(1, .slice (some ⟨bsh, 0, some 0⟩) sh.length c), (4, .func (.func f) #[] cap), (5, .pointer (some ⟨n, 0, none⟩)), (11, .slice (some ⟨n + 1, 0, none⟩) W W), (18, .slice (some ⟨n + 1 + 1, 0, some 0⟩) al 0), (19, iv al), (20, iv x.1)], sz := 43, H := x.2, n := n + 1 + 1 + 1, marks := [], vs := [1, 4, 5, 11, 18, 19, 20] }) (fun x => al - x.1) (fun x => x.1 ≤ al ∧ (∀ k b, k ≠ n + 1 → hget X2 k = some b → hget x.2 k = some b) ∧ hget x.2 (n + 1) = some (.cells ((sigF b l sh d W x.1).map iv) 3) ∧ namesOk (n + 1 + 1 + 1) x.2 = true ∧ plainH x.2 = true) (0, X2) (.keep rfl rfl rfl (by simp) (Sub.refl _)) ⟨Nat.zero_le _, fun _ _ _ h => h, hS2 _ _ hb1, hnm2, hpl2⟩ (fun _ => rfl) ?_
 rintro ⟨i, Z⟩ ⟨hi, hkZ, hbZ, hnZ, hpZ⟩
 dsimp only at hi hkZ hbZ hnZ hpZ ⊢
 have hal8 : al = l.length := by rw [← hal2, hal]
 have hwi : IntKind.i64.wrap ((i : Int) + 1) = (i : Int) + 1 := W_in (by omega) (by omega)
 have hTZ : Sub (tidy n H) Z := fun k b hk => hkZ k b (by have := tidy_lt k b hk; omega) (hS02 _ _ hk)
 refine E.seq (E.reg hr (by simp; rfl) ?_)
 refine E.seq ?_
 by_cases hil : i < al
 · have hilI : (i : Int) < al := by omega
   have hil' : i < l.length := by omega
   have his : i < sh.length := by omega
   have hisI : (i : Int) < sh.length := by omega
   have hilJ : (i : Int) < l.length := by omega
   have hia : i < (arrL d l).length := by omega
   have hab := arrL_bounds hst d _ (List.getElem_mem hia)
   have hca : cellA Z (n + 1 + 1) i = some (iv (arrL d l)[i]) := by
     rw [cellA_eq, hkZ _ _ (by omega) hb2]
     simp [cellB, List.getElem?_map, List.getElem?_eq_getElem hia]
   obtain ⟨a, ha⟩ : ∃ a, (arrL d l)[i] = a := ⟨_, rfl⟩
   rw [ha] at hca hab
   have hfire : ∀ m, gFire cap.toList K b l.length (iv i :: cap.toList) Z m = some (.bool (b i), Z, m) := fun m => by
     simp only [gFire]
     rw [if_pos ⟨rfl, hF.mono _ _ hTZ hK, by omega, by simpa using hil'⟩]
     rfl
   have hgF : (116 = f) = False := eq_false fun e => hf1 e.symm
   have hgF2 : (128 = f) = False := eq_false fun e => hf2 e.symm
   refine E.cond (t := true) (by simp [hil]) (fun _ => ?_) (fun h => by cases h)
   refine E.skip (E.seq ?_)
   refine E.block (E.seq (E.reg hr (by simp [-cellA, hil, hilI, hca]; rfl) ?_))
   refine E.seq (E.reg hr (by simp [run_vcall_tmp, vcallF, target, hgF, hgF2, hfire]; rfl) ?_)
   cases hbi : b i with
   | false =>
     refine E.cond (t := false) (by simp) (fun h => by cases h) (fun _ => ?_)
     refine E.skip (E.reg hr (by simp [hwi]; rfl) ?_)
     refine ⟨(i + 1, Z), .keep rfl rfl rfl (by simp) (Sub.refl _), ⟨hil, hkZ, ?_, hnZ, hpZ⟩, by dsimp only; omega⟩
     simp only [sigF, hbi]
     exact hbZ
   | true =>
     obtain ⟨ob, hov, hrow, hgl0, hgl1⟩ := hG
     subst hov
     have hob : ob < n := by rcases hrow with h | h <;> exact tidy_lt _ _ h
     have hgv : cellA Z ob (i * 7 + 1) = some (iv l[i].v) := by
       have h1 := hTZ.cells (OwnG.gun ⟨ob, rfl, hrow, hgl0, hgl1⟩ hil')
       have h2 := (cellsA_cell h1 (i := 1) (by omega)).1
       exact h2
     have hbsh : cellA Z bsh i = some (iv sh[i]) := by
       obtain ⟨oa, cc, e1, _, _, h3⟩ := intV_form hsv
       obtain ⟨a', e2, _, e4⟩ := h3 i his
       injection e1 with e1
       rw [← e1] at e2
       injection e2 with e2
       subst e2
       have := hTZ.cell e4
       rwa [show (0 : Nat) + i = i by omega] at this
     have hbshn : bsh < n := by
       obtain ⟨oa, cc, e1, _, _, h3⟩ := intV_form hsv
       obtain ⟨a', e2, _, e4⟩ := h3 i his
       injection e1 with e1
       rw [← e1] at e2
       injection e2 with e2
       subst e2
       exact cellA_lt (fun k b h => tidy_lt k b h) e4
     obtain ⟨hvb, _, _, _, hlo, hhi⟩ := gun_nums hst l[i] (List.getElem_mem hil')
     have hsi := hsb i hil' his
     have hbz0 : cellA Z n 0 = some (.slice (some ⟨ob, 0, some 0⟩) l.length 0) := by
       rw [cellA_eq, hkZ _ _ (by omega) (hS2 _ _ (hS1 _ _ hb0))]
       rfl
     obtain ⟨S, hS⟩ : ∃ S, sigF b l sh d W i = S := ⟨_, rfl⟩
     rw [hS] at hbZ
     have hSl : S.length = W := by rw [← hS]; simp
     obtain ⟨q, hq⟩ : ∃ q, l[i].v = q := ⟨_, rfl⟩
     obtain ⟨s, hs⟩ : ∃ s, sh[i] = s := ⟨_, rfl⟩
     rw [hq] at hgv hvb
     rw [hs] at hbsh hsi
     obtain ⟨Zn, hZn⟩ : ∃ Zn, hset Z (n + 1) (.cells ((addAll S a q s).map iv) 3) = Zn := ⟨_, rfl⟩
     have h128 : ∀ m, g128 [.slice (some ⟨n + 1, 0, none⟩) W W, iv a, iv q, iv s] Z m = some (.tuple #[], Zn, m) := fun m => by
       simp only [g128, hbZ, intsOf_iv]
       rw [if_pos ⟨hSl.symm, by omega, by omega, hvb, by omega⟩, hZn]
     have hnn : namesOk (n + 1 + 1 + 1) Zn = true := by rw [← hZn]; exact namesOk_hset hnZ
     have hx1 : n < n + 1 + 1 + 1 := by omega
     have hx2 : ob < n + 1 + 1 + 1 := by omega
     have hx3 : bsh < n + 1 + 1 + 1 := by omega
     refine E.cond (t := true) (by simp) (fun _ => ?_) (fun h => by cases h)
     refine E.drawU mixed hr [12] [12] [3, 7, 11, 12] (by kernel_rfl) (by simp [-cellA, -readA, cellA_read, hnZ, hx1, hx2, hx3, hbz0, hgv, hbsh, hisI, hilJ, h128, hnn]; rfl) ?_
     refine E.reg hr (by simp [hwi]; rfl) ?_
     refine ⟨(i + 1, Zn), .keep rfl rfl rfl (by simp) (Sub.refl _), ⟨hil, fun k b' hk hb' => ?_, ?_, hnn, ?_⟩, by dsimp only; omega⟩
     · rw [← hZn, hget_set, if_neg (fun e => hk e.symm)]
       exact hkZ k b' hk hb'
     · rw [← hZn, hget_set, if_pos rfl, hbZ]
       simp only [sigF, hbi, if_true, hS, Option.map_some]
       rw [List.getD_eq_getElem?_getD, List.getElem?_eq_getElem hia, Option.getD_some, ha, getD_at his, hs, vAt_at hil', hq]
     · rw [← hZn]
       exact plainI rfl hpZ
 · have e : i = al := by omega
   subst e
   refine E.cond (t := false) (by simp) (fun h => by cases h) (fun _ => ?_)
   refine E.exit ?_
   refine E.seq (E.reg hr (by simp; rfl) ?_)
   refine E.ret ?_
   rw [hal8] at hbZ
   exact outK.ret rfl rfl (fresh_cells (m := n + 1) (afL_iv _) (by omega) hbZ hTZ)
theorem w210 {H : Heap} {n : Nat} (g : Gun) : AC Tryz.prog 210 [.agg ⟨g.cells⟩] H n (iv g.lo) H n := by
 refine AC.given fun hold hsc hgn => AC.tidied (B := []) (by simp) ?_
 have hr := recT_ok (P := Tryz.prog) (l := []) (by simp)
 refine AC.pure Tryz.func210 rfl (by kernel_rfl) rfl [1, 2] rfl ?_
 refine E.seq (E.reg hr (by simp; rfl) ?_)
 refine E.seq (E.reg hr (by simp; rfl) ?_)
 refine E.ret ?_
 exact pureK.ret rfl rfl (by simp) (Sub.cons (by simp) (Sub.refl _))
def g210 (args : List Value) (H : Heap) (n : Nat) : R := match args with
 | [.agg ⟨[.string _s, .int .i64 _v, .int .i64 _x, .int .i64 _y, .int .i64 _d, .int .i64 lo, .int .i64 _hi]⟩] => some (iv lo, H, n)
 | _ => none
theorem ok210 : EntOk Tryz.prog (210, g210) := by
 intro args H n v H' n' h
 simp only [g210] at h
 split at h
 · injection h with h; injection h with e1 e2; injection e2 with e2 e3; subst e1 e2 e3
   exact w210 ⟨_, _, _, _, _, _, _⟩
 · cases h
def lowL (l : List Gun) : List Value := l.flatMap fun b => [iv b.lo]
theorem lowL_eq (l : List Gun) : lowL l = (l.map Gun.lo).map iv := by
 induction l with
 | nil => rfl
 | cons b l ih => simp [lowL] at ih ⊢; exact ih
set_option maxRecDepth 20000 in
theorem w186L {H : Heap} {n : Nat} {v : Value} {l : List Gun} (hG0 : GunsAt H v l) : AC Tryz.prog 186 [v, .func (.func 210) #[] #[]] H n (outS n l.length) (outSB n 3 1 l.length (lowL l) ++ H) (n + 1) := by
 refine AC.given fun hold hsc hgn => AC.tidied (fun x hx => outSB_ge x hx) ?_
 replace hG0 := hG0.tidy fun k b h => (hold k b h).1
 have hr := recT_ok (P := Tryz.prog) (l := [(210, g210)]) (by simp [ok210])
 obtain ⟨a, c, rfl, hf, hgc, h0, hlt⟩ := hG0
 refine AC.grown Tryz.func186 rfl (by kernel_rfl) rfl [1, 5, 8, 9, 10] ?_
 refine E.seq (E.reg hr (by simp; rfl) ?_)
 refine E.seq (E.reg hr (by simp; rfl) ?_)
 refine E.seq (E.seq (E.reg hr (by simp; rfl) ?_))
 refine E.block (E.loop ?_)
 refine EL.ind (fun x : Nat × Heap × Nat × Nat => { fr := [(1, .func (.func 210) #[] #[]), (5, outS x.2.2.2 x.1), (8, .slice (some a) l.length c), (9, iv l.length), (10, iv x.1)], sz := 22, H := x.2.1, n := x.2.2.1, marks := [], vs := [1, 5, 8, 9, 10] }) (fun x => l.length - x.1) (fun x => x.1 ≤ l.length ∧ GL (tidy n H) n 3 1 (lowL (l.take x.1)) x.1 x.2.1 x.2.2.1 x.2.2.2) (0, tidy n H, n, n) (.keep rfl rfl rfl (by simp) (Sub.refl _)) ⟨Nat.zero_le _, by simpa [lowL] using GL.start (t := 3) (sz := 1) (Sub.refl (tidy n H)) namesOk_tidy (Nat.le_refl n) (by simp)⟩ (fun _ => rfl) ?_
 rintro ⟨i, Hx, N, o⟩ ⟨hi, hG⟩
 dsimp only at hi hG ⊢
 have hw : IntKind.i64.wrap ((i : Int) + 1) = (i : Int) + 1 := W_in (by omega) (by omega)
 refine E.seq (E.reg hr (by simp; rfl) ?_)
 refine E.seq ?_
 by_cases hil : i < l.length
 · have hc := cells_part (sz := 7) (i := i) hgc hil
   rw [gcs_atB hil] at hc
   have htk : l.take (i + 1) = l.take i ++ [l[i]] := List.take_succ_eq_append_getElem hil
   have hsn : lowL (l.take i) ++ [iv (l[i].lo)] = lowL (l.take (i + 1)) := by rw [htk]; unfold lowL; rw [List.flatMap_append]; rfl
   obtain ⟨q, hq⟩ : ∃ q, l[i] = q := ⟨_, rfl⟩
   rw [hq] at hc hsn
   have hfl : ∀ H m, g210 [.agg ⟨q.cells⟩] H m = some (iv q.lo, H, m) := fun _ _ => rfl
   have hcx := hG.sub.cells hc
   have hG1 := hG.skip tidy_lt (.cells q.cells 95) rfl
   obtain ⟨Hz, happ, hGz⟩ := hG1.app (P := Tryz.prog) (st := 45) (i := Tryz.t3) (new := [iv (q.lo)]) tidy_lt Tryz.underlying45 inf3 sz3i zo3 by3 (by omega) rfl (by omega) rfl rfl
   rw [hsn] at hGz
   refine E.cond (t := true) (by simp [hil]) (fun _ => ?_) (fun h => by cases h)
   refine E.skip (E.seq ?_)
   refine E.block (E.seq (E.reg hr (by simp [-cellsA, -flat, hil, hf, hcx]; rfl) ?_))
   refine E.reg hr (by simp [-builtinA, run_vcall_tmp, vcallF, target, hfl, happ]; rfl) ?_
   refine E.reg hr (by simp [hw]; rfl) ?_
   exact ⟨(i + 1, Hz, N + 1 + 1 + 1, N + 1 + 1), .keep rfl rfl rfl (by simp) (Sub.refl _), ⟨hil, hGz⟩, by dsimp only; omega⟩
 · have hil' : i = l.length := by omega
   subst hil'
   rw [List.take_length] at hG
   refine E.cond (t := false) (by simp) (fun h => by cases h) (fun _ => ?_)
   refine E.exit ?_
   refine E.seq (E.reg hr (by simp; rfl) ?_)
   refine E.ret ?_
   exact outK.ret rfl rfl (hG.fresh (Nat.le_refl _) (by rw [lowL_eq]; exact afL_iv _) fun ρ => by rw [lowL_eq]; exact ivs_ren ρ _)
open Classical in
noncomputable def g186L (args : List Value) (H : Heap) (n : Nat) : R := match args with
 | [v, .func (.func 210) ⟨[]⟩ ⟨[]⟩] => if h : ∃ l, GunsAt H v l then some (outS n (Classical.choose h).length, outSB n 3 1 (Classical.choose h).length (lowL (Classical.choose h)) ++ H, n + 1) else none
 | _ => none
theorem g186L_at {H : Heap} {n : Nat} {v : Value} {l : List Gun} (h : GunsAt H v l) : g186L [v, .func (.func 210) #[] #[]] H n = some (outS n l.length, outSB n 3 1 l.length (lowL l) ++ H, n + 1) := by
 have he : ∃ l, GunsAt H v l := ⟨l, h⟩
 simp only [g186L]
 rw [dif_pos he, (Classical.choose_spec he).one h]
theorem ok186L : EntOk Tryz.prog (186, g186L) := by
 intro args H n v H' n' h
 simp only [g186L] at h
 split at h
 · split at h
   · rename_i he
     injection h with h; injection h with e1 e2; injection e2 with e2 e3; subst e1 e2 e3
     exact w186L (Classical.choose_spec he)
   · cases h
 · cases h
end
end Go.Proofs.YtndlfijfjglkdaaGreatDoor
