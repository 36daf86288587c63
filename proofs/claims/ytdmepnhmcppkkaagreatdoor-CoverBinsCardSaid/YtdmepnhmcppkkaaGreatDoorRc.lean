/-
The law CoverBins holds for whatever it is handed (no condition but the row's own).
-/
import Derived.OpenShut
import Derived.ChangeSlices
import Derived.Test.YtdmepnhmcppkkaaGreatDoorRb
import Derived.Test.YtdmepnhmcppkkaaGreatDoorAf
import Derived.Test.YtdmepnhmcppkkaaGreatDoorFa
import Derived.Test.YtdmepnhmcppkkaaGreatDoorQa
/-
Contracts of functions that write old blocks and hand back a value that names old blocks; handed lists of texts of whatever length; lists of rows of several kinds.
-/
namespace Go.Ab
open Go
theorem AC.subV {P : Program} {f : FuncId} {args : List Value} {H : Heap} {n : Nat} {v : Value} {H1 : Heap} {n1 : Nat} {H2 : Heap} (h : AC P f args H n v H1 n1) (hv : sc (· < n) v)
   (hs : ∀ k b, hget H2 k = some b → hget H1 k = some b ∧ (hget H k = some b ∨ (k < n ∧ (∃ b0, hget H k = some b0) ∧ scB (fun _ => False) b))) : AC P f args H n v H2 n := by
 intro p φ w hB hsc
 have key : ∀ φ' w', Dn P p φ n (hget H) w v n1 (hget H1) φ' w' → den φ' v = den φ v ∧ Dn P p φ n (hget H) w v n (hget H2) φ w' := by
   intro φ' w' hd
   obtain ⟨hsm, hscv, hst⟩ := hd
   have hp : ∀ k b, hget H2 k = some b → p k ∧ scB p b := fun k b hk => by
     rcases (hs k b hk).2 with h | ⟨_, ⟨b0, h0⟩, h2⟩
     · exact hB.sm k b h
     · exact ⟨(hB.sm k b0 h0).1, scB_mono (fun _ h => h.elim) _ h2⟩
   have hagr : Agr p φ' φ := fun k hk => ⟨(hst.only k (.inl (hB.lt k hk))).1.symm, (hst.only k (.inl (hB.lt k hk))).2.symm⟩
   have hpv : sc p v := sc_mono (fun k hk => by
     rcases hk.1 with h | h
     · exact h
     · have := hk.2; omega) v (sc_and v hscv hv)
   refine ⟨(den_congr hagr v hpv).symm, fun k b hk => ⟨.inl (hp k b hk).1, scB_mono (fun _ h => .inl h) _ (hp k b hk).2⟩, sc_mono (fun _ h => .inl h) v hpv, Nat.le_refl _, fun _ _ => ⟨rfl, rfl⟩, ?_, fun k b hk ho => ?_, fun k b hk ho => ?_, hst.frm⟩
   · exact (hst.rel.sub fun k b hk => (hs k b hk).1).congr hp hagr hB.rel.glob
   · rcases hst.new k b (hs k b hk).1 ho with h | ⟨k0, b0, h1, h2, h3⟩
     · exact .inl (by rw [(hagr k (hp k b hk).1).1]; exact h)
     · exact .inr ⟨k0, b0, h1, h2, by rw [(hagr k (hp k b hk).1).1]; exact h3⟩
   · exact hst.inp k b (hs k b hk).1 ho
 rcases h p φ w hB hsc with ⟨h1, h2⟩ | ⟨φ', w', h1, h2⟩
 · refine .inl ⟨h1, CallsIn.mono h2 fun e w' hh => ?_⟩
   obtain ⟨φ', he, hd⟩ := hh
   obtain ⟨e1, e2⟩ := key φ' w' hd
   exact ⟨φ, by rw [he, e1], e2⟩
 · obtain ⟨e1, e2⟩ := key φ' w' h2
   exact .inr ⟨φ, w', by rw [h1, e1], e2⟩
theorem AC.wroteV {P : Program} {f : FuncId} {fn : Func} {c : Code} {args : List Value} {H H' : Heap} {n : Nat} {v : Value} (hf : P.funcs[f]? = some fn) (hb : fn.body = some c) (he : enterable P f = true) (hlen : Nat.ble args.length fn.ntmps = true) (vs : List Nat) (ha : af v = false) (hv : sc (· < n) v)
   (hw : ∀ k b, hget H' k = some b → k < n ∧ (hget H k = some b ∨ ((∃ b0, hget H k = some b0) ∧ scB (fun _ => False) b)))
   (h : E P n none c { fr := argsFr args 0, sz := fn.ntmps, H, n, marks := [], vs } (wroteK P fn H' v)) : AC P f args H n v H' n := by
 obtain ⟨e, st, hA, hen, hm, ⟨us, hus, hone⟩, hsub⟩ := h
 have hl : leaveF P fn args n st = some (v, st.H, st.n) := by
   unfold leaveF
   rw [hm]
   simp only [shutA, hus, hone, ha, Bool.false_and]
 refine (bodyAT_ok hf hb he (Nat.le_of_ble_eq_true hlen) hen (ATX.at hA) hl).subV hv fun k b hk => ⟨hsub k b hk, ?_⟩
 obtain ⟨h1, h2⟩ := hw k b hk
 rcases h2 with h2 | ⟨h2, h3⟩
 · exact .inl h2
 · exact .inr ⟨h1, h2, h3⟩
theorem plainH_hdel : ∀ {H : Heap} {k : Nat}, plainH H = true → plainH (hdel H k) = true
 | [], _, _ => rfl
 | (i, b) :: H, k, h => by
   simp only [plainH, Bool.and_eq_true] at h
   rw [hdel]
   split
   · exact plainH_hdel h.2
   · simp only [plainH, Bool.and_eq_true]
     exact ⟨h.1, plainH_hdel h.2⟩
/-! ### cells, one by one -/
theorem cellA_tidy {H : Heap} {n k o : Nat} (hl : ∀ k b, hget H k = some b → k < n) {v : Value} (h : cellA H k o = some v) : cellA (tidy n H) k o = some v := by
 rw [cellA_eq] at h ⊢
 cases hb : hget H k with
 | none => rw [hb] at h; cases h
 | some b =>
   rw [hb] at h
   have hp : plainB2 b = true := by
     cases b <;> first | rfl | cases h
   rw [hget_tidy.2 ⟨hb, hl k b hb, hp⟩]
   exact h
theorem list_all {cs : List Value} {o n : Nat} {f : Nat → Value} (h : ∀ i, i < n → cs[o + i]? = some (f i)) (hn : 0 < n) : o + n ≤ cs.length ∧ (cs.drop o).take n = (List.range n).map f := by
 have h1 := (List.getElem?_eq_some_iff.1 (h (n - 1) (by omega))).1
 refine ⟨by omega, ?_⟩
 apply List.ext_getElem?
 intro i
 by_cases hi : i < n
 · rw [List.getElem?_take, if_pos hi, List.getElem?_drop, h i hi, List.getElem?_map, List.getElem?_range hi]
   rfl
 · rw [List.getElem?_eq_none (by rw [List.length_take]; omega), List.getElem?_eq_none (by simp; omega)]
theorem cells_all {H : Heap} {k o n : Nat} {f : Nat → Value} (h : ∀ i, i < n → cellA H k (o + i) = some (f i)) (hn : 0 < n) : cellsA H k o n = some ((List.range n).map f) := by
 have h0 := h 0 hn
 rw [cellsA_eq]
 rw [cellA_eq] at h0
 cases hb : hget H k with
 | none => rw [hb] at h0; cases h0
 | some b =>
   have hg : ∀ i, i < n → cellB (o + i) b = some (f i) := fun i hi => by
     have := h i hi
     rw [cellA_eq, hb] at this
     exact this
   rw [Option.bind_some]
   cases b with
   | cells cs t =>
     obtain ⟨h1, h2⟩ := list_all (cs := cs) (o := o) hg hn
     simp only [cellsB, if_pos h1, h2]
   | ext cs t sz =>
     obtain ⟨h1, h2⟩ := list_all (cs := cs) (o := o) hg hn
     simp only [cellsB, if_pos h1, h2]
   | row cs sz =>
     obtain ⟨h1, h2⟩ := list_all (cs := cs) (o := o) hg hn
     simp only [cellsB, if_pos h1, h2]
   | inp o' cs =>
     have h3 : o' ≤ o := by
       have := hg 0 hn
       simp only [cellB] at this
       split at this
       · omega
       · cases this
     obtain ⟨h1, h2⟩ := list_all (cs := cs) (o := o - o') (f := f) (n := n) (fun i hi => by
       have := hg i hi
       simp only [cellB] at this
       rw [if_pos (by omega)] at this
       rwa [show o - o' + i = o + i - o' by omega]) hn
     have h4 : o' ≤ o ∧ o - o' + n ≤ cs.length := ⟨h3, h1⟩
     simp only [cellsB, if_pos h4, h2]
   | tab cs => cases (hg 0 hn)
   | map es cl => cases (hg 0 hn)
   | iter s p => cases (hg 0 hn)
   | miter m s se la => cases (hg 0 hn)
   | defd => cases (hg 0 hn)
   | loop => cases (hg 0 hn)
/-! ### texts in a row, rows in a row, of whatever length -/
def WdsV (H : Heap) (v : Value) (l : List ByteArray) : Prop := ∃ oa c, v = .slice oa l.length c ∧ l.length < 2 ^ 63 ∧ (oa = none → c = 0) ∧ ∀ i (hi : i < l.length), ∃ a, oa = some a ∧ flat a = true ∧ cellA H a.block (a.off + i) = some (.string l[i])
def StpV (H : Heap) (v : Value) (ls : List (List ByteArray)) : Prop := ∃ oa c, v = .slice oa ls.length c ∧ ls.length < 2 ^ 63 ∧ (oa = none → c = 0) ∧ ∀ i (hi : i < ls.length), ∃ a r, oa = some a ∧ flat a = true ∧ cellA H a.block (a.off + i) = some r ∧ WdsV H r ls[i]
theorem WdsV.mono {H H' : Heap} (hs : Sub H H') {v : Value} {l : List ByteArray} (h : WdsV H v l) : WdsV H' v l := by
 obtain ⟨oa, c, e, h1, h2, h3⟩ := h
 refine ⟨oa, c, e, h1, h2, fun i hi => ?_⟩
 obtain ⟨a, e1, e2, e3⟩ := h3 i hi
 exact ⟨a, e1, e2, hs.cell e3⟩
theorem WdsV.tidy {H : Heap} {n : Nat} (hl : ∀ k b, hget H k = some b → k < n) {v : Value} {l : List ByteArray} (h : WdsV H v l) : WdsV (Ab.tidy n H) v l := by
 obtain ⟨oa, c, e, h1, h2, h3⟩ := h
 refine ⟨oa, c, e, h1, h2, fun i hi => ?_⟩
 obtain ⟨a, e1, e2, e3⟩ := h3 i hi
 exact ⟨a, e1, e2, cellA_tidy hl e3⟩
theorem StpV.mono {H H' : Heap} (hs : Sub H H') {v : Value} {ls : List (List ByteArray)} (h : StpV H v ls) : StpV H' v ls := by
 obtain ⟨oa, c, e, h1, h2, h3⟩ := h
 refine ⟨oa, c, e, h1, h2, fun i hi => ?_⟩
 obtain ⟨a, r, e1, e2, e3, e4⟩ := h3 i hi
 exact ⟨a, r, e1, e2, hs.cell e3, e4.mono hs⟩
theorem StpV.tidy {H : Heap} {n : Nat} (hl : ∀ k b, hget H k = some b → k < n) {v : Value} {ls : List (List ByteArray)} (h : StpV H v ls) : StpV (Ab.tidy n H) v ls := by
 obtain ⟨oa, c, e, h1, h2, h3⟩ := h
 refine ⟨oa, c, e, h1, h2, fun i hi => ?_⟩
 obtain ⟨a, r, e1, e2, e3, e4⟩ := h3 i hi
 exact ⟨a, r, e1, e2, cellA_tidy hl e3, e4.tidy hl⟩
theorem WdsV.one {H : Heap} {v : Value} {l k : List ByteArray} (h : WdsV H v l) (h' : WdsV H v k) : l = k := by
 obtain ⟨oa, c, rfl, _, _, h3⟩ := h
 obtain ⟨oa', c', e, _, _, h3'⟩ := h'
 injection e with e1 e2 e3
 subst e1
 apply List.ext_getElem e2
 intro i h1 h2
 obtain ⟨a, f1, _, f3⟩ := h3 i h1
 obtain ⟨a', g1, _, g3⟩ := h3' i h2
 rw [f1] at g1
 injection g1 with g1
 subst g1
 rw [f3] at g3
 injection g3 with g3
 injection g3
theorem StpV.one {H : Heap} {v : Value} {l k : List (List ByteArray)} (h : StpV H v l) (h' : StpV H v k) : l = k := by
 obtain ⟨oa, c, rfl, _, _, h3⟩ := h
 obtain ⟨oa', c', e, _, _, h3'⟩ := h'
 injection e with e1 e2 e3
 subst e1
 apply List.ext_getElem e2
 intro i h1 h2
 obtain ⟨a, r, f1, _, f3, f4⟩ := h3 i h1
 obtain ⟨a', r', g1, _, g3, g4⟩ := h3' i h2
 rw [f1] at g1
 injection g1 with g1
 subst g1
 rw [f3] at g3
 injection g3 with g3
 subst g3
 exact f4.one g4
theorem WdsV.small {H : Heap} {v : Value} {l : List ByteArray} (h : WdsV H v l) (hl : l.length < 2147483648) : strV H v = some l := by
 obtain ⟨oa, c, rfl, _, h2, h3⟩ := h
 cases oa with
 | none =>
   have : l.length = 0 := by
     rcases Nat.eq_zero_or_pos l.length with h | h
     · exact h
     · obtain ⟨a, e, _⟩ := h3 0 h
       cases e
   rw [this, h2 rfl, List.length_eq_zero_iff.1 this]
   rfl
 | some a =>
   by_cases h0 : l.length = 0
   · rw [List.length_eq_zero_iff.1 h0]
     rfl
   · obtain ⟨a', e, hf, _⟩ := h3 0 (by omega)
     injection e with e
     subst e
     have hc : cellsA H a.block a.off l.length = some ((List.range l.length).map fun i => .string (l.getD i default)) := cells_all (fun i hi => by
       obtain ⟨a', e, _, e3⟩ := h3 i hi
       injection e with e
       subst e
       rw [e3, List.getD_eq_getElem?_getD, List.getElem?_eq_getElem hi]
       rfl) (by omega)
     refine listV_mk (cs := (List.range l.length).map fun i => .string (l.getD i default)) hf (by simpa using hc) (by simp) hl fun i v hv => ?_
     rw [List.getElem?_map] at hv
     by_cases hi : i < l.length
     · rw [List.getElem?_range hi] at hv
       injection hv with hv
       subst hv
       dsimp only
       rw [List.getD_eq_getElem?_getD, List.getElem?_eq_getElem hi]
       rfl
     · rw [List.getElem?_eq_none (by simp; omega)] at hv
       cases hv
abbrev nestS (H : Heap) (v : Value) : Option (List (List ByteArray)) := listV 1 (decL 1 decS) H v
theorem nestS_form {H : Heap} {v : Value} {l : List (List ByteArray)} (h : nestS H v = some l) :
   ∃ oa c, v = .slice oa l.length c ∧ l.length < 2147483648 ∧ (oa = none → c = 0) ∧ ∀ i (hi : i < l.length), ∃ a r, oa = some a ∧ flat a = true ∧ cellA H a.block (a.off + i) = some r ∧ strV H r = some l[i] := decL_form h
theorem StpV.small {H : Heap} {v : Value} {ls : List (List ByteArray)} (h : StpV H v ls) (hl : ls.length < 2147483648) (hr : ∀ l ∈ ls, l.length < 2147483648) : nestS H v = some ls := by
 obtain ⟨oa, c, rfl, _, h2, h3⟩ := h
 cases oa with
 | none =>
   have : ls.length = 0 := by
     rcases Nat.eq_zero_or_pos ls.length with h | h
     · exact h
     · obtain ⟨a, r, e, _⟩ := h3 0 h
       cases e
   rw [this, h2 rfl, List.length_eq_zero_iff.1 this]
   rfl
 | some a =>
   by_cases h0 : ls.length = 0
   · rw [List.length_eq_zero_iff.1 h0]
     rfl
   · obtain ⟨_, _, e, hf, _⟩ := h3 0 (by omega)
     injection e with e
     subst e
     have hg : ∀ i, i < ls.length → ∃ r, cellA H a.block (a.off + i) = some r ∧ decL 1 decS H [r] = ls[i]? := fun i hi => by
       obtain ⟨a', r, e, _, e3, e4⟩ := h3 i hi
       injection e with e
       subst e
       refine ⟨r, e3, ?_⟩
       rw [List.getElem?_eq_getElem hi]
       exact e4.small (hr _ (List.getElem_mem hi))
     have hc : cellsA H a.block a.off ls.length = some ((List.range ls.length).map fun i => (cellA H a.block (a.off + i)).getD default) := cells_all (fun i hi => by
       obtain ⟨r, e, _⟩ := hg i hi
       rw [e]
       rfl) (by omega)
     refine listV_mk (cs := (List.range ls.length).map fun i => (cellA H a.block (a.off + i)).getD default) hf (by simpa using hc) (by simp) hl fun i v hv => ?_
     rw [List.getElem?_map] at hv
     by_cases hi : i < ls.length
     · rw [List.getElem?_range hi] at hv
       injection hv with hv
       subst hv
       obtain ⟨r, e, e2⟩ := hg i hi
       dsimp only
       rw [e]
       exact e2
     · rw [List.getElem?_eq_none (by simp; omega)] at hv
       cases hv
end Go.Ab

/-
A list that is made by appends of one element of so many cells each, at a heap that is not named.
-/
namespace Go.Ab
open Go
def outS (o k : Nat) : Value := if k = 0 then .slice none 0 0 else .slice (some ⟨o, 0, some 0⟩) k 0
@[simp] theorem outS_nil {o : Nat} : outS o 0 = .slice none 0 0 := rfl
theorem outS_ne {o k : Nat} (h : k ≠ 0) : outS o k = .slice (some ⟨o, 0, some 0⟩) k 0 := if_neg h
def outSB (n t sz k : Nat) (cs : List Value) : Heap := if k = 0 then [] else [(n, .ext cs t sz)]
structure GL (L : Heap) (n t sz : Nat) (cs : List Value) (k : Nat) (Hx : Heap) (N o : Nat) : Prop where
 len : cs.length = k * sz
 out : k ≠ 0 → hget Hx o = some (.ext cs t sz) ∧ o < N
 sub : Sub L Hx
 nm : namesOk N Hx = true
 big : n ≤ N
 low : n ≤ o
 pl : plainH Hx = true
section
variable {L Hx : Heap} {n t sz k N o : Nat} {cs new : List Value}
theorem GL.start (hs : Sub L Hx) (hn : namesOk N Hx = true) (hb : n ≤ N) (hp : plainH Hx = true) : GL L n t sz [] 0 Hx N n :=
 ⟨by simp, fun h => absurd rfl h, hs, hn, hb, Nat.le_refl _, hp⟩
theorem GL.skip (hL : ∀ k b, hget L k = some b → k < n) (h : GL L n t sz cs k Hx N o) (b : Blk) (hp : plainB2 b = true) : GL L n t sz cs k ((N, b) :: Hx) (N + 1) o := by
 have hb := h.big
 refine ⟨h.len, fun hk => ?_, fun j b' hj => ?_, namesOk_put (by omega) (namesOk_mono (by omega) _ h.nm), by omega, h.low, by rw [plainH, hp, h.pl]; rfl⟩
 · obtain ⟨h1, h2⟩ := h.out hk
   rw [hget_cons, if_neg (by omega)]
   exact ⟨h1, by omega⟩
 · have := hL j b' hj
   rw [hget_cons, if_neg (by omega)]
   exact h.sub j b' hj
theorem GL.grow (hL : ∀ k b, hget L k = some b → k < n) (h : GL L n t sz cs k Hx N o) {cs' : List Value} {k' : Nat} (hl : cs'.length = k' * sz) : GL L n t sz cs' k' ((N, .ext cs' t sz) :: (if k = 0 then Hx else hdel Hx o)) (N + 1) N := by
 have hb := h.big
 have hlo := h.low
 have hg : ∀ j, j < n → hget (if k = 0 then Hx else hdel Hx o) j = hget Hx j := fun j hj => by
   split
   · rfl
   · rw [hget_hdel, if_neg (by omega)]
 have hn2 : namesOk N (if k = 0 then Hx else hdel Hx o) = true := by
   split
   · exact h.nm
   · exact namesOk_hdel h.nm
 have hp2 : plainH (if k = 0 then Hx else hdel Hx o) = true := by
   split
   · exact h.pl
   · exact plainH_hdel h.pl
 refine ⟨hl, fun _ => ⟨by rw [hget_cons, if_pos rfl], by omega⟩, fun j b hj => ?_, namesOk_put (by omega) (namesOk_mono (by omega) _ hn2), by omega, by omega, by simp [plainH, hp2]⟩
 have := hL j b hj
 rw [hget_cons, if_neg (by omega), hg j this]
 exact h.sub j b hj
theorem GL.app {P : Program} {st : TypeId} {i : TypeInfo} (hL : ∀ k b, hget L k = some b → k < n) (hu : P.underlying st = some (.slice t)) (hi : P.info? t = some i) (hsz : i.size = sz) (hz : zeroOk i = true) (hb : i.bytes ≤ 128) (h : GL L n t sz cs k Hx N o) (hk : k < 2147483647) (hnew : new.length = sz) (hs0 : 0 < sz) (hone : oneL new = true) (hpn : plainB2 (.cells new t) = true) :
   ∃ Hz, builtinA P .append #[st, st] ((N, .cells new t) :: Hx) (N + 1) [outS o k, .slice (some ⟨N, 0, none⟩) 1 1] = some (outS (N + 1) (k + 1), Hz, N + 1 + 1) ∧ GL L n t sz (cs ++ new) (k + 1) Hz (N + 1 + 1) (N + 1) := by
 have h2 := h.skip hL (.cells new t) hpn
 refine ⟨_, ?_, h2.grow hL (by rw [List.length_append, h.len, hnew, Nat.succ_mul])⟩
 have hc : cellsA ((N, .cells new t) :: Hx) N 0 (1 * sz) = some new := by
   rw [cellsA_eq, hget_cons, if_pos rfl]
   simp only [Option.bind_some, cellsB]
   rw [if_pos (by omega), List.drop_zero, List.take_of_length_le (by omega)]
 have hsm1 : smallA i.bytes 1 = true := by
   unfold smallA
   rw [Bool.and_eq_true]
   exact ⟨decide_eq_true (by omega), decide_eq_true (by omega)⟩
 have hsm : smallA i.bytes (k + 1) = true := by
   unfold smallA
   rw [Bool.and_eq_true]
   refine ⟨decide_eq_true ?_, decide_eq_true ?_⟩
   · have := Nat.mul_le_mul_left (k + 1) hb
     omega
   · omega
 have h1 : ¬ 1 * sz = 0 := by omega
 show appendA P #[st, st] _ _ _ _ = _
 unfold appendA
 have hnb : Nat.beq new.length (1 * sz) = true := by rw [hnew, Nat.one_mul, Nat.beq_refl]
 rw [outS_ne (Nat.succ_ne_zero k)]
 by_cases hk0 : k = 0
 · subst hk0
   simp only [outS_nil, List.getElem?_toArray, List.getElem?_cons_zero, List.getElem?_cons_succ, hu, hi, lenX, lenV, srcX, srcA, hsz, if_neg h1, flat_n, if_true, hc, hnb, hone, Bool.and_self]
   unfold appendTo
   have hcs : cs = [] := List.eq_nil_of_length_eq_zero (by rw [h.len, Nat.zero_mul])
   subst hcs
   simp only [and_self, if_true, Nat.one_ne_zero, if_false, hsm1, hz, Bool.and_self, hsz]
   rfl
 · obtain ⟨ho, _⟩ := h2.out hk0
   have hle : ¬ (k + 1) * sz ≤ cs.length := by rw [h.len, Nat.succ_mul]; omega
   have hle2 : k * sz ≤ cs.length := by rw [h.len]; omega
   have htk : cs.take (k * sz) = cs := List.take_of_length_le (by rw [h.len]; omega)
   rw [outS_ne hk0]
   simp only [List.getElem?_toArray, List.getElem?_cons_zero, List.getElem?_cons_succ, hu, hi, lenX, lenV, srcX, srcA, hsz, if_neg h1, flat_n, if_true, hc, hnb, hone, Bool.and_self]
   unfold appendTo
   simp only [ho, hsz, hle2, and_self, if_true, if_neg hle, hsm, hz, Bool.and_self, htk, if_neg hk0]
   rfl
theorem sc_outS {o k : Nat} {p : Nat → Prop} (h : p o) : sc p (outS o k) := by
 unfold outS
 split
 · trivial
 · exact h
theorem ren_outS {o m k : Nat} {ρ : Nat → Nat} (h : ρ o = m) : ren ρ (outS o k) = outS m k := by
 unfold outS
 split
 · rfl
 · simp [ren, h]
theorem GL.fresh {n0 : Nat} (h : GL L n t sz cs k Hx N o) (hn : n0 ≤ n) (haf : afL cs = true) (hren : ∀ ρ, renL ρ cs = cs) : Fresh n0 (n0 + 1) L (outS n0 k) (outSB n0 t sz k cs) (outS o k) Hx := by
 have hlo := h.low
 refine ⟨fun j => if j = n0 then o else j, fun j hj => if_neg (by omega), by rw [ren_outS (ρ := fun j => if j = n0 then o else j) (m := o) (by simp)], fun j b hj => ?_, fun j b j' c hj hj' _ => ?_, h.sub⟩
 · by_cases hk : k = 0
   · rw [outSB, if_pos hk] at hj; cases hj
   · rw [outSB, if_neg hk, hget_cons] at hj
     split at hj
     · rename_i e; subst e; injection hj with hj; subst hj
       refine ⟨Nat.le_refl _, Nat.lt_succ_self _, by simp; omega, ?_, scL_af _ _ haf, trivial, rfl⟩
       simp [renB, hren, (h.out hk).1]
     · cases hj
 · by_cases hk : k = 0
   · rw [outSB, if_pos hk] at hj; cases hj
   · rw [outSB, if_neg hk, hget_cons] at hj hj'
     split at hj
     · split at hj'
       · omega
       · cases hj'
     · cases hj
end
theorem AC.wider {P : Program} {f : FuncId} {args : List Value} {H : Heap} {n : Nat} {v : Value} (h : AC P f args H n v H n) (hr : v = Ab.ren id v) (hv : sc (· < n + 1) v) : AC P f args H n v H (n + 1) :=
 AC.given fun hold _ _ => h.ren id (fun _ _ => rfl) (by omega) hr hv (fun _ _ hk => .inl ⟨hk, hk⟩) fun j b k c hj hk h1 _ _ => absurd (hold j b h1).1 (by omega)
theorem AC.grown {P : Program} {f : FuncId} {fn : Func} {c : Code} {args : List Value} {H : Heap} {n t sz k : Nat} {cs : List Value} (hf : P.funcs[f]? = some fn) (hb : fn.body = some c) (he : enterable P f = true) (hlen : Nat.ble args.length fn.ntmps = true) (vs : List Nat)
   (h : E P n none c { fr := argsFr args 0, sz := fn.ntmps, H, n, marks := [], vs } (outK P fn (Fresh n (n + 1) H (outS n k) (outSB n t sz k cs)))) : AC P f args H n (outS n k) (outSB n t sz k cs ++ H) (n + 1) := by
 by_cases hk : k = 0
 · subst hk
   have h2 : AC P f args H n (.slice none 0 0) H n := AC.pure hf hb he hlen vs rfl (E.mono h fun e st hh => by
     obtain ⟨h1, h2, us, h3, ρ, _, h4, _, _, h5⟩ := hh
     exact ⟨h1, h2, ⟨us, h3, by rw [h4]; rfl⟩, h5⟩)
   exact h2.wider rfl trivial
 · exact AC.fresh hf hb he hlen vs (by omega) (sc_outS (by omega)) (fun ρ => by rw [outS_ne hk]; rfl) h
theorem AC.grownE {P : Program} {f : FuncId} {fn : Func} {c : Code} {args : List Value} {H : Heap} {n t sz k : Nat} {cs : List Value} {e : Int} (hf : P.funcs[f]? = some fn) (hb : fn.body = some c) (he : enterable P f = true) (hlen : Nat.ble args.length fn.ntmps = true) (vs : List Nat)
   (h : E P n none c { fr := argsFr args 0, sz := fn.ntmps, H, n, marks := [], vs } (outK P fn (Fresh n (n + 1) H (.tuple #[outS n k, .int .i64 e]) (outSB n t sz k cs)))) : AC P f args H n (.tuple #[outS n k, .int .i64 e]) (outSB n t sz k cs ++ H) (n + 1) := by
 by_cases hk : k = 0
 · subst hk
   have h2 : AC P f args H n (.tuple #[.slice none 0 0, .int .i64 e]) H n := AC.pure hf hb he hlen vs rfl (E.mono h fun e st hh => by
     obtain ⟨h1, h2, us, h3, ρ, _, h4, _, _, h5⟩ := hh
     exact ⟨h1, h2, ⟨us, h3, by rw [h4]; rfl⟩, h5⟩)
   exact h2.wider rfl ⟨trivial, trivial, trivial⟩
 · exact AC.fresh hf hb he hlen vs (by omega) ⟨sc_outS (by omega), trivial, trivial⟩ (fun ρ => by rw [outS_ne hk]; rfl) h
theorem fresh_none {n t sz : Nat} {H H1 : Heap} {cs : List Value} (hs : Sub H H1) : Fresh n (n + 1) H (outS n 0) (outSB n t sz 0 cs) (.slice none 0 0) H1 :=
 ⟨id, fun _ _ => rfl, rfl, fun k b hk => (by cases hk), fun j b k c hj _ _ => (by cases hj), hs⟩
theorem outSB_ge {n t sz k : Nat} {cs : List Value} : ∀ x ∈ outSB n t sz k cs, n ≤ x.1 := fun x hx => by
 unfold outSB at hx
 split at hx
 · cases hx
 · rw [List.mem_singleton] at hx; subst hx; exact Nat.le_refl _
theorem Fresh.lower {n n2 : Nat} {H H' B H1 : Heap} {v u : Value} (h : Fresh n n2 H v B u H1) (hs : Sub H' H) : Fresh n n2 H' v B u H1 := by
 obtain ⟨ρ, h1, h2, h3, h4, h5⟩ := h
 exact ⟨ρ, h1, h2, h3, h4, fun k b hk => h5 k b (hs k b hk)⟩
theorem fresh_sb {n m t sz k : Nat} {cs : List Value} {H Z : Heap} (haf : afL cs = true) (hren : ∀ ρ, renL ρ cs = cs) (hm : n ≤ m) (hs : Sub H Z) (hZ : hget H m = none) : Fresh n (n + 1) H (outS n k) (outSB n t sz k cs) (outS m k) (outSB m t sz k cs ++ Z) := by
 by_cases hk : k = 0
 · subst hk
   exact fresh_none hs
 · have e : outSB m t sz k cs ++ Z = (m, .ext cs t sz) :: Z := by rw [outSB, if_neg hk]; rfl
   rw [e]
   refine ⟨fun j => if j = n then m else j, fun j hj => if_neg (by omega), by rw [ren_outS (ρ := fun j => if j = n then m else j) (m := m) (by simp)], fun j b hj => ?_, fun j b j' c hj hj' _ => ?_, fun j b hj => ?_⟩
   · rw [outSB, if_neg hk, hget_cons] at hj
     split at hj
     · rename_i e; subst e; injection hj with hj; subst hj
       refine ⟨Nat.le_refl _, Nat.lt_succ_self _, by simpa using hm, ?_, scL_af _ _ haf, trivial, rfl⟩
       simp [renB, hren]
     · cases hj
   · rw [outSB, if_neg hk, hget_cons] at hj hj'
     split at hj
     · split at hj'
       · omega
       · cases hj'
     · cases hj
   · rw [hget_cons, if_neg fun e => by rw [e] at hZ; rw [hZ] at hj; cases hj]
     exact hs j b hj
end Go.Ab

/-
Lists that lie cell by cell, read back.
-/
namespace Go.Ab
open Go
theorem flat_at {α : Type} {c : α → List Value} {sz : Nat} (hc : ∀ x, (c x).length = sz) : ∀ (l : List α) (i : Nat) (h : i < l.length), ((l.flatMap c).drop (i * sz)).take sz = c l[i]
 | x :: l, 0, _ => by
   simp only [Nat.zero_mul, List.drop_zero, List.flatMap_cons, List.getElem_cons_zero]
   exact List.take_left' (hc x)
 | x :: l, i + 1, h => by
   rw [Nat.succ_mul, Nat.add_comm, ← List.drop_drop, List.flatMap_cons, List.drop_left' (hc x)]
   exact flat_at hc l i (by simpa using h)
theorem flat_len {α : Type} {c : α → List Value} {sz : Nat} (hc : ∀ x, (c x).length = sz) : ∀ l : List α, (l.flatMap c).length = l.length * sz
 | [] => by simp
 | x :: l => by
   rw [List.flatMap_cons, List.length_append, hc, flat_len hc l, List.length_cons, Nat.succ_mul, Nat.add_comm]
theorem listV_flat {α : Type} {c : α → List Value} {sz : Nat} {dec : Dec α} (hc : ∀ x, (c x).length = sz) {H : Heap} (hd : ∀ x, dec H (c x) = some x) {a : Addr} {cap : Nat} {l : List α} (hf : flat a = true) (hcs : cellsA H a.block a.off (l.length * sz) = some (l.flatMap c)) (hlt : l.length < 2147483648) : listV sz dec H (.slice (some a) l.length cap) = some l := by
 show (if l.length < 2147483648 then _ else _) = _
 rw [if_pos hlt]
 by_cases h0 : l.length = 0
 · rw [if_pos h0, List.length_eq_zero_iff.1 h0]
 · rw [if_neg h0, if_pos hf, hcs]
   refine mapO_of (chunks_len _ _ _) fun i x hx => ?_
   by_cases hi : i < l.length
   · rw [chunks_get _ _ _ _ hi] at hx
     injection hx with hx
     rw [← hx, flat_at hc l i hi, hd, List.getElem?_eq_getElem hi]
   · rw [List.getElem?_eq_none (by rw [chunks_len]; omega)] at hx
     cases hx
theorem listV_outS {α : Type} {c : α → List Value} {sz t : Nat} {dec : Dec α} (hc : ∀ x, (c x).length = sz) (hd : ∀ H x, dec H (c x) = some x) {N : Nat} {Z : Heap} {l : List α} (hlt : l.length < 2147483648) : listV sz dec (outSB N t sz l.length (l.flatMap c) ++ Z) (outS N l.length) = some l := by
 by_cases h0 : l.length = 0
 · rw [List.length_eq_zero_iff.1 h0]; rfl
 · rw [outS_ne h0, outSB, if_neg h0]
   refine listV_flat hc (hd _) rfl ?_ hlt
   show cellsA ((N, .ext (l.flatMap c) t sz) :: Z) N 0 _ = _
   rw [cellsA_eq, hget_cons, if_pos rfl]
   simp only [Option.bind_some, cellsB]
   rw [if_pos (by rw [flat_len hc]; omega), List.drop_zero, List.take_of_length_le (by rw [flat_len hc]; omega)]
theorem GL.list {α : Type} {c : α → List Value} {sz t n N o : Nat} {L Hx : Heap} {dec : Dec α} {l : List α} (h : GL L n t sz (l.flatMap c) l.length Hx N o) (hc : ∀ x, (c x).length = sz) (hd : ∀ H x, dec H (c x) = some x) (hlt : l.length < 2147483648) : listV sz dec Hx (outS o l.length) = some l := by
 by_cases h0 : l.length = 0
 · rw [List.length_eq_zero_iff.1 h0]; rfl
 · rw [outS_ne h0]
   refine listV_flat hc (hd _) rfl ?_ hlt
   rw [cellsA_eq, (h.out h0).1]
   simp only [Option.bind_some, cellsB]
   rw [if_pos (by rw [flat_len hc]; omega), List.drop_zero, List.take_of_length_le (by rw [flat_len hc]; omega)]
theorem GL.sb {L Hx : Heap} {n t sz k N o t' sz' k' : Nat} {cs cs' : List Value} (hL : ∀ k b, hget L k = some b → k < n) (h : GL L n t sz cs k Hx N o) (hp : plainB2 (.ext cs' t' sz') = true) : GL L n t sz cs k (outSB N t' sz' k' cs' ++ Hx) (N + 1) o := by
 unfold outSB
 split
 · exact ⟨h.len, fun hk => ⟨(h.out hk).1, by have := (h.out hk).2; omega⟩, h.sub, namesOk_mono (by omega) _ h.nm, by have := h.big; omega, h.low, h.pl⟩
 · exact h.skip hL _ hp
end Go.Ab

namespace Go.Proofs.YtdmepnhmcppkkaaGreatDoor
open Go Go.Ab Go.Proofs
theorem W_intV {H : Heap} {v : Value} {l : List Int} (h : intsW H v = some l) : intV H v = some l := by
 unfold intsW at h
 split at h
 · injection h with h; subst h; rfl
 · obtain ⟨hf, hc, hlen, hlt⟩ := intsAt_ok h
   subst hlen
   refine listV_flat (c := fun z => [iv z]) (sz := 1) (fun _ => rfl) (fun _ => rfl) hf ?_ (by omega)
   rw [Nat.mul_one, hc, List.map_eq_flatMap]
 · cases h
theorem intsW_mono {H H' : Heap} (hs : Sub H H') {v : Value} {l : List Int} (h : intsW H v = some l) : intsW H' v = some l := by
 unfold intsW at h ⊢
 split at h
 · exact h
 · unfold intsAt at h ⊢
   split at h
   · rename_i hf
     rw [if_pos hf]
     rw [Option.bind_eq_some_iff] at h ⊢
     obtain ⟨cs, h1, h2⟩ := h
     exact ⟨cs, hs.cells h1, h2⟩
   · cases h
 · cases h
theorem intsOf_iv : ∀ l : List Int, intsOf (l.map iv) = some l
 | [] => rfl
 | a :: l => by simp [intsOf, intsOf_iv l]
def cpV (l : List Int) (n : Nat) : Value := if l = [] then .slice (some ⟨n, 0, none⟩) 0 0 else .slice (some ⟨n, 0, some 0⟩) l.length 0
def cpB (l : List Int) : Blk := if l = [] then .cells [] 3 else .ext (l.map iv) 3 1
theorem cp_plain (l : List Int) : plainB2 (cpB l) = true := by unfold cpB; split <;> rfl
theorem g33_at {H : Heap} {n : Nat} {fv : Value} {l : List Int} (h : intsW H fv = some l) (hl : l.length ≤ 4096) : g33 [fv] H n = some (cpV l n, (n, cpB l) :: H, n + 1) := by
 simp only [g33, h]
 unfold cpV cpB
 split
 · rfl
 · rfl
theorem cp_int {H : Heap} {n : Nat} {l : List Int} (hl : l.length ≤ 4096) : intsW ((n, cpB l) :: H) (cpV l n) = some l := by
 unfold cpV cpB
 by_cases h : l = []
 · subst h
   simp [intsW, intsAt, intsOf]
 · rw [if_neg h, if_neg h]
   unfold intsW intsAt
   dsimp only
   rw [if_pos (by simp [flat]; omega), cellsA_eq, hget_cons, if_pos rfl]
   simp only [Option.bind_some, cellsB]
   rw [if_pos (by simp), List.drop_zero, List.take_of_length_le (by simp), Option.bind_some, intsOf_iv]
theorem W_tidy {H : Heap} {n : Nat} (hold : ∀ k b, hget H k = some b → k < n ∧ scB (· < n) b) {v : Value} {l : List Int} (h : intsW H v = some l) : intsW (tidy n H) v = some l := by
 unfold intsW at h ⊢
 split at h
 · exact h
 · unfold intsAt at h ⊢
   split at h
   · rename_i hf
     rw [if_pos hf]
     rw [Option.bind_eq_some_iff] at h ⊢
     obtain ⟨cs, h1, h2⟩ := h
     exact ⟨cs, cellsA_tidy (fun k b hk => (hold k b hk).1) h1, h2⟩
   · cases h
 · cases h
theorem global_tidy {H : Heap} {n k o : Nat} {cs : List Value} (hn : 9 ≤ n) (hk : k < 9) (h0 : hget H k = some (.inp o cs)) : hget (tidy n H) k = some (.inp o cs) := hget_tidy.2 ⟨h0, by omega, rfl⟩
theorem awk {H X : Heap} (h2 : hget H 2 = some (.inp 0 powV)) (h0 : hget H 0 = some (.inp 0 stillV)) (hS : Sub H X) (q : Nat) : g18 [] X q = some (.bool true, X, q) := by
 simp only [g18]
 rw [if_pos ⟨rfl, hS _ _ h2, hS _ _ h0⟩]
abbrev grA (g : Gr) : Value := .agg #[iv g.ox, iv g.oy, iv g.w, iv g.h, iv g.c, iv g.r]
abbrev pcA (p : Pc) : Value := .agg #[iv p.sx, iv p.sy, iv p.rx, iv p.ry]
set_option maxRecDepth 50000 in
set_option maxHeartbeats 2000000 in
theorem w6e {H : Heap} {n k c : Nat} {oa : Option Addr} (g : Gr) (p : Pc) (h2 : hget H 2 = some (.inp 0 powV)) (h0 : hget H 0 = some (.inp 0 stillV)) (hgo : shGrid g = false ∨ 9 < k) : AC Tryz.prog 6 [grA g, .slice oa k c, pcA p] H n (.bool true) H n := by
 refine AC.given fun hold hsc hgn => AC.tidied (B := []) (by simp) ?_
 rw [gsz] at hgn
 replace h0 := global_tidy hgn (by omega) h0
 replace h2 := global_tidy hgn (by omega) h2
 have hr := recT_ok (P := Tryz.prog) (l := [(16, g16), (18, g18)]) (by simp [ok16, ok18])
 have hS : Sub (tidy n H) ((n + 1, .cells [iv p.sx, iv p.sy, iv p.rx, iv p.ry] 79) :: (n, .cells [iv g.ox, iv g.oy, iv g.w, iv g.h, iv g.c, iv g.r] 25) :: tidy n H) := Sub.cons (by simp) (Sub.cons (by simp) (Sub.refl _))
 have hA := awk h2 h0 hS
 refine AC.pure Tryz.func6 rfl (by kernel_rfl) rfl [] rfl ?_
 refine E.seq ?_
 refine E.reg hr (by simp; rfl) ?_ -- region 0
 refine E.seq (E.seq ?_)
 obtain ⟨b, hb⟩ : ∃ b, shGrid g = b := ⟨_, rfl⟩
 have hb' : shGrid ⟨g.ox, g.oy, g.w, g.h, g.c, g.r⟩ = b := hb
 cases b
 case' false => refine E.reg hr (by simp [oneF_guard, yieldedA, g16, hb']; rfl) ?_ -- region 1
 case' true =>
   have hk : 9 < k := by rcases hgo with h | h; · rw [hb] at h; cases h
                         · exact h
   have hk' : (9 : Int) < (k : Int) := by omega
   refine E.reg hr (by simp [oneF_guard, yieldedA, g16, hb', hk']; rfl) ?_ -- region 1
 all_goals
   refine E.cond (t := true) (by rfl) (fun _ => ?_) (fun h => by cases h)
   refine E.seq ?_
   refine E.reg hr (by simp [hA]; rfl) ?_ -- region 2
   refine E.ret ?_
   exact pureK.ret rfl rfl (by simp) hS
end Go.Proofs.YtdmepnhmcppkkaaGreatDoor

namespace Go.Proofs.YtdmepnhmcppkkaaGreatDoor
open Go Go.Ab Go.Proofs
theorem W_frz {H : Heap} {v : Value} {l : List Int} (h : intsW H v = some l) : intsW (frzH H) v = some l := by
 unfold intsW at h ⊢
 split at h
 · exact h
 · unfold intsAt at h ⊢
   split at h
   · rename_i hf
     rw [if_pos hf, cellsA_frz]
     exact h
   · cases h
 · cases h
set_option maxRecDepth 50000 in
set_option maxHeartbeats 4000000 in
theorem w6m {H : Heap} {n : Nat} {v : Value} {l : List Int} (g : Gr) (p : Pc) (h2 : hget H 2 = some (.inp 0 powV)) (h0 : hget H 0 = some (.inp 0 stillV)) (hg : shGrid g = true) (hl : l.length ≤ 9) (hW : intsW H v = some l) : AC Tryz.prog 6 [grA g, v, pcA p] H n (.bool true) H n := by
 refine AC.given fun hold hsc hgn => AC.tidied (B := []) (by simp) ?_
 rw [gsz] at hgn
 replace h0 := global_tidy hgn (by omega) h0
 replace h2 := global_tidy hgn (by omega) h2
 replace hW := W_tidy hold hW
 have hV := W_intV hW
 obtain ⟨oa, c, rfl, hlt, _, _⟩ := intV_form hV
 have hr := recT_ok (P := Tryz.prog) (l := [(16, g16), (18, g18), (48, g48), (33, g33), (49, g49), (20, g20), (51, g51), (50, g50), (52, g52), (53, g53), (54, g54)]) (by simp only [List.forall_mem_cons]; exact ⟨ok16, ok18, ok48, ok33, ok49, ok20, ok51, ok50, ok52, ok53, ok54, by simp⟩)
 have hk : ¬ (9 : Int) < (l.length : Int) := by omega
 have hg' : shGrid ⟨g.ox, g.oy, g.w, g.h, g.c, g.r⟩ = true := hg
 have eR : bnR ⟨g.ox, g.oy, g.w, g.h, g.c, g.r⟩ ⟨p.sx, p.sy, p.rx, p.ry⟩ = bnR g p := rfl
 have eE : bnE ⟨g.ox, g.oy, g.w, g.h, g.c, g.r⟩ ⟨p.sx, p.sy, p.rx, p.ry⟩ = bnE g p := rfl
 have kR : ckR l ⟨p.sx, p.sy, p.rx, p.ry⟩ = ckR l p := rfl
 have kE : ckE l ⟨p.sx, p.sy, p.rx, p.ry⟩ = ckE l p := rfl
 refine AC.pure Tryz.func6 rfl (by kernel_rfl) rfl [10, 14, 9, 8, 13, 7, 12, 11, 5, 1, 3] rfl ?_
 refine E.seq ?_
 refine E.reg hr (by simp; rfl) ?_ -- region 0
 refine E.seq (E.seq ?_)
 refine E.reg hr (by simp [oneF_guard, yieldedA, g16, hg', hk]; rfl) ?_ -- region 1
 refine E.cond (t := false) (by rfl) (fun h => by cases h) (fun _ => ?_)
 refine E.skip (E.seq ?_)
 refine E.reg hr (by simp [g48, eR, eE]; rfl) ?_ -- region 3
 refine E.seq ?_
 have hF : Sub (frzH (tidy n H)) ((n + 1, .inp 0 [iv p.sx, iv p.sy, iv p.rx, iv p.ry]) :: (n, .inp 0 [iv g.ox, iv g.oy, iv g.w, iv g.h, iv g.c, iv g.r]) :: frzH (tidy n H)) := Sub.cons (by simp [hget_frz]) (Sub.cons (by simp [hget_frz]) (Sub.refl _))
 have hWf : intsW (frzH (tidy n H)) (.slice oa l.length c) = some l := W_frz hW
 have h33 := g33_at (n := n + 2) (intsW_mono hF hWf) (by omega)
 obtain ⟨cv, hcv⟩ : ∃ cv, cpV l (n + 2) = cv := ⟨_, rfl⟩
 obtain ⟨cb, hcb⟩ : ∃ cb, cpB l = cb := ⟨_, rfl⟩
 have hci := W_intV (cp_int (n := n + 2) (H := (n + 1, .cells [iv p.sx, iv p.sy, iv p.rx, iv p.ry] 79) :: (n, .cells [iv g.ox, iv g.oy, iv g.w, iv g.h, iv g.c, iv g.r] 25) :: tidy n H) (l := l) (by omega))
 rw [hcv, hcb] at h33 hci
 refine E.drawU mixed hr [3] [1, 3] [1, 3] (by kernel_rfl) (by simp [Nat.add_assoc, h33, g49, hci, kR, kE]; rfl) ?_ -- region 4
 have hS : Sub (tidy n H) ((n + 2, cb) :: (n + 1, .cells [iv p.sx, iv p.sy, iv p.rx, iv p.ry] 79) :: (n, .cells [iv g.ox, iv g.oy, iv g.w, iv g.h, iv g.c, iv g.r] 25) :: tidy n H) := Sub.cons (by simp) (Sub.cons (by simp) (Sub.cons (by simp) (Sub.refl _)))
 have gE : griE ⟨g.ox, g.oy, g.w, g.h, g.c, g.r⟩ = griE g := rfl
 have pE : plcE ⟨p.sx, p.sy, p.rx, p.ry⟩ = plcE p := rfl
 have he1 : firstV [griE g, plcE p] = bnE g p := rfl
 have he2 : firstV [claE l, plcE p] = ckE l p := rfl
 refine E.seq ?_
 have hpl : plainB2 cb = true := by rw [← hcb]; exact cp_plain l
 obtain ⟨cf, hcf⟩ : ∃ cf, frz cb = cf := ⟨_, rfl⟩
 have hpc : ∀ (cs : List Value) t, plainB2 (.cells cs t) = true := fun _ _ => rfl
 have hfc : ∀ (cs : List Value) t, frz (.cells cs t) = .inp 0 cs := fun _ _ => rfl
 have hVf1 : ∀ b0 b1 b2 b3, intV ((n + 4, b3) :: (n + 3, b2) :: (n + 2, cf) :: (n + 1, b1) :: (n, b0) :: frzH (tidy n H)) (.slice oa l.length c) = some l := fun b0 b1 b2 b3 =>
   listV_mono decI_mono (Sub.cons (by simp [hget_frz]) (Sub.cons (by simp [hget_frz]) (Sub.cons (by simp [hget_frz]) (Sub.cons (by simp [hget_frz]) (Sub.cons (by simp [hget_frz]) (Sub.refl _)))))) (W_intV hWf)
 have hVf2 : ∀ b0 b1 b2, intV ((n + 3, b2) :: (n + 2, cf) :: (n + 1, b1) :: (n, b0) :: frzH (tidy n H)) (.slice oa l.length c) = some l := fun b0 b1 b2 =>
   listV_mono decI_mono (Sub.cons (by simp [hget_frz]) (Sub.cons (by simp [hget_frz]) (Sub.cons (by simp [hget_frz]) (Sub.cons (by simp [hget_frz]) (Sub.refl _))))) (W_intV hWf)
 refine E.drawU mixed hr [9, 10, 11] [1, 3, 4, 5, 7, 9, 10, 11] [0, 1, 3, 4, 5, 7, 9, 10, 11] (by kernel_rfl) (by simp [-plainB2, -frz, Nat.add_assoc, handA_nil, takeNew, hpl, hpc, hfc, hcf, hVf2, g20, g51, g50, g52, gE, pE, intsAt, intsOf, he1, he2]; rfl) ?_ -- region 5
 have hS5 : ∀ b0 b1 b2 b3 b4, Sub (tidy n H) ((n + 4, b4) :: (n + 3, b3) :: (n + 2, b2) :: (n + 1, b1) :: (n, b0) :: tidy n H) := fun b0 b1 b2 b3 b4 =>
   Sub.cons (by simp) (Sub.cons (by simp) (Sub.cons (by simp) (Sub.cons (by simp) (Sub.cons (by simp) (Sub.refl _)))))
 have hV5 : ∀ b0 b1 b2 b3 b4, intV ((n + 4, b4) :: (n + 3, b3) :: (n + 2, b2) :: (n + 1, b1) :: (n, b0) :: tidy n H) (.slice oa l.length c) = some l := fun b0 b1 b2 b3 b4 => listV_mono decI_mono (hS5 b0 b1 b2 b3 b4) hV
 have hA5 : ∀ b0 b1 b2 b3 b4 q, g18 [] ((n + 4, b4) :: (n + 3, b3) :: (n + 2, b2) :: (n + 1, b1) :: (n, b0) :: tidy n H) q = some (.bool true, (n + 4, b4) :: (n + 3, b3) :: (n + 2, b2) :: (n + 1, b1) :: (n, b0) :: tidy n H, q) := fun b0 b1 b2 b3 b4 q => awk h2 h0 (hS5 b0 b1 b2 b3 b4) q
 refine E.seq ?_
 refine E.reg hr (by simp; rfl) ?_ -- region 6
 refine E.seq (E.seq ?_)
 refine E.reg hr (by simp; rfl) ?_ -- region 7
 by_cases z1 : bnE g p = 0
 · have r1 : bnR g p = binV g p := by unfold bnR; rw [if_pos z1]
   obtain ⟨q0, q1⟩ := bnE_zero.1 z1
   have c1 : binV ⟨g.ox, g.oy, g.w, g.h, g.c, g.r⟩ ⟨p.sx, p.sy, p.rx, p.ry⟩ = binV g p := rfl
   refine E.cond (t := true) (by simp [z1]) (fun _ => ?_) (fun h => by cases h)
   refine E.reg hr (by simp [g53, q0, q1, c1]; rfl) ?_ -- region 8
   refine E.seq (E.seq ?_)
   refine E.reg hr (by simp; rfl) ?_ -- region 9
   by_cases z2 : ckE l p = 0
   · have r2 : ckR l p = clsV l p := by unfold ckR; rw [if_pos z2]
     have q2 := (ckE_zero.1 z2).2
     have c2 : clsV l ⟨p.sx, p.sy, p.rx, p.ry⟩ = clsV l p := rfl
     refine E.cond (t := true) (by simp [z2]) (fun _ => ?_) (fun h => by cases h)
     refine E.reg hr (by simp [g54, hV5, q2, c2]; rfl) ?_ -- region 10
     refine E.seq ?_
     refine E.reg hr (by simp [oneF_guard, yieldedA, hA5, r1, r2, z1, z2]; rfl) ?_ -- region 11
     refine E.ret ?_
     exact pureK.ret rfl rfl (by simp) (hS5 _ _ _ _ _)
   · have r2 : ckR l p = 0 := by unfold ckR; rw [if_neg z2]
     refine E.cond (t := false) (by simp [z2]) (fun h => by cases h) (fun _ => ?_)
     refine E.skip (E.seq ?_)
     refine E.reg hr (by simp [oneF_guard, yieldedA, hA5, r1, r2, z1, z2]; rfl) ?_ -- region 11
     refine E.ret ?_
     exact pureK.ret rfl rfl (by simp) (hS5 _ _ _ _ _)
 · have r1 : bnR g p = 0 := by unfold bnR; rw [if_neg z1]
   refine E.cond (t := false) (by simp [z1]) (fun h => by cases h) (fun _ => ?_)
   refine E.skip (E.seq ?_)
   refine E.seq ?_
   refine E.reg hr (by simp; rfl) ?_ -- region 9
   by_cases z2 : ckE l p = 0
   · have r2 : ckR l p = clsV l p := by unfold ckR; rw [if_pos z2]
     have q2 := (ckE_zero.1 z2).2
     have c2 : clsV l ⟨p.sx, p.sy, p.rx, p.ry⟩ = clsV l p := rfl
     refine E.cond (t := true) (by simp [z2]) (fun _ => ?_) (fun h => by cases h)
     refine E.reg hr (by simp [g54, hV5, q2, c2]; rfl) ?_ -- region 10
     refine E.seq ?_
     refine E.reg hr (by simp [oneF_guard, yieldedA, hA5, r1, r2, z1, z2]; rfl) ?_ -- region 11
     refine E.ret ?_
     exact pureK.ret rfl rfl (by simp) (hS5 _ _ _ _ _)
   · have r2 : ckR l p = 0 := by unfold ckR; rw [if_neg z2]
     refine E.cond (t := false) (by simp [z2]) (fun h => by cases h) (fun _ => ?_)
     refine E.skip (E.seq ?_)
     refine E.reg hr (by simp [oneF_guard, yieldedA, hA5, r1, r2, z1, z2]; rfl) ?_ -- region 11
     refine E.ret ?_
     exact pureK.ret rfl rfl (by simp) (hS5 _ _ _ _ _)
end Go.Proofs.YtdmepnhmcppkkaaGreatDoor

/-
What the handed values are made of: types of integers, strings and truth values laid out flat, and slices of such.
-/
namespace Go.Ab
open Go Go.ChangeShapes Go.WideShapes
inductive Leaf where
 | int (k : IntKind) | str | bool | flt (k : FloatKind)
 deriving DecidableEq
def Leaf.fits : Leaf → Value → Prop
 | .int k, v => ∃ n, v = .int k n ∧ (Lit.int k n).wf = true
 | .str, v => ∃ s : ByteArray, v = .string s ∧ s.size ≤ maxLen
 | .bool, v => ∃ b, v = .bool b
 | .flt k, v => ∃ b, v = .float k b
def fitsL : List Leaf → List Value → Prop
 | [], [] => True
 | l :: ls, v :: vs => l.fits v ∧ fitsL ls vs
 | _, _ => False
def leafs (P : Program) : Nat → TypeId → Option (List Leaf)
 | 0, _ => none
 | d + 1, t => match P.underlying t with
   | some .bool => some [.bool]
   | some .string => some [.str]
   | some (.int k) => some [.int k]
   | some (.float k) => some [.flt k]
   | some (.array n e) => match leafs P d e with
     | some l => if l.length = P.cellsOf e ∧ P.cellsOf t = n * l.length then some (List.replicate n l).flatten else none
     | none => none
   | some (.struct fs) => match fs.toList.foldlM (fun acc f => if f.offset = acc.length then (leafs P d f.type).bind fun l => if l.length = P.cellsOf f.type then some (acc ++ l) else none else none) [] with
     | some l => if l.length = P.cellsOf t then some l else none
     | none => none
   | _ => none
theorem fitsL_append : ∀ {a : List Leaf} {x : List Value} {b : List Leaf} {y : List Value}, fitsL a x → fitsL b y → fitsL (a ++ b) (x ++ y)
 | [], [], _, _, _, h => h
 | _ :: _, _ :: _, _, _, ⟨h1, h2⟩, h => ⟨h1, fitsL_append h2 h⟩
 | [], _ :: _, _, _, h, _ => h.elim
 | _ :: _, [], _, _, h, _ => h.elim
theorem fitsL_length : ∀ {a : List Leaf} {x : List Value}, fitsL a x → x.length = a.length
 | [], [], _ => rfl
 | _ :: _, _ :: _, ⟨_, h2⟩ => congrArg (· + 1) (fitsL_length h2)
 | [], _ :: _, h => h.elim
 | _ :: _, [], h => h.elim
section
variable {H : Type} {enc : TypeId × Value → H} {P : Program} {w : World} {base : Nat} {spare : Nat → Bool} {held : Bool}
theorem leafs_ok : ∀ (d : Nat) (t : TypeId) (ls : List Leaf) (fuel : Nat) (cs : List Value) (x : DataW H × List MemPlace), leafs P d t = some ls → DataW.trod enc P w base spare held fuel t cs = some x → fitsL ls cs
 | 0, _, _, _, _, _, hl, _ => by simp [leafs] at hl
 | d + 1, t, ls, fuel, cs, x, hl, h => by
   unfold leafs at hl
   split at hl
   · rename_i ht
     injection hl with hl; subst hl
     obtain ⟨b, rfl, _⟩ := DataW.trod_bool ht h
     exact ⟨⟨b, rfl⟩, trivial⟩
   · rename_i ht
     injection hl with hl; subst hl
     obtain ⟨b, rfl, _, hs⟩ := DataW.trod_string ht h
     exact ⟨⟨b, rfl, hs⟩, trivial⟩
   · rename_i k ht
     injection hl with hl; subst hl
     obtain ⟨b, rfl, _, hs⟩ := DataW.trod_int ht h
     exact ⟨⟨b, rfl, hs⟩, trivial⟩
   · rename_i k ht
     injection hl with hl; subst hl
     cases fuel with
     | zero => simp [DataW.trod] at h
     | succ n =>
       unfold DataW.trod at h
       rw [ht] at h
       split at h <;> simp_all
       obtain ⟨⟨rfl, _⟩, _⟩ := h
       exact ⟨⟨_, rfl⟩, trivial⟩
   · rename_i n e ht
     obtain ⟨xs, m, rfl, _, hlen, hxl, hel⟩ := DataW.trod_array ht h
     split at hl
     · rename_i l he
       split at hl
       · rename_i hc
         injection hl with hl; subst hl
         have key : ∀ k, k ≤ n → fitsL (List.replicate k l).flatten (cs.take (k * l.length)) := by
           intro k
           induction k with
           | zero => intro _; simp [fitsL]
           | succ k ih =>
             intro hk
             have h1 := hel k (by omega)
             obtain ⟨y, hy⟩ : ∃ y, xs[k]? = some y := ⟨xs[k]'(by omega), by simp⟩
             rw [hy] at h1
             have h2 := leafs_ok d e l m _ y he h1
             rw [List.replicate_succ', List.flatten_append, Nat.succ_mul, List.take_add]
             rw [← hc.1] at h2
             simpa using fitsL_append (ih (by omega)) h2
         have := key n (Nat.le_refl _)
         rw [List.take_of_length_le (by rw [hlen, hc.2]; exact Nat.le_refl _)] at this
         exact this
       · cases hl
     · cases hl
   · rename_i fs ht
     obtain ⟨xs, m, rfl, _, hlen, hxl, hel⟩ := DataW.trod_struct ht h
     split at hl
     · rename_i l hf
       split at hl
       · rename_i hc
         injection hl with hl; subst hl
         have key : ∀ (fl : List Field) (acc res : List Leaf), fl.foldlM (fun acc f => if f.offset = acc.length then (leafs P d f.type).bind fun l => if l.length = P.cellsOf f.type then some (acc ++ l) else none else none) acc = some res →
             fitsL acc (cs.take acc.length) → (∀ f ∈ fl, ∃ y, DataW.trod enc P w base spare held m f.type ((cs.drop f.offset).take (P.cellsOf f.type)) = some y) → fitsL res (cs.take res.length) := by
           intro fl
           induction fl with
           | nil => intro acc res h1 h2 _; injection h1 with h1; subst h1; exact h2
           | cons f fl ih =>
             intro acc res h1 h2 h3
             rw [List.foldlM_cons] at h1
             simp only [Option.bind_eq_bind, Option.bind_eq_some_iff] at h1
             obtain ⟨acc', h1, h4⟩ := h1
             split at h1
             · rename_i ho
               rw [Option.bind_eq_some_iff] at h1
               obtain ⟨l', h5, h6⟩ := h1
               split at h6
               · rename_i hc'
                 injection h6 with h6; subst h6
                 obtain ⟨y, hy⟩ := h3 f (List.mem_cons_self ..)
                 have := leafs_ok d f.type l' m _ y h5 hy
                 rw [← hc', ho] at this
                 refine ih _ _ h4 ?_ fun g hg => h3 g (List.mem_cons_of_mem _ hg)
                 rw [List.length_append, List.take_add]
                 exact fitsL_append h2 this
               · cases h6
             · cases h1
         have := key fs.toList [] _ hf (by simp [fitsL]) fun f hf => by
           obtain ⟨i, hi, rfl⟩ := List.getElem_of_mem hf
           have h1 := hel i fs[i] (by simp)
           obtain ⟨y, hy⟩ : ∃ y, xs[i]? = some y := ⟨xs[i]'(by rw [hxl]; simpa using hi), by simp⟩
           rw [hy] at h1
           exact ⟨y, by simpa using h1⟩
         rw [List.take_of_length_le (by rw [hlen, hc]; exact Nat.le_refl _)] at this
         exact this
       · cases hl
     · cases hl
   · cases hl
theorem flatten_get {m : Nat} (hm : 0 < m) : ∀ (rows : List (List Value)) (j : Nat), (∀ r ∈ rows, r.length = m) → rows.flatten[j]? = (rows[j / m]?).bind (·[j % m]?)
 | [], j, _ => by simp
 | r :: rows, j, h => by
   have hr := h r (List.mem_cons_self ..)
   rw [List.flatten_cons]
   rcases Nat.lt_or_ge j m with hj | hj
   · rw [List.getElem?_append_left (by omega), Nat.div_eq_of_lt hj, Nat.mod_eq_of_lt hj]
     simp
   · rw [List.getElem?_append_right (by omega), hr, flatten_get hm rows (j - m) fun r hr => h r (List.mem_cons_of_mem _ hr)]
     obtain ⟨k, rfl⟩ : ∃ k, j = k + m := ⟨j - m, by omega⟩
     rw [Nat.add_sub_cancel, Nat.add_div_right _ hm, Nat.add_mod_right, List.getElem?_cons_succ]
theorem flatten_length {m : Nat} : ∀ (rows : List (List Value)), (∀ r ∈ rows, r.length = m) → rows.flatten.length = rows.length * m
 | [], _ => by simp
 | r :: rows, h => by
   rw [List.flatten_cons, List.length_append, flatten_length rows fun r hr => h r (List.mem_cons_of_mem _ hr), h r (List.mem_cons_self ..), List.length_cons, Nat.succ_mul, Nat.add_comm]
theorem open_slice {t e : TypeId} {d fuel : Nat} {ls : List Leaf} {cs : List Value} {x : DataW H × List MemPlace} (ht : P.underlying t = some (.slice e)) (hl : leafs P d e = some ls) (hc : ls.length = P.cellsOf e) (hpos : 0 < ls.length)
   (h : DataW.trod enc P w base spare held fuel t cs = some x) :
   cs = [.slice none 0 0] ∨ ∃ (a : Addr) (len cap : Nat) (rows : List (List Value)), cs = [.slice (some a) len cap] ∧ len ≤ cap ∧ cap ≤ maxLen ∧ rows.length = len ∧ (∀ r ∈ rows, fitsL ls r) ∧
     (a.spot = none → ∀ j, j < rows.flatten.length → w.cell? ⟨a.block, a.off + j, none⟩ = rows.flatten[j]?) := by
 rcases DataW.trod_slice ht h with ⟨h0, _⟩ | ⟨a, len, cap, elems, rest, n, _, rfl, _, hb, hlc, hm, hlen, hel, _⟩
 · exact .inl h0
 right
 have each : ∀ i, i < len → ∃ r, w.cells? base (a.add (i * P.cellsOf e)) (P.cellsOf e) = some r ∧ fitsL ls r := fun i hi => by
   have h1 := hel i hi
   obtain ⟨y, hy⟩ : ∃ y, elems[i]? = some y := ⟨elems[i]'(by omega), by simp⟩
   rw [hy, Option.bind_eq_some_iff] at h1
   obtain ⟨r, h2, h3⟩ := h1
   exact ⟨r, h2, leafs_ok d e ls n r y hl h3⟩
 let rows : List (List Value) := (List.range len).map fun i => (w.cells? base (a.add (i * P.cellsOf e)) (P.cellsOf e)).getD []
 have hrow : ∀ i, i < len → ∃ r, rows[i]? = some r ∧ w.cells? base (a.add (i * P.cellsOf e)) (P.cellsOf e) = some r ∧ fitsL ls r := fun i hi => by
   obtain ⟨r, h1, h2⟩ := each i hi
   exact ⟨r, by simp [rows, hi, h1], h1, h2⟩
 have hfit : ∀ r ∈ rows, fitsL ls r := fun r hr => by
   obtain ⟨i, hi⟩ := List.getElem?_of_mem hr
   have hi' := (List.getElem?_eq_some_iff.1 hi).1
   simp [rows] at hi'
   obtain ⟨r', h1, _, h2⟩ := hrow i hi'
   rw [hi] at h1; injection h1 with h1; subst h1; exact h2
 refine ⟨a, len, cap, rows, rfl, hlc, hm, by simp [rows], hfit, fun hs j hj => ?_⟩
 have hw : ∀ r ∈ rows, r.length = ls.length := fun r hr => fitsL_length (hfit r hr)
 rw [flatten_length rows hw] at hj
 rw [flatten_get hpos rows j hw]
 have hjl : j / ls.length < len := by
   rw [Nat.div_lt_iff_lt_mul hpos]
   simpa [rows] using hj
 obtain ⟨r, h1, h2, h3⟩ := hrow _ hjl
 rw [h1, Option.bind_some]
 have h4 := (World.cells?_some h2).2.2 (j % ls.length) (by rw [← hc]; exact Nat.mod_lt _ hpos)
 rw [← h4, ← hc]
 congr 1
 have hadd : ∀ (b : Addr) (k : Nat), b.spot = none → b.add k = ⟨b.block, b.off + k, none⟩ := fun b k hb => by
   unfold Addr.add
   split
   · rename_i h0; subst h0; cases b; simp_all
   · rfl
 rw [hadd a _ hs, hadd _ _ rfl]
 have := Nat.div_add_mod j ls.length
 rw [Nat.mul_comm] at this
 simp only [Nat.add_assoc, this]
theorem okWide_addr {r : Reach} {t e : TypeId} {a : Addr} {len cap : Nat} (ht : P.underlying t = some (.slice e)) (h : Cell.okWide P w r base t (.slice (some a) len cap)) : a.spot = none ∧ ∃ c t fz, w.heap[a.block]? = some (.cells c t fz) := by
 unfold Cell.okWide at h
 rw [ht] at h
 simp only at h
 unfold Cell.ok at h
 rw [ht] at h
 obtain ⟨_, _, _, hs, row, cells, hsh, _⟩ := h
 refine ⟨hs, ?_⟩
 unfold World.shape? at hsh
 split at hsh
 · rename_i c el fz hw
   exact ⟨c, el, fz, hw⟩
 · cases hsh
theorem cell_get {b o : Nat} {c : Array Value} {t : TypeId} {fz : Nat × Nat} (hw : w.heap[b]? = some (.cells c t fz)) : w.cell? ⟨b, o, none⟩ = c[o]? := by
 unfold World.cell?
 rw [hw]
 simp
theorem handed_slice {r : Reach} {b0 : Nat} {t e : TypeId} {d fuel : Nat} {ls : List Leaf} {v : Value} {x : DataW H × List MemPlace} (ht : P.underlying t = some (.slice e)) (hl : leafs P d e = some ls) (hc : ls.length = P.cellsOf e) (hpos : 0 < ls.length)
   (hok : Cell.okWide P w r b0 t v) (h : DataW.trod enc P w base spare held fuel t [v] = some x) :
   v = .slice none 0 0 ∨ ∃ (b o len cap : Nat) (rows : List (List Value)), v = .slice (some ⟨b, o, none⟩) len cap ∧ len ≤ cap ∧ cap ≤ maxLen ∧ rows.length = len ∧ (∀ r ∈ rows, fitsL ls r) ∧
     ∃ c t fz, w.heap[b]? = some (.cells c t fz) ∧ ∀ i, i < rows.flatten.length → c[o + i]? = rows.flatten[i]? := by
 rcases open_slice ht hl hc hpos h with h0 | ⟨⟨b, o, s⟩, len, cap, rows, h1, h2, h3, h4, h5, h6⟩
 · left; simpa using h0
 · right
   obtain rfl : v = .slice (some ⟨b, o, s⟩) len cap := by simpa using h1
   obtain ⟨hs, c, t', fz, hw⟩ := okWide_addr ht hok
   have hs : s = none := hs
   subst hs
   exact ⟨b, o, len, cap, rows, rfl, h2, h3, h4, h5, c, t', fz, hw, fun i hi => by rw [← cell_get hw, h6 rfl i hi]⟩
theorem handed_str {r : Reach} {b0 : Nat} {t u e : TypeId} {d : Nat} {fs : Array Field} {f : Field} {ls : List Leaf} {v : Value} {y : DataW H} {p : List MemPlace} (hs : P.underlying t = some (.struct fs)) (hf : fs[0]? = some f) (ho : f.offset = 0) (hft : f.type = u) (h1 : P.cellsOf t = 1) (h1' : P.cellsOf u = 1) (hct : P.cellTypes P.depth t = some [u])
   (ht : P.underlying u = some (.slice e)) (hl : leafs P d e = some ls) (hc : ls.length = P.cellsOf e) (hpos : 0 < ls.length)
   (hok : Value.okWide P w r b0 t v) (h : DataW.Trod enc P w base spare held t v y p) :
   v = .agg ⟨[.slice none 0 0]⟩ ∨ ∃ (b o len cap : Nat) (rows : List (List Value)), v = .agg ⟨[.slice (some ⟨b, o, none⟩) len cap]⟩ ∧ len ≤ cap ∧ cap ≤ maxLen ∧ rows.length = len ∧ (∀ r ∈ rows, fitsL ls r) ∧
     ∃ c t fz, w.heap[b]? = some (.cells c t fz) ∧ ∀ i, i < rows.flatten.length → c[o + i]? = rows.flatten[i]? := by
 unfold Value.okWide at hok
 rw [hs] at hok
 obtain ⟨cs, rfl, hsz, ts, hts, _, hrow⟩ := hok
 rw [hct] at hts
 injection hts with hts; subst hts
 rw [h1] at hsz
 obtain ⟨l⟩ := cs
 match l, hsz with
 | [v0], _ =>
   obtain ⟨u', h2, h3⟩ := hrow 0 v0 rfl
   obtain rfl : u = u' := by simpa using h2
   obtain ⟨fuel, h⟩ := h
   obtain ⟨xs, m, rfl, _, hlen, hxl, hel⟩ := DataW.trod_struct hs h
   have h4 := hel 0 f hf
   rw [ho, hft, h1'] at h4
   have hpos' : 0 < fs.size := (Array.getElem?_eq_some_iff.1 hf).1
   obtain ⟨y, hy⟩ : ∃ y, xs[0]? = some y := ⟨xs[0]'(by omega), by simp⟩
   rw [hy] at h4
   rcases handed_slice ht hl hc hpos h3 (by simpa [Value.cells] using h4) with rfl | ⟨b, o, len, cap, rows, rfl, h5⟩
   · exact .inl rfl
   · exact .inr ⟨b, o, len, cap, rows, rfl, h5⟩
end
end Go.Ab

namespace Go.Proofs.YtdmepnhmcppkkaaGreatDoor
open Go Go.Ab Go.Proofs Go.ChangeShapes Go.WideShapes Go.ChangeAt Go.RowKit
/-! ### handed numbers in a row, handed lists of numbers -/
theorem fits_cons {l : Leaf} {ls : List Leaf} {r : List Value} (h : fitsL (l :: ls) r) : ∃ v vs, r = v :: vs ∧ l.fits v ∧ fitsL ls vs := by
 cases r with
 | nil => exact h.elim
 | cons v vs => exact ⟨v, vs, rfl, h.1, h.2⟩
theorem fits_nil {r : List Value} (h : fitsL [] r) : r = [] := by
 cases r with
 | nil => rfl
 | cons v vs => exact h.elim
theorem leafs3 : leafs Tryz.prog 6 3 = some [.int .i64] := by kernel_rfl
theorem leafs25 : leafs Tryz.prog 6 25 = some [.int .i64, .int .i64, .int .i64, .int .i64, .int .i64, .int .i64] := by kernel_rfl
theorem leafs79 : leafs Tryz.prog 6 79 = some [.int .i64, .int .i64, .int .i64, .int .i64] := by kernel_rfl
theorem fits_ints : ∀ rows : List (List Value), (∀ r ∈ rows, fitsL [.int .i64] r) → ∃ ns : List Int, rows.flatten = ns.map iv ∧ ns.length = rows.length
 | [], _ => ⟨[], rfl, rfl⟩
 | r :: rows, h => by
   obtain ⟨_, _, e1, ⟨n, rfl, hn⟩, h1⟩ := fits_cons (h r (List.mem_cons_self ..))
   obtain rfl := fits_nil h1
   obtain ⟨ns, h2, h3⟩ := fits_ints rows fun r hr => h r (List.mem_cons_of_mem _ hr)
   exact ⟨n :: ns, by rw [List.flatten_cons, h2, e1]; rfl, by simp [h3]⟩
set_option maxRecDepth 100000 in
theorem open_grid {H : Type} {enc : TypeId × Value → H} {W : World} {base : Nat} {v : Value} {d : DataW H} {p : List MemPlace} (hv : Value.okWide Tryz.prog W .any base 25 v) (h : DataW.Trod enc Tryz.prog W 0 (fun _ => true) true 25 v d p) :
   ∃ g : Gr, v = grA g := by
 obtain ⟨cs, rfl, _⟩ := okWide_struct Tryz.underlying25 hv
 obtain ⟨fuel, hf⟩ := h
 have hl := leafs_ok 6 25 _ fuel _ (d, p) leafs25 hf
 obtain ⟨cl⟩ := cs
 have hl : fitsL [.int .i64, .int .i64, .int .i64, .int .i64, .int .i64, .int .i64] cl := by simpa [Value.cells] using hl
 obtain ⟨_, _, rfl, ⟨a, rfl, _⟩, h1⟩ := fits_cons hl
 obtain ⟨_, _, rfl, ⟨b, rfl, _⟩, h2⟩ := fits_cons h1
 obtain ⟨_, _, rfl, ⟨c, rfl, _⟩, h3⟩ := fits_cons h2
 obtain ⟨_, _, rfl, ⟨e, rfl, _⟩, h4⟩ := fits_cons h3
 obtain ⟨_, _, rfl, ⟨f, rfl, _⟩, h5⟩ := fits_cons h4
 obtain ⟨_, _, rfl, ⟨g, rfl, _⟩, h6⟩ := fits_cons h5
 obtain rfl := fits_nil h6
 exact ⟨⟨a, b, c, e, f, g⟩, rfl⟩
set_option maxRecDepth 100000 in
theorem open_place {H : Type} {enc : TypeId × Value → H} {W : World} {base : Nat} {v : Value} {d : DataW H} {p : List MemPlace} (hv : Value.okWide Tryz.prog W .any base 79 v) (h : DataW.Trod enc Tryz.prog W 0 (fun _ => true) true 79 v d p) :
   ∃ q : Pc, v = pcA q := by
 obtain ⟨cs, rfl, _⟩ := okWide_struct Tryz.underlying79 hv
 obtain ⟨fuel, hf⟩ := h
 have hl := leafs_ok 6 79 _ fuel _ (d, p) leafs79 hf
 obtain ⟨cl⟩ := cs
 have hl : fitsL [.int .i64, .int .i64, .int .i64, .int .i64] cl := by simpa [Value.cells] using hl
 obtain ⟨_, _, rfl, ⟨a, rfl, _⟩, h1⟩ := fits_cons hl
 obtain ⟨_, _, rfl, ⟨b, rfl, _⟩, h2⟩ := fits_cons h1
 obtain ⟨_, _, rfl, ⟨c, rfl, _⟩, h3⟩ := fits_cons h2
 obtain ⟨_, _, rfl, ⟨e, rfl, _⟩, h4⟩ := fits_cons h3
 obtain rfl := fits_nil h4
 exact ⟨⟨a, b, c, e⟩, rfl⟩
set_option maxRecDepth 100000 in
theorem open_ints {H : Type} {enc : TypeId × Value → H} {W : World} {base : Nat} {v : Value} {d : DataW H} {p : List MemPlace} (hv : Value.okWide Tryz.prog W .any base 41 v) (h : DataW.Trod enc Tryz.prog W 0 (fun _ => true) true 41 v d p) :
   v = .slice none 0 0 ∨ ∃ (b o c : Nat) (l : List Int), v = .slice (some ⟨b, o, none⟩) l.length c ∧ ∃ cs t fz, W.heap[b]? = some (.cells cs t fz) ∧ ∀ i, i < (l.map iv).length → cs[o + i]? = (l.map iv)[i]? := by
 simp only [Value.okWide, Tryz.underlying41] at hv
 obtain ⟨a, len, cap, rfl⟩ : ∃ a len cap, v = .slice a len cap := okWide_slice (P := Tryz.prog) (w := W) (r := .any) (base := base) Tryz.underlying41 (by simp only [Value.okWide, Tryz.underlying41]; exact hv)
 obtain ⟨fuel, hf⟩ := h
 rcases handed_slice (d := 6) Tryz.underlying41 leafs3 (by kernel_rfl) (by simp) hv (fuel := fuel) (x := (d, p)) hf with h0 | ⟨b, o, len', cap', rows, e, h1, h2, h3, h4, cs, t, fz, hw, hc⟩
 · exact .inl h0
 · obtain ⟨l, e1, e2⟩ := fits_ints rows h4
   have : len' = l.length := by omega
   subst this
   rw [e1] at hc
   exact .inr ⟨b, o, cap', l, e, cs, t, fz, hw, hc⟩
theorem intsW_view {l : List Int} {o c : Nat} {G : Heap} (hl : l.length < 2147483648) : intsW ((9, .inp o (l.map iv)) :: G) (.slice (some ⟨9, o, none⟩) l.length c) = some l := by
 unfold intsW intsAt
 dsimp only
 rw [if_pos (by simp [flat]; omega), cellsA_eq, hget_cons, if_pos rfl]
 simp only [Option.bind_some, cellsB]
 rw [if_pos (by simp), Nat.sub_self, List.drop_zero, List.take_of_length_le (by simp), Option.bind_some, intsOf_iv]
theorem params6 : Tryz.f6.params = #[25, 41, 79] := by kernel_rfl
theorem tysize : Tryz.prog.types.size = 366 := by kernel_rfl
theorem w6 {H : Heap} {n : Nat} {v : Value} (g : Gr) (p : Pc) (h2 : hget H 2 = some (.inp 0 powV)) (h0 : hget H 0 = some (.inp 0 stillV)) {k c : Nat} {oa : Option Addr} (hv : v = .slice oa k c) (hW : k ≤ 9 → ∃ l : List Int, l.length = k ∧ intsW H v = some l) : AC Tryz.prog 6 [grA g, v, pcA p] H n (.bool true) H n := by
 by_cases hgo : shGrid g = false ∨ 9 < k
 · subst hv
   exact w6e g p h2 h0 hgo
 · obtain ⟨l, hl, hw⟩ := hW (by omega)
   exact w6m g p h2 h0 (by cases h : shGrid g with | true => rfl | false => exact absurd (.inl h) hgo) (by omega) hw
namespace coverBins
set_option maxRecDepth 100000 in
theorem contract (H : Type) (enc : TypeId × Value → H) (W : World) (base : Nat) (args : Array Value) (ds gs : List (DataW H)) (before : List MemPlace)
   (hval : ∀ (j : Nat) t v, Tryz.f6.params[j]? = some t → args[j]? = some v → Value.okWide Tryz.prog W .any base t v)
   (hW : DataW.Whole enc Tryz.prog Tryz.f6.params.toList Rows.coverBinsSpec.vars false W args.toList ds gs before) (hL : laidMetH Tryz.prog Rows.coverBinsRow.laid W) :
   Calls Tryz.prog 6 args W fun e W' => ∃ v, e = .returned v ∧ Rows.coverBinsSpec.post enc Tryz.prog Tryz.f6 false true false false W args v W' := by
 have hW' := hW
 obtain ⟨p, q, hA0, hV, rfl, hfz, hnd⟩ := hW
 have hA : DataW.TrodAll enc Tryz.prog W 0 (fun _ => true) true Tryz.f6.params.toList args.toList ds p := hA0
 rw [params6] at hA hval
 obtain ⟨v0, vs0, d0, ds0, p0, q0, hargs, rfl, rfl, h0, r0⟩ := trodAll_cons hA
 obtain ⟨v1, vs1, d1, ds1, p1, q1, rfl, rfl, rfl, h1, r1⟩ := trodAll_cons r0
 obtain ⟨v2, vs2, d2, ds2, p2, q2, rfl, rfl, rfl, h2, r2⟩ := trodAll_cons r1
 obtain ⟨rfl, rfl, rfl⟩ := trodAll_nil r2
 obtain rfl : args = #[v0, v1, v2] := by cases args; simp_all
 obtain ⟨g, rfl⟩ := open_grid (hval 0 25 v0 rfl rfl) h0
 obtain ⟨u, rfl⟩ := open_place (hval 2 79 v2 rfl rfl) h2
 have hc : Calls Tryz.prog 6 #[grA g, v1, pcA u] W fun e W' => e = .returned (.bool true) ∧ Below W.heap.size W W' := by
   rcases open_ints (hval 1 41 v1 rfl rfl) h1 with rfl | ⟨b, o, c, l, rfl, cs, ty, fz, hw, hcs⟩
   · exact lawCalls (f := 6) (by kernel_rfl) (lies0 hL) (lies2 hL) [] (by simp) (args0 := [grA g, .slice none 0 0, pcA u]) (by simp [scL, sc]) (by simp [denL, den]) (w6 g u rfl rfl rfl fun _ => ⟨[], rfl, rfl⟩)
   · refine lawCalls (f := 6) (by kernel_rfl) (lies0 hL) (lies2 hL) [⟨b, o, l.map iv⟩] ?_ (args0 := [grA g, .slice (some ⟨9, o, none⟩) l.length c, pcA u]) ?_ ?_ (w6 g u rfl rfl rfl fun hk => ⟨l, rfl, intsW_view (by omega)⟩)
     · intro v hv
       rw [List.mem_singleton] at hv
       subst hv
       exact ⟨scL_af _ _ (afL_iv l), cs, ty, fz, hw, fun i hi => by rw [denL_af _ _ (afL_iv l)]; exact hcs i hi⟩
     · simp [scL, sc]
     · simp [denL, den, wloc]
 refine hc.mono fun e W' ⟨he, hb⟩ => ⟨_, he, ?_⟩
 refine lawPost ?_ rfl rfl rfl hW' hb
 intro t ht
 rw [params6] at ht
 simp at ht
 rw [tysize]
 rcases ht with rfl | rfl | rfl
 · exact ⟨by kernel_rfl, by decide⟩
 · exact ⟨by kernel_rfl, by decide⟩
 · exact ⟨by kernel_rfl, by decide⟩
abbrev wit0 : Value := .agg #[iv 0, iv 0, iv 0, iv 0, iv 0, iv 0]
abbrev wit2 : Value := .agg #[iv 0, iv 0, iv 0, iv 0]
theorem reads (os : Os) {H : Type} (enc : TypeId × Value → H) : ∃ ds places, DataW.whole enc Tryz.prog ((laidWorld os).forCall (fun _ _ => 0) ⟨#[], #[wit0, .slice none 0 0, wit2], []⟩).memory Tryz.f6.params.toList Rows.coverBinsSpec.vars false #[wit0, .slice none 0 0, wit2].toList 8 = some (ds, [], places) :=
 ⟨[.agg [.agg [.lit (.int .i64 0), .lit (.int .i64 0)], .lit (.int .i64 0), .lit (.int .i64 0), .lit (.int .i64 0), .lit (.int .i64 0)], .nil, .agg [.agg [.lit (.int .i64 0), .lit (.int .i64 0)], .agg [.lit (.int .i64 0), .lit (.int .i64 0)]]], [], by kernel_rfl⟩
set_option maxRecDepth 100000 in
theorem lifted (os : Os) (started : os.Started) (H : Type) (enc : TypeId × Value → H) (F : Stop.Interp) :
   ReturnsInHanded {} Tryz.checked os 6 .any ((OpenSpec.ofChange Rows.coverBinsSpec).preRow enc Tryz.prog Tryz.f6 Rows.coverBinsRow.domain false Rows.coverBinsRow.laid) (((OpenSpec.ofChange Rows.coverBinsSpec).at F).post enc Tryz.prog Tryz.f6 false true false false) := by
 obtain ⟨ds, places, hx⟩ := reads os enc
 refine returnsInHanded_of_row (C := Tryz.checked) (s := OpenSpec.ofChange Rows.coverBinsSpec) own started (by kernel_rfl) Tryz.func6
   (witness_row_at (enc := enc) (C := Tryz.checked) false (laidWorld os) #[wit0, .slice none 0 0, wit2] rfl (by kernel_rfl) (by kernel_rfl) (by kernel_rfl)
     (OpenSpec.preRow_of_cond 8 hx (by kernel_rfl) (fun k hk => by cases hk) (by kernel_rfl) (laid_met3 os _ _ _))) ?_
 intro W base args ds gs before hval hW _ _ _ hL _ _
 exact contract H enc W base args ds gs before hval hW hL
end coverBins
end Go.Proofs.YtdmepnhmcppkkaaGreatDoor

namespace Go.Proofs.YtdmepnhmcppkkaaGreatDoor
open Go Go.Ab Go.Proofs Go.ChangeShapes Go.WideShapes Go.ChangeAt Go.RowKit
namespace coverBins
theorem fnum : Tryz.prog.funcNamed "moveout/moveoutlaw04.CoverBins" = some 6 := by kernel_rfl
theorem inst : Tryz.f6.isInstance Tryz.prog Rows.coverBinsRow.origin Rows.coverBinsRow.targs := of_decide_eq_true (by kernel_rfl)
theorem wrapper : Tryz.f6.isWrapper Tryz.prog Rows.coverBinsRow.wrapper Rows.coverBinsRow.mainSum := by unfold Func.isWrapper; first | (rw [if_pos (by decide +kernel)]; kernel_rfl) | (rw [if_neg (by decide +kernel)]; exact ⟨rfl, rfl⟩)
set_option maxRecDepth 100000 in
theorem said : Rows.CoverBinsSaid :=
 OpenClaim.holds_of_cond 6 Tryz.f6 rfl rfl rfl rfl rfl rfl rfl ⟨rfl, rfl, rfl, rfl, rfl⟩ rfl rfl rfl rfl rfl fnum Tryz.func6 facts inst wrapper
   (fun os started H enc _ F => by rw [OpenClaim.pre_eq_preRow]; exact lifted os started H enc F)
theorem looks : true = Tryz.prog.looks [] := by kernel_rfl
theorem standIn : ∀ t, t = 25 ∨ t = 41 ∨ t = 79 → Tryz.prog.wantsStandIn t = false := by
 rintro t (rfl | rfl | rfl) <;> kernel_rfl
theorem plain (f : FuncId) (fn : Func) (hf : Tryz.pinned.checked.prog.funcNamed "moveout/moveoutlaw04.CoverBins" = some f) (hfn : Tryz.pinned.checked.prog.funcs[f]? = some fn) :
   true = Tryz.pinned.checked.prog.looks [] ∧ ∀ (j : Nat) t, fn.params[j]? = some t → Tryz.pinned.checked.prog.wantsStandIn t = false := by
 obtain rfl : f = 6 := Option.some.inj (fnum.symm.trans hf) |>.symm
 obtain rfl : fn = Tryz.f6 := (Option.some.inj (Tryz.func6.symm.trans hfn)).symm
 refine ⟨looks, fun j t ht => ?_⟩
 rw [params6] at ht
 exact standIn t (by simpa using Array.mem_of_getElem? ht)
theorem wf : OpenClaim.wfByText (OpenSpec.ofChange Rows.coverBinsSpec) Rows.coverBinsRow = true := by kernel_rfl
theorem main : Tryz.prog.mainIs = some ("8441a68efd0e9cd7e5ce7d36e4ce19994c4bd112eff67025856326a7abfcc4f4" |> fun s => (true, s.toList)) := by kernel_rfl
theorem goes : false = Rows.coverBinsRow.goesBy Tryz.prog := by kernel_rfl
set_option maxRecDepth 100000 in
theorem card : Rows.CoverBinsCardSaid :=
 Claim7.holds_tied_plain_at .later [] _ _ _ _ said (fun _ h => by cases h) wf (fun _ h => by cases h) coverBins_row_tie rfl ⟨rfl, rfl⟩ main rfl plain goes
end coverBins
end Go.Proofs.YtdmepnhmcppkkaaGreatDoor
