/-
The walks of Retimed and Misfires, and the plain reckoning behind the law GunReaches (each under the conditions in its statement).
-/
import Derived.Test.YtndlfijfjglkdaaGreatDoorGd
namespace Go.Proofs.YtndlfijfjglkdaaGreatDoor
open Go Go.Ab Go.Proofs
def wF (x : Int) : Int := withinV x 0 16
def errsQ (l : List Int) (v : Value) (H : Heap) : Prop := if l = [] then v = .slice none 0 0 else ∃ m, v = .slice (some ⟨m, 0, some 0⟩) l.length 0 ∧ hget H m = some (.ext (l.map iv) 27 1) ∧ 11 ≤ m
theorem w140 (a : Int) : AC Tryz.prog 140 [iv a] [] 10 (iv (wF a)) [] 10 := by
  have hr := recT_ok (P := Tryz.prog) (l := [(138, g138)]) (by simp [ok138])
  refine AC.pure Tryz.func140 rfl (by kernel_rfl) rfl [] rfl ?_
  refine E.seq ?_
  refine E.reg hr (by simp; rfl) ?_
  refine E.seq ?_
  refine E.reg hr (by simp [g138]; rfl) ?_
  refine E.ret ?_
  exact pureK.ret rfl rfl (by simp [wF]) (sub_refl _)
theorem ok140 : EntOk Tryz.prog (140, g1 wF) := okInt1 w140
def S139 (l : List Int) (o c : Nat) : Nat → St
  | 0 => { fr := [(1, .func (.func 140) #[] #[]), (8, .slice (some ⟨10, o, none⟩) l.length c), (9, iv l.length), (5, .slice none 0 0), (10, iv 0)], sz := 22, H := [(10, .inp o (l.map iv))], n := 11, marks := [], vs := [1, 8, 9, 5, 10] }
  | i + 1 => { fr := [(1, .func (.func 140) #[] #[]), (8, .slice (some ⟨10, o, none⟩) l.length c), (9, iv l.length), (5, .slice (some ⟨11, 0, some 0⟩) (i + 1) 0), (10, iv (i + 1 : Nat))], sz := 22, H := [(11, .ext ((tk wF l (i + 1)).map iv) 27 1), (10, .inp o (l.map iv))], n := 12, marks := [], vs := [1, 8, 9, 5, 10] }
set_option maxRecDepth 20000 in
theorem w139 (l : List Int) (o c : Nat) (hne : l ≠ []) (hl : l.length ≤ 4096) : ∃ u H1 n1 H2, AC Tryz.prog 139 [.slice (some ⟨10, o, none⟩) l.length c, .func (.func 140) #[] #[]] [(10, .inp o (l.map iv))] 11 u H1 n1 ∧ errsQ (l.map wF) u H2 ∧ (af u = false → H1 = H2) := by
  have hr := recT_ok (P := Tryz.prog) (l := [(140, g1 wF)]) (by simp only [List.forall_mem_cons]; exact ⟨ok140, by simp⟩)
  have hpos : 0 < l.length := List.length_pos_iff.2 hne
  refine AC.out Tryz.func139 rfl (by kernel_rfl) rfl [1, 8, 9, 5, 10] ?_
  refine E.seq ?_
  refine E.reg hr (by simp; rfl) ?_
  refine E.seq ?_
  refine E.reg hr (by simp; rfl) ?_
  refine E.seq ?_
  refine E.seq ?_
  refine E.reg hr (by simp; rfl) ?_
  refine E.block ?_
  refine E.loop ?_
  refine EL.ind (S139 l o c) (fun i => l.length - i) (fun i => i ≤ l.length) 0 (.less rfl rfl rfl (by simp [S139]) (by simp [S139])) (Nat.zero_le _) (fun i => by cases i <;> rfl) ?_
  intro i hi
  rcases i with _ | i
  · have hw : IntKind.i64.wrap 1 = 1 := W_in (by omega) (by omega)
    refine E.seq ?_
    refine E.reg hr (by simp [S139]; rfl) ?_
    refine E.seq ?_
    refine E.cond (by rfl) (fun h => ?_) (fun h => ?_)
    · simp at h
      have hts : (tk wF l 1).map iv = [iv (wF l[0])] := by rw [tk_succ wF hpos]; rfl
      refine E.skip ?_
      refine E.seq ?_
      refine E.block ?_
      refine E.seq ?_
      refine E.reg hr (by simp [hpos]; rfl) ?_
      refine E.reg hr (by simp; rfl) ?_
      refine E.reg hr (by simp [hw]; rfl) ?_
      exact ⟨1, Leads.ren [12] rfl rfl rfl ⟨rfl, rfl⟩ (by simp [S139]) (by simp [S139, hts]), by omega, by dsimp only; omega⟩
    · simp at h
      exact absurd h hne
  · have hw : IntKind.i64.wrap ((i : Int) + 1 + 1) = (i : Int) + 1 + 1 := W_in (by omega) (by omega)
    have hlen : (tk wF l (i + 1)).length = i + 1 := tk_length _ (by omega)
    have ht : List.take (i + 1) ((tk wF l (i + 1)).map iv) = (tk wF l (i + 1)).map iv := List.take_of_length_le (by simp [hlen])
    refine E.seq ?_
    refine E.reg hr (by simp [S139]; rfl) ?_
    refine E.seq ?_
    refine E.cond (by rfl) (fun h => ?_) (fun h => ?_)
    · simp at h
      have hlt : i + 1 < l.length := by omega
      have hltI : (i : Int) + 1 < l.length := by omega
      have hts : (tk wF l (i + 1 + 1)).map iv = (tk wF l (i + 1)).map iv ++ [iv (wF l[i + 1])] := by rw [tk_succ wF hlt, List.map_append]; rfl
      have hsm : (i + 1 + 1) * 8 ≤ 1099511627776 ∧ i + 1 + 1 ≤ 1099511627776 := by omega
      refine E.skip ?_
      refine E.seq ?_
      refine E.block ?_
      refine E.seq ?_
      refine E.reg hr (by simp [hlt, hltI]; rfl) ?_
      refine E.reg hr (by simp [hsm, ht, hlen]; rfl) ?_
      refine E.reg hr (by simp [hw]; rfl) ?_
      exact ⟨i + 2, Leads.ren [13] rfl rfl rfl ⟨rfl, rfl⟩ (by simp [S139]) (by simp [S139, hts]), by omega, by dsimp only; omega⟩
    · simp at h
      have hal : tk wF l (i + 1) = l.map wF := tk_all _ (by omega)
      have hll : l.length = i + 1 := by omega
      refine E.exit ?_
      refine E.seq ?_
      refine E.reg hr (by simp; rfl) ?_
      refine E.ret ?_
      refine outK.ret rfl rfl ?_
      simp [errsQ, hne, hal, hll]
theorem w139n : AC Tryz.prog 139 [.slice none 0 0, .func (.func 140) #[] #[]] [] 10 (.slice none 0 0) [] 10 := by
  have hr := recT_ok (P := Tryz.prog) (l := []) (by simp)
  refine AC.pure Tryz.func139 rfl (by kernel_rfl) rfl [1, 8, 9, 5, 10] rfl ?_
  refine E.seq ?_
  refine E.reg hr (by simp; rfl) ?_
  refine E.seq ?_
  refine E.reg hr (by simp; rfl) ?_
  refine E.seq ?_
  refine E.seq ?_
  refine E.reg hr (by simp; rfl) ?_
  refine E.block ?_
  refine E.loop ?_
  refine EL.step ?_
  refine E.seq ?_
  refine E.reg hr (by simp; rfl) ?_
  refine E.seq ?_
  refine E.cond (by rfl) (fun h => ?_) (fun h => ?_)
  · simp at h
  refine E.exit ?_
  refine E.seq ?_
  refine E.reg hr (by simp; rfl) ?_
  refine E.ret ?_
  exact pureK.ret rfl rfl (by simp) (by repeat first | exact sub_refl _ | refine sub_cons rfl ?_)
def wL (l : List Int) : List Int := l.map wF
@[simp] theorem wL_length (l : List Int) : (wL l).length = l.length := by simp [wL]
def g139 (args : List Value) (H : Heap) (n : Nat) : R := match args with
  | [.slice (some a) len _, .func (.func 140) ⟨[]⟩ ⟨[]⟩] => match intsAt H a len with
    | some l => if l ≠ [] ∧ l.length ≤ 4096 then some (.slice (some ⟨n, 0, some 0⟩) l.length 0, (n, .ext ((wL l).map iv) 27 1) :: H, n + 1) else none
    | none => none
  | [.slice none 0 0, .func (.func 140) ⟨[]⟩ ⟨[]⟩] => some (.slice none 0 0, H, n)
  | _ => none
theorem ok139 : EntOk Tryz.prog (139, g139) := by
  intro args H n v H' n' h'
  simp only [g139] at h'
  split at h'
  · split at h'
    · rename_i l hl
      split at h'
      · rename_i hc
        injection h' with h'; injection h' with e1 e2; injection e2 with e2 e3; subst e1 e2 e3
        obtain ⟨hf, hcs, hlen, hlt⟩ := intsAt_ok hl
        subst hlen
        have hne : l.map wF ≠ [] := by simpa using hc.1
        refine AC.liftF (names_sx _ _) (.inr ⟨_, _, _, rfl, afL_iv _⟩) (Part.one (fun s => [s, .func (.func 140) #[] #[]]) (by intro φ φ0 s s0 h; simp [denL, den, h]) (by intro p s h; simp [scL, sc, h]) hf hcs (afL_iv l) [] (by simp [Seen]) gsz fun c => ?_)
        obtain ⟨u, H1, n1, H2, hAC, hq, hh⟩ := w139 l _ c hc.1 hc.2
        unfold errsQ at hq
        rw [if_neg hne, List.length_map] at hq
        obtain ⟨m, hv, hm, hle⟩ := hq
        subst hv
        have := hh rfl
        subst this
        exact ⟨m, _, _, hle, hm, hAC⟩
      · cases h'
    · cases h'
  · injection h' with h'; injection h' with e1 e2; injection e2 with e2 e3; subst e1 e2 e3
    exact AC.liftP rfl (Part.plain (by simp) [] (by simp [Seen]) gsz ⟨_, _, w139n⟩)
  · cases h'
theorem w113n : AC Tryz.prog 113 [.slice none 0 0] [] 10 (iv 0) [] 10 := by
  have hr := recT_ok (P := Tryz.prog) (l := []) (by simp)
  refine AC.pure Tryz.func113 rfl (by kernel_rfl) rfl [5, 6, 7] rfl ?_
  refine E.seq ?_
  refine E.reg hr (by simp; rfl) ?_
  refine E.seq ?_
  refine E.seq ?_
  refine E.reg hr (by simp; rfl) ?_
  refine E.block ?_
  refine E.loop ?_
  refine EL.step ?_
  refine E.seq ?_
  refine E.reg hr (by simp; rfl) ?_
  refine E.seq ?_
  refine E.cond (by rfl) (fun h => ?_) (fun h => ?_)
  · simp at h
  refine E.exit ?_
  refine E.seq ?_
  refine E.reg hr (by simp; rfl) ?_
  refine E.ret ?_
  exact pureK.ret rfl rfl (by simp) (by repeat first | exact sub_refl _ | refine sub_cons rfl ?_)
def g113' (args : List Value) (H : Heap) (n : Nat) : R := match args with
  | [.slice (some a) len _] => (intsAt H a len).map fun l => (iv (firstV l), H, n)
  | [.slice none 0 0] => some (iv 0, H, n)
  | _ => none
theorem ok113' : EntOk Tryz.prog (113, g113') := by
  intro args H n v H' n' h
  simp only [g113'] at h
  split at h
  · exact ok113 _ _ _ _ _ _ h
  · injection h with h; injection h with e1 e2; injection e2 with e2 e3; subst e1 e2 e3
    exact AC.liftP rfl (Part.plain (by simp) [] (by simp [Seen]) gsz ⟨_, _, w113n⟩)
  · cases h
end Go.Proofs.YtndlfijfjglkdaaGreatDoor

namespace Go.Proofs.YtndlfijfjglkdaaGreatDoor
open Go Go.Ab Go.Proofs
theorem gcs_append (a b : List Gun) : gcs (a ++ b) = gcs a ++ gcs b := by simp [gcs]
@[simp] theorem oneL_gcs (l : List Gun) : oneL (gcs l) = true := by
  induction l with
  | nil => rfl
  | cons g l ih =>
    show oneL (g.cells ++ gcs l) = true
    simp [Gun.cells, oneL, ih]
theorem gcs_setD {k : List Gun} {i : Nat} (h : i < k.length) (t : Int) : (gcs k).take (i * 7 + 4) ++ iv t :: (gcs k).drop (i * 7 + 5) = gcs (k.set i { k[i] with d := t }) := by
  have e1 : gcs k = gcs (k.take i) ++ (k[i].cells ++ gcs (k.drop (i + 1))) := by
    conv => lhs; rw [← List.take_append_drop i k, List.drop_eq_getElem_cons h]
    rw [gcs_append]; rfl
  have e2 : gcs (k.set i { k[i] with d := t }) = gcs (k.take i) ++ (({ k[i] with d := t } : Gun).cells ++ gcs (k.drop (i + 1))) := by
    rw [List.set_eq_take_append_cons_drop, if_pos h, gcs_append]; rfl
  have hl : (gcs (k.take i)).length = i * 7 := by rw [gcs_length, List.length_take]; omega
  rw [e2, e1, ← hl, List.take_length_add_append, List.drop_length_add_append]
  simp [Gun.cells]
def retV (l : List Gun) (o : List Int) : List Gun := List.zipWith (fun g t => { g with d := t }) l o
def retR (l : List Gun) (ts : List Tim) : Option (List Gun) × Int :=
  if strE l ≠ 0 then (none, strE l) else match timsV l ts with
    | (none, e) => (none, e)
    | (some o, e) => if firstV [e, firstV (wL o)] ≠ 0 then (none, firstV [e, firstV (wL o)]) else (some (retV l o), 0)
def retQ (r : Option (List Gun) × Int) (v : Value) (H : Heap) : Prop := match r with
  | (none, e) => v = .tuple #[nilV, iv e]
  | (some k, e) => ∃ m, v = .tuple #[.agg ⟨[.slice (some ⟨m, 0, none⟩) k.length k.length]⟩, iv e] ∧ hget H m = some (.cells (gcs k) 95) ∧ 12 ≤ m
theorem strE_len {l : List Gun} (h : strE l = 0) : 1 ≤ l.length ∧ l.length ≤ 8 := by
  unfold strE at h
  split at h
  · omega
  · split at h <;> omega
theorem timsV_some {l : List Gun} {ts : List Tim} {o : List Int} {e : Int} (h : timsV l ts = (some o, e)) : o.length = l.length := by
  have key : ∀ (ts : List Tim) (a : List Int), a.length = l.length → ∀ o e, ticksF l a ts = (some o, e) → o.length = l.length := by
    intro ts
    induction ts with
    | nil => intro a ha o e h; simp only [ticksF, Prod.mk.injEq, Option.some.injEq] at h; rw [← h.1]; exact ha
    | cons t ts ih =>
      intro a ha o e h
      unfold ticksF at h
      split at h
      · exact ih _ (by simpa using ha) _ _ h
      · simp at h
  exact key ts _ (by simp) _ _ h
theorem timsV_none {l : List Gun} {ts : List Tim} {e : Int} (h : timsV l ts = (none, e)) : e ≠ 0 := by
  have key : ∀ (ts : List Tim) (a : List Int), ∀ e, ticksF l a ts = (none, e) → e ≠ 0 := by
    intro ts
    induction ts with
    | nil => intro a e h; simp [ticksF] at h
    | cons t ts ih =>
      intro a e h
      unfold ticksF at h
      split at h
      · exact ih _ _ h
      · simp only [Prod.mk.injEq] at h; rw [← h.2]; assumption
  exact key ts _ _ h
abbrev gun0 : Gun := ⟨⟨#[]⟩, 0, 0, 0, 0, 0, 0⟩
theorem mk30 {fr : Fr} {H : Heap} {n : Nat} {x y : Operand} {k : Nat} (h8 : k ≤ 8) (hx : evO Tryz.prog fr x = some (iv k)) (hy : evO Tryz.prog fr y = some (iv k)) : opMakeslice Tryz.prog 30 x y fr H n = some (.slice (some ⟨n, 0, none⟩) k k, (n, .cells (gcs (List.replicate k gun0)) 95) :: H, n + 1) := by
  unfold opMakeslice
  rw [hx, hy]
  rcases (show k = 0 ∨ k = 1 ∨ k = 2 ∨ k = 3 ∨ k = 4 ∨ k = 5 ∨ k = 6 ∨ k = 7 ∨ k = 8 by omega) with rfl | rfl | rfl | rfl | rfl | rfl | rfl | rfl | rfl <;> kernel_rfl
theorem build32n {fr : Fr} {H : Heap} {n : Nat} : opBuild Tryz.prog 32 #[] fr H n = some (nilV, H, n) := by kernel_rfl
theorem build32 {fr : Fr} {H : Heap} {n : Nat} {x : Operand} {a : Option Addr} {k c : Nat} (hx : evO Tryz.prog fr x = some (.slice a k c)) : opBuild Tryz.prog 32 #[(0, x)] fr H n = some (.agg #[.slice a k c], H, n) := by
  unfold opBuild
  simp only [evPs_cons, evPs_nil, hx]
  kernel_rfl
theorem copy_row {H : Heap} {n : Nat} {l : List Gun} {m b : Nat} {zs : List Value} (hm : hget H m = some (.cells zs 95)) (hb : hget H b = some (.row (gcs l) 7)) (hz : zs.length = l.length * 7) (h1 : 1 ≤ l.length) : builtinA Tryz.prog .copy #[30, 30] H n [.slice (some ⟨m, 0, none⟩) l.length l.length, .slice (some ⟨b, 0, some 0⟩) l.length 0] = some (iv l.length, hset H m (.cells (gcs l) 95), n) := by
  have hne : gcs l ≠ [] := fun e => by have := congrArg List.length e; simp at this; omega
  obtain ⟨x, xs, hx⟩ := List.exists_cons_of_ne_nil hne
  have hlen : (gcs l).length = l.length * 7 := gcs_length l
  have hs : srcA H 7 l.length (.slice (some ⟨b, 0, some 0⟩) l.length 0) = some (gcs l) := by
    have h7 : ¬ l.length * 7 = 0 := by omega
    simp [srcA, cellsA, hb, List.take_of_length_le, h7]
  have ho : oneL (gcs l) = true := oneL_gcs l
  have hst : storeA H m 0 (gcs l) = some (hset H m (.cells (gcs l) 95)) := by
    unfold storeA
    rw [hm]
    simp only
    rw [if_pos (by rw [hlen, hz]; omega)]
    simp [putL, hz, List.drop_of_length_le]
  unfold builtinA
  simp only [List.getElem?_toArray, List.getElem?_cons_zero, Tryz.underlying30, lenV, show Nat.min l.length l.length = l.length from Nat.min_self _, show szA Tryz.prog 95 = some 7 from by simp, hs]
  rw [hx] at ho hst ⊢
  simp only [flat, ho, hst, Bool.and_self, if_true]
set_option maxRecDepth 100000 in
theorem w60 (l : List Gun) (ts : List Tim) (o2 c2 : Nat) (hl : l.length < 2 ^ 63) (hts : ts.length < 2 ^ 63) : ∃ u H1 n1 H2, AC Tryz.prog 60 [rowV l.length, .slice (some ⟨11, o2, none⟩) ts.length c2] [(11, .inp o2 (tcs ts)), (10, .row (gcs l) 7)] 12 u H1 n1 ∧ retQ (retR l ts) u H2 ∧ (af u = false → H1 = H2) := by
  have hr := recT_ok (P := Tryz.prog) (l := [(31, g31), (137, g137), (139, g139), (113, g113')]) (by simp only [List.forall_mem_cons]; exact ⟨ok31, ok137, ok139, ok113', by simp⟩)
  refine AC.out Tryz.func60 rfl (by kernel_rfl) rfl [4, 7, 10, 43, 44] ?_
  refine E.seq ?_
  refine E.reg hr (by simp; rfl) ?_
  refine E.seq ?_
  refine E.seq ?_
  refine E.reg hr (by simp [g31, rowOf, gunsOf_gcs, hl]; rfl) ?_
  refine E.seq ?_
  refine E.reg hr (by simp; rfl) ?_
  refine E.cond (by rfl) (fun h => ?_) (fun h => ?_)
  · simp at h
    refine E.seq ?_
    refine E.reg hr (by simp [build32n]; rfl) ?_
    refine E.ret ?_
    refine outK.ret rfl rfl ?_
    simp [retQ, retR, h]
    kernel_rfl
  · simp at h
    obtain ⟨h1, h8⟩ := strE_len h
    have hgat : ∀ X Y : Blk, gunsAt [(13, X), (12, Y), (11, .inp o2 (tcs ts)), (10, .row (gcs l) 7)] ⟨10, 0, some 0⟩ l.length = some l := fun X Y => by
      unfold gunsAt
      simp [List.take_of_length_le, gunsOf_gcs, show l.length < 9223372036854775808 by omega]
    have htat : ∀ X Y : Blk, timsAt [(13, X), (12, Y), (11, .inp o2 (tcs ts)), (10, .row (gcs l) 7)] ⟨11, o2, none⟩ ts.length = some ts := fun X Y => by
      unfold timsAt
      simp [List.take_of_length_le, timsOf_tcs, show ts.length < 9223372036854775808 by omega]
    refine E.skip ?_
    refine E.seq ?_
    rcases hv : timsV l ts with ⟨_ | out, e⟩
    · have he := timsV_none hv
      have hf : firstV [e, 0] = e := by simp [firstV]; omega
      refine E.reg hr (by simp [g137, hgat, htat, h1, h8, hv, gTk]; rfl) ?_
      refine E.seq ?_
      refine E.seq ?_
      refine E.reg hr (by simp [g139, g113', intsAt, intsOf, hf]; rfl) ?_
      refine E.seq ?_
      refine E.reg hr (by simp; rfl) ?_
      refine E.cond (by rfl) (fun h2 => ?_) (fun h2 => ?_)
      · refine E.seq ?_
        refine E.reg hr (by simp [build32n]; rfl) ?_
        refine E.ret ?_
        refine outK.ret rfl rfl ?_
        simp [retQ, retR, h, hv]
        kernel_rfl
      · simp at h2
        exact absurd h2 he
    · have hlen := timsV_some hv
      have hne : out ≠ [] := fun e => by subst e; simp at hlen; omega
      have h31 : l.length < 2147483648 := by omega
      have h31o : out.length < 2147483648 := by omega
      have h4 : out.length ≤ 4096 := by omega
      have ht1 : List.take out.length (out.map iv) = out.map iv := List.take_of_length_le (by simp)
      have ht2 : List.take out.length ((wL out).map iv) = (wL out).map iv := List.take_of_length_le (by simp)
      have hin : ∀ W : Heap, intsAt ((14, .cells (out.map iv) 3) :: W) ⟨14, 0, none⟩ out.length = some out := fun W => by
        unfold intsAt
        simp [ht1, intsOf_iv, h31o]
      have hin2 : ∀ W : Heap, intsAt ((15, .ext ((wL out).map iv) 27 1) :: W) ⟨15, 0, some 0⟩ out.length = some (wL out) := fun W => by
        unfold intsAt
        simp only [flat, cellsA, hget_cons, if_true, blt_dec, h31o]
        simp [ht2, intsOf_iv]
      have hrr : retR l ts = if firstV [e, firstV (wL out)] ≠ 0 then (none, firstV [e, firstV (wL out)]) else (some (retV l out), 0) := by
        unfold retR
        rw [if_neg (by simp [h]), hv]
      refine E.reg hr (by simp [g137, hgat, htat, h1, h8, hv, gTk]; rfl) ?_
      refine E.seq ?_
      refine E.seq ?_
      generalize hE : firstV [e, firstV (wL out)] = E0 at hrr
      have hin3 : ∀ W : Heap, intsAt ((16, .cells [iv e, iv (firstV (wL out))] 27) :: W) ⟨16, 0, none⟩ 2 = some [e, firstV (wL out)] := fun W => by
        simp [intsAt, intsOf]
      refine E.reg hr (by simp [g139, g113', hin, hin2, hin3, hne, h4, hE]; rfl) ?_
      refine E.seq ?_
      refine E.reg hr (by simp; rfl) ?_
      refine E.cond (by rfl) (fun h2 => ?_) (fun h2 => ?_)
      · simp at h2
        refine E.seq ?_
        refine E.reg hr (by simp [build32n]; rfl) ?_
        refine E.ret ?_
        refine outK.ret rfl rfl ?_
        simp [retQ, hrr, h2]
        kernel_rfl
      · simp at h2
        have hcp := fun (H : Heap) (n : Nat) (hm : hget H 17 = some (.cells (gcs (List.replicate l.length gun0)) 95)) (hb : hget H 10 = some (.row (gcs l) 7)) => copy_row (H := H) (n := n) hm hb (by simp) h1
        refine E.skip ?_
        refine E.seq ?_
        refine E.reg hr (by simp [mk30 (k := l.length) h8]; rfl) ?_
        refine E.seq ?_
        refine E.reg hr (by simp [hcp, -builtinA]; rfl) ?_
        refine E.seq ?_
        refine E.seq ?_
        refine E.reg hr (by simp; rfl) ?_
        refine E.block ?_
        refine E.loop ?_
        refine EL.ind (fun x : Nat × List Gun => { fr := [(4, .pointer (some ⟨12, 0, none⟩)), (7, .slice (some ⟨13, 0, none⟩) out.length out.length), (10, .slice (some ⟨14, 0, none⟩) l.length l.length), (43, iv l.length), (44, iv x.1)], sz := 58, H := [(14, .cells (gcs x.2) 95), (13, .cells (out.map iv) 3), (12, .cells [.slice none 0 0] 32), (11, .inp o2 (tcs ts)), (10, .row (gcs l) 7)], n := 15, marks := [], vs := [4, 7, 10, 43, 44] }) (fun x => l.length - x.1) (fun x => x.1 ≤ l.length ∧ x.2.length = l.length ∧ (∀ j (h : j < x.2.length) (h2 : j < l.length) (h3 : j < out.length), x.2[j] = if j < x.1 then { l[j] with d := out[j] } else l[j])) (0, l) (Leads.ren [13, 14, 17] rfl rfl rfl ⟨rfl, rfl⟩ (by simp) (by simp)) ⟨Nat.zero_le _, rfl, fun j h h2 h3 => by simp⟩ (fun _ => rfl) ?_
        intro ⟨i, k⟩ ⟨hi, hkl, hg⟩
        dsimp only at hi hkl hg
        refine E.seq ?_
        refine E.reg hr (by simp; rfl) ?_
        refine E.seq ?_
        refine E.cond (by rfl) (fun h3 => ?_) (fun h3 => ?_)
        · simp at h3
          have hw : IntKind.i64.wrap ((i : Int) + 1) = (i : Int) + 1 := W_in (by omega) (by omega)
          have hio : i < out.length := by omega
          have hik : i < k.length := by omega
          have h7 : i * 7 + 5 ≤ k.length * 7 := by omega
          have hset := gcs_setD hik out[i]
          refine E.skip ?_
          refine E.seq ?_
          refine E.block ?_
          refine E.seq ?_
          refine E.reg hr (by simp; rfl) ?_
          refine E.reg hr (by simp [h3, hio, h7, hset]; rfl) ?_
          refine E.reg hr (by simp [hw]; rfl) ?_
          refine ⟨(i + 1, k.set i { k[i] with d := out[i] }), .less rfl rfl rfl (by simp) (by simp), ⟨by dsimp only; omega, by simp [hkl], fun j hj hj2 hj3 => ?_⟩, by dsimp only; omega⟩
          rw [List.getElem_set]
          by_cases hji : i = j
          · subst hji
            have := hg i hik hj2 hj3
            rw [if_neg (by omega)] at this
            rw [if_pos rfl, if_pos (by omega), this]
          · have hj' : j < k.length := by omega
            have := hg j hj' hj2 hj3
            rw [if_neg hji, this]
            by_cases hlt : j < i
            · rw [if_pos hlt, if_pos (by omega)]
            · rw [if_neg hlt, if_neg (by omega)]
        · simp at h3
          have hkr : k = retV l out := by
            unfold retV
            apply List.ext_getElem
            · simp [hkl, hlen]
            · intro j hj hj2
              have hjl : j < l.length := by omega
              have := hg j hj hjl (by omega)
              rw [if_pos (by omega)] at this
              rw [this, List.getElem_zipWith]
          refine E.exit ?_
          refine E.seq ?_
          refine E.reg hr (by simp [build32 (a := some ⟨14, 0, none⟩) (k := l.length) (c := l.length)]; rfl) ?_
          refine E.ret ?_
          refine outK.ret rfl rfl ?_
          simp [retQ, hrr, h2, ← hkr, hkl]
          exact ⟨14, by kernel_rfl, by simp, by omega⟩
end Go.Proofs.YtndlfijfjglkdaaGreatDoor

namespace Go.Proofs.YtndlfijfjglkdaaGreatDoor
open Go Go.Ab Go.Proofs
def lateV (l : List Gun) (o : List Int) (i : Nat) : Int := match l[i]?, o[i]? with
  | some g, some t => IntKind.i64.wrap (t - g.d)
  | _, _ => 0
def missB (l : List Gun) (o : List Int) (lim : Int) (i : Nat) : Bool := decide (lim < lateV l o i) || decide (lateV l o i < -lim)
def nameAt (l : List Gun) (i : Nat) : ByteArray := match l[i]? with
  | some g => g.name
  | none => ⟨#[]⟩
def missN (l : List Gun) (o : List Int) (lim : Int) : Nat → List ByteArray
  | 0 => []
  | i + 1 => if missB l o lim i then missN l o lim i ++ [nameAt l i] else missN l o lim i
def misR (l : List Gun) (ts : List Tim) (lim : Int) : List ByteArray × Int :=
  if strE l ≠ 0 then ([], strE l) else match timsV l ts with
    | (none, e) => ([], firstV [e, withinV lim 0 16])
    | (some o, e) => if firstV [e, withinV lim 0 16] ≠ 0 then ([], firstV [e, withinV lim 0 16]) else (missN l o lim l.length, 0)
def misQ (r : List ByteArray × Int) (v : Value) (H : Heap) : Prop := if r.1 = [] then v = .tuple #[.slice none 0 0, iv r.2] else ∃ m, v = .tuple #[.slice (some ⟨m, 0, some 0⟩) r.1.length 0, iv r.2] ∧ hget H m = some (.ext (r.1.map sv) 9 1) ∧ 12 ≤ m
theorem missN_len (l : List Gun) (o : List Int) (lim : Int) (i : Nat) : (missN l o lim i).length ≤ i := by
  induction i with
  | zero => simp [missN]
  | succ i ih =>
    unfold missN
    split
    · simp; omega
    · omega
abbrev H58 (l : List Gun) (ts : List Tim) (o2 : Nat) (out : List Int) : Heap := [(13, .cells (out.map iv) 3), (12, .cells [.slice (some ⟨10, 0, some 0⟩) l.length 0] 32), (11, .inp o2 (tcs ts)), (10, .row (gcs l) 7)]
def S58 (l : List Gun) (ts : List Tim) (o2 : Nat) (out : List Int) (lim : Int) : Nat × Option (List ByteArray) → St
  | (i, none) => { fr := [(2, iv lim), (9, .slice (some ⟨13, 0, none⟩) out.length out.length), (12, .slice none 0 0), (36, .slice (some ⟨10, 0, some 0⟩) l.length 0), (37, iv l.length), (38, iv i)], sz := 66, H := H58 l ts o2 out, n := 14, marks := [], vs := [2, 9, 12, 36, 37, 38] }
  | (i, some w) => { fr := [(2, iv lim), (9, .slice (some ⟨13, 0, none⟩) out.length out.length), (12, .slice (some ⟨14, 0, some 0⟩) w.length 0), (36, .slice (some ⟨10, 0, some 0⟩) l.length 0), (37, iv l.length), (38, iv i)], sz := 66, H := (14, .ext (w.map sv) 9 1) :: H58 l ts o2 out, n := 15, marks := [], vs := [2, 9, 12, 36, 37, 38] }
def G58 (l : List Gun) (out : List Int) (lim : Int) : Nat × Option (List ByteArray) → Prop
  | (i, none) => i ≤ l.length ∧ missN l out lim i = []
  | (i, some w) => i ≤ l.length ∧ missN l out lim i = w ∧ w ≠ []
set_option maxRecDepth 100000 in
theorem w58 (l : List Gun) (ts : List Tim) (o2 c2 : Nat) (lim : Int) (hl : l.length < 2 ^ 63) (hts : ts.length < 2 ^ 63) : ∃ u H1 n1 H2, AC Tryz.prog 58 [rowV l.length, .slice (some ⟨11, o2, none⟩) ts.length c2, iv lim] [(11, .inp o2 (tcs ts)), (10, .row (gcs l) 7)] 12 u H1 n1 ∧ misQ (misR l ts lim) u H2 ∧ (af u = false → H1 = H2) := by
  have hr := recT_ok (P := Tryz.prog) (l := [(31, g31), (137, g137), (138, g138), (113, g113)]) (by simp only [List.forall_mem_cons]; exact ⟨ok31, ok137, ok138, ok113, by simp⟩)
  refine AC.out Tryz.func58 rfl (by kernel_rfl) rfl [2, 9, 12, 36, 37, 38] ?_
  refine E.seq ?_
  refine E.reg hr (by simp; rfl) ?_
  refine E.seq ?_
  refine E.seq ?_
  refine E.reg hr (by simp [g31, rowOf, gunsOf_gcs, hl]; rfl) ?_
  refine E.seq ?_
  refine E.reg hr (by simp; rfl) ?_
  refine E.cond (by rfl) (fun h => ?_) (fun h => ?_)
  · simp at h
    refine E.seq ?_
    refine E.reg hr (by simp; rfl) ?_
    refine E.ret ?_
    refine outK.ret rfl rfl ?_
    simp [misQ, misR, h]
  · simp at h
    obtain ⟨h1, h8⟩ := strE_len h
    have hgat : ∀ X : Blk, gunsAt [(12, X), (11, .inp o2 (tcs ts)), (10, .row (gcs l) 7)] ⟨10, 0, some 0⟩ l.length = some l := fun X => by
      unfold gunsAt
      simp [List.take_of_length_le, gunsOf_gcs, show l.length < 9223372036854775808 by omega]
    have htat : ∀ X : Blk, timsAt [(12, X), (11, .inp o2 (tcs ts)), (10, .row (gcs l) 7)] ⟨11, o2, none⟩ ts.length = some ts := fun X => by
      unfold timsAt
      simp [List.take_of_length_le, timsOf_tcs, show ts.length < 9223372036854775808 by omega]
    refine E.skip ?_
    refine E.seq ?_
    rcases hv : timsV l ts with ⟨_ | out, e⟩
    · have he := timsV_none hv
      have hf : firstV [e, withinV lim 0 16] = e := by simp [firstV, he]
      refine E.reg hr (by simp [g137, hgat, htat, h1, h8, hv, gTk]; rfl) ?_
      refine E.seq ?_
      refine E.seq ?_
      refine E.reg hr (by simp [g138, g113, intsAt, intsOf, hf]; rfl) ?_
      refine E.seq ?_
      refine E.reg hr (by simp; rfl) ?_
      refine E.cond (by rfl) (fun h2 => ?_) (fun h2 => ?_)
      · refine E.seq ?_
        refine E.reg hr (by simp; rfl) ?_
        refine E.ret ?_
        refine outK.ret rfl rfl ?_
        simp [misQ, misR, h, hv, hf]
      · simp at h2
        exact absurd h2 he
    · have hlen := timsV_some hv
      have hrr : misR l ts lim = if firstV [e, withinV lim 0 16] ≠ 0 then ([], firstV [e, withinV lim 0 16]) else (missN l out lim l.length, 0) := by
        unfold misR
        rw [if_neg (by simp [h]), hv]
      refine E.reg hr (by simp [g137, hgat, htat, h1, h8, hv, gTk]; rfl) ?_
      refine E.seq ?_
      refine E.seq ?_
      generalize hE : firstV [e, withinV lim 0 16] = E0 at hrr
      refine E.reg hr (by simp [g138, g113, intsAt, intsOf, hE]; rfl) ?_
      refine E.seq ?_
      refine E.reg hr (by simp; rfl) ?_
      refine E.cond (by rfl) (fun h2 => ?_) (fun h2 => ?_)
      · simp at h2
        refine E.seq ?_
        refine E.reg hr (by simp; rfl) ?_
        refine E.ret ?_
        refine outK.ret rfl rfl ?_
        simp [misQ, hrr, h2]
      · simp at h2
        have hlim : 0 ≤ lim ∧ lim ≤ 16 := by
          rw [h2] at hE
          have := (firstV_zero _).1 hE
          simp [withinV_zero] at this
          omega
        have hwl : IntKind.i64.wrap (-lim) = -lim := W_in (by omega) (by omega)
        refine E.skip ?_
        refine E.seq ?_
        refine E.reg hr (by simp; rfl) ?_
        refine E.seq ?_
        refine E.seq ?_
        refine E.reg hr (by simp; rfl) ?_
        refine E.block ?_
        refine E.loop ?_
        refine EL.ind (S58 l ts o2 out lim) (fun x => l.length - x.1) (G58 l out lim) (0, none) (Leads.ren [12, 13] rfl rfl rfl ⟨rfl, rfl⟩ (by simp [S58]) (by simp [S58])) ⟨Nat.zero_le _, rfl⟩ (fun x => by obtain ⟨i, _ | w⟩ := x <;> rfl) ?_
        intro ⟨i, w⟩ hgood
        have hi : i ≤ l.length := by cases w <;> exact hgood.1
        rcases w with _ | w
        · have hg := hgood.2
          refine E.seq ?_
          refine E.reg hr (by simp [S58]; rfl) ?_
          refine E.seq ?_
          refine E.cond (by rfl) (fun h3 => ?_) (fun h3 => ?_)
          · simp at h3
            have hw : IntKind.i64.wrap ((i : Int) + 1) = (i : Int) + 1 := W_in (by omega) (by omega)
            have hio : i < out.length := by omega
            have h7 : i * 7 + 7 ≤ l.length * 7 := by omega
            have hlv : IntKind.i64.wrap (out[i] - l[i].d) = lateV l out i := by unfold lateV; rw [List.getElem?_eq_getElem h3, List.getElem?_eq_getElem hio]
            have hna : nameAt l i = l[i].name := by unfold nameAt; rw [List.getElem?_eq_getElem h3]
            refine E.skip ?_
            refine E.seq ?_
            refine E.block ?_
            refine E.seq ?_
            refine E.reg hr (by simp [h3, h7, gcs_take h3]; rfl) ?_
            refine E.seq ?_
            refine E.drawC mixed hr [] [] [3, 5] (by kernel_rfl) (by simp [hio, hlv]; rfl) ?_
            refine E.seq ?_
            refine E.regL hr { fr := [(58, .bool (missB l out lim i)), (14, .pointer (some ⟨14, 0, none⟩)), (2, iv lim), (9, .slice (some ⟨13, 0, none⟩) out.length out.length), (12, .slice none 0 0), (36, .slice (some ⟨10, 0, some 0⟩) l.length 0), (37, iv l.length), (38, iv i)], sz := 66, H := (14, .cells l[i].cells 95) :: H58 l ts o2 out, n := 15, marks := [], vs := [2, 9, 12, 36, 37, 38] } ?_ ?_
            · unfold missB
              generalize lateV l out i = x
              by_cases c1 : lim < x <;> by_cases c2 : x < -lim <;>
                (refine ⟨_, by simp [c1, c2, hwl, undefV]; rfl, ?_⟩; exact .less rfl rfl rfl (by simp [c1, c2]) (by simp))
            refine E.cond (by rfl) (fun h4 => ?_) (fun h4 => ?_)
            · refine E.reg hr (by simp; rfl) ?_
              refine E.reg hr (by simp [hw]; rfl) ?_
              refine ⟨(i + 1, some [l[i].name]), Leads.ren [12, 13, 16] rfl rfl rfl ⟨rfl, rfl⟩ (by simp [S58]) (by simp [S58]), ⟨by omega, by simp [missN, h4, hg, hna], by simp⟩, by dsimp only; omega⟩
            · refine E.skip ?_
              refine E.reg hr (by simp [hw]; rfl) ?_
              exact ⟨(i + 1, none), Leads.ren [12, 13] rfl rfl rfl ⟨rfl, rfl⟩ (by simp [S58]) (by simp [S58]), ⟨by omega, by simp [missN, h4, hg]⟩, by dsimp only; omega⟩
          · simp at h3
            have hall : missN l out lim l.length = [] := by rw [← hg, show i = l.length by omega]
            refine E.exit ?_
            refine E.seq ?_
            refine E.reg hr (by simp; rfl) ?_
            refine E.ret ?_
            refine outK.ret rfl rfl ?_
            simp [misQ, hrr, h2, hall]
        · obtain ⟨_, hg, hne⟩ := hgood
          have hwlen : w.length ≤ i := hg ▸ missN_len l out lim i
          refine E.seq ?_
          refine E.reg hr (by simp [S58]; rfl) ?_
          refine E.seq ?_
          refine E.cond (by rfl) (fun h3 => ?_) (fun h3 => ?_)
          · simp at h3
            have hw : IntKind.i64.wrap ((i : Int) + 1) = (i : Int) + 1 := W_in (by omega) (by omega)
            have hio : i < out.length := by omega
            have h7 : i * 7 + 7 ≤ l.length * 7 := by omega
            have hlv : IntKind.i64.wrap (out[i] - l[i].d) = lateV l out i := by unfold lateV; rw [List.getElem?_eq_getElem h3, List.getElem?_eq_getElem hio]
            have hna : nameAt l i = l[i].name := by unfold nameAt; rw [List.getElem?_eq_getElem h3]
            have ht : List.take w.length (w.map sv) = w.map sv := List.take_of_length_le (by simp)
            have hsm : (w.length + 1) * 16 ≤ 1099511627776 ∧ w.length + 1 ≤ 1099511627776 := by omega
            refine E.skip ?_
            refine E.seq ?_
            refine E.block ?_
            refine E.seq ?_
            refine E.reg hr (by simp [h3, h7, gcs_take h3]; rfl) ?_
            refine E.seq ?_
            refine E.drawC mixed hr [] [] [3, 5] (by kernel_rfl) (by simp [hio, hlv]; rfl) ?_
            refine E.seq ?_
            refine E.regL hr { fr := [(58, .bool (missB l out lim i)), (14, .pointer (some ⟨15, 0, none⟩)), (2, iv lim), (9, .slice (some ⟨13, 0, none⟩) out.length out.length), (12, .slice (some ⟨14, 0, some 0⟩) w.length 0), (36, .slice (some ⟨10, 0, some 0⟩) l.length 0), (37, iv l.length), (38, iv i)], sz := 66, H := (15, .cells l[i].cells 95) :: (14, .ext (w.map sv) 9 1) :: H58 l ts o2 out, n := 16, marks := [], vs := [2, 9, 12, 36, 37, 38] } ?_ ?_
            · unfold missB
              generalize lateV l out i = x
              by_cases c1 : lim < x <;> by_cases c2 : x < -lim <;>
                (refine ⟨_, by simp [c1, c2, hwl, undefV]; rfl, ?_⟩; exact .less rfl rfl rfl (by simp [c1, c2]) (by simp))
            refine E.cond (by rfl) (fun h4 => ?_) (fun h4 => ?_)
            · refine E.reg hr (by simp [ht, hsm]; rfl) ?_
              refine E.reg hr (by simp [hw]; rfl) ?_
              refine ⟨(i + 1, some (w ++ [l[i].name])), Leads.ren [12, 13, 17] rfl rfl rfl ⟨rfl, rfl⟩ (by simp [S58]) (by simp [S58]), ⟨by omega, by simp [missN, h4, hg, hna], by simp⟩, by dsimp only; omega⟩
            · refine E.skip ?_
              refine E.reg hr (by simp [hw]; rfl) ?_
              exact ⟨(i + 1, some w), Leads.ren [12, 13, 14] rfl rfl rfl ⟨rfl, rfl⟩ (by simp [S58]) (by simp [S58]), ⟨by omega, by simp [missN, h4, hg], hne⟩, by dsimp only; omega⟩
          · simp at h3
            have hall : missN l out lim l.length = w := by rw [← hg, show i = l.length by omega]
            refine E.exit ?_
            refine E.seq ?_
            refine E.reg hr (by simp; rfl) ?_
            refine E.ret ?_
            refine outK.ret rfl rfl ?_
            simp [misQ, hrr, h2, hall, hne]
end Go.Proofs.YtndlfijfjglkdaaGreatDoor

namespace Go.Ab
open Go
/-- what is left behind a piece, known by less; else as it was -/
def cutK (P : Program) (n0 : Nat) (S0 : St) (K : Ex → St → Prop) : Ex → St → Prop
  | .normal, st => Leads P n0 st S0
  | e, st => K e st
theorem E.cut {P : Program} {n0 : Nat} {ro : Option Nat} {st : St} {K : Ex → St → Prop} {a b : Code} (S0 : St) (ha : E P n0 ro a st (cutK P n0 S0 K)) (hb : E P n0 ro b S0 K) : E P n0 ro (.seq a b) st K :=
  E.seq (ha.mono fun e st' h => by
    cases e with
    | normal => exact E.lead S0 h hb
    | _ => exact h)
theorem E.cut2 {P : Program} {n0 : Nat} {ro : Option Nat} {st : St} {K : Ex → St → Prop} {a b c : Code} (S0 : St) (ha : E P n0 ro a st (seqK P n0 ro b (cutK P n0 S0 K))) (hc : E P n0 ro c S0 K) : E P n0 ro (.seq a (.seq b c)) st K :=
  E.seq (ha.mono fun e st' h => by
    cases e with
    | normal => exact E.cut S0 h hc
    | _ => exact h)
theorem Part.rowOne {P : Program} {H : Heap} {n : Nat} {R : List Value → Heap → Nat → Prop} (mk : Value → Value → List Value) (hmk : ∀ φ φ0 s s0 u u0, den φ0 s0 = den φ s → den φ0 u0 = den φ u → denL φ0 (mk s0 u0) = denL φ (mk s u)) (hms : ∀ (p : Nat → Prop) s u, sc p s → sc p u → scL p (mk s u))
    {b len skip sz : Nat} {cs : List Value} (hb : rowOf H b = some (cs, sz)) (haf : afL cs = true) {a2 : Addr} {len2 cap2 m2 : Nat} {cs2 : List Value} (hf2 : flat a2 = true) (hc2 : cellsA H a2.block a2.off m2 = some cs2) (haf2 : afL cs2 = true) {N : Nat} (hN : P.globals.size = N)
    (h : ∀ c2, R (mk (.slice (some ⟨N, 0, some 0⟩) len skip) (.slice (some ⟨N + 1, a2.off, none⟩) len2 c2)) [(N + 1, .inp a2.off cs2), (N, .row cs sz)] (N + 2)) : Part P (mk (.slice (some ⟨b, 0, some 0⟩) len skip) (.slice (some a2) len2 cap2)) H n R :=
  Part.gen [⟨b, .row cs sz⟩, ⟨a2.block, .inp a2.off cs2⟩] hN (fun v hv => by
    rcases List.mem_cons.1 hv with rfl | hv
    · exact ⟨hb, haf⟩
    · rw [List.mem_singleton] at hv
      subst hv
      exact ⟨⟨m2, hc2⟩, haf2⟩) fun φ => by
    obtain ⟨c2', hd2⟩ := den_flat φ (ad := a2) (l := len2) (c := cap2) hf2
    refine ⟨_, fun φ0 hl => hmk φ φ0 _ (.slice (some ⟨N, 0, some 0⟩) len skip) _ (.slice (some ⟨N + 1, a2.off, none⟩) len2 c2') ?_ ?_, hms _ _ _ (show N < N + 2 by omega) (show N + 1 < N + 2 by omega), h c2'⟩
    · have h0 := hl 0 _ rfl
      simp only [Nat.add_zero] at h0
      simp only [den, h0.1, h0.2]
    · have h1 := (hl 1 _ rfl).1
      rw [hd2]; simp only [den, h1]
end Go.Ab
namespace Go.Proofs.YtndlfijfjglkdaaGreatDoor
open Go Go.Ab Go.Proofs
def rowGuns (H : Heap) (b len : Nat) : Option (List Gun) := match rowOf H b with
  | some (cs, 7) => match gunsOf cs with
    | some l => if len = l.length ∧ len < 2 ^ 63 then some l else none
    | none => none
  | _ => none
theorem rowGuns_ok {H : Heap} {b len : Nat} {l : List Gun} (h : rowGuns H b len = some l) : rowOf H b = some (gcs l, 7) ∧ len = l.length ∧ l.length < 2 ^ 63 := by
  unfold rowGuns at h
  split at h
  · rename_i cs hb
    split at h
    · rename_i l' hl
      split at h
      · rename_i hc
        injection h with h; subst h
        have := gunsOf_ok _ _ hl
        subst this
        exact ⟨hb, hc.1, hc.1 ▸ hc.2⟩
      · cases h
    · cases h
  · cases h
def gMis (r : List ByteArray × Int) (H : Heap) (n : Nat) : R := if r.1 = [] then some (.tuple #[.slice none 0 0, iv r.2], H, n) else some (.tuple #[.slice (some ⟨n, 0, some 0⟩) r.1.length 0, iv r.2], (n, .ext (r.1.map sv) 9 1) :: H, n + 1)
def g58 (args : List Value) (H : Heap) (n : Nat) : R := match args with
  | [.agg ⟨[.slice (some ⟨b, 0, some 0⟩) len 0]⟩, .slice (some a2) len2 _, .int .i64 lim] => match rowGuns H b len, timsAt H a2 len2 with
    | some l, some ts => gMis (misR l ts lim) H n
    | _, _ => none
  | _ => none
theorem ok58 : EntOk Tryz.prog (58, g58) := by
  intro args H n v H' n' h'
  simp only [g58] at h'
  split at h'
  · rename_i b len a2 len2 c2 lim
    split at h'
    · rename_i l ts hl ht
      obtain ⟨hb, hlen, hlt⟩ := rowGuns_ok hl
      obtain ⟨hf2, hct, hlen2, hlt2⟩ := timsAt_ok ht
      subst hlen hlen2
      have hp := fun (R : List Value → Heap → Nat → Prop) (hR : _) => Part.rowOne (P := Tryz.prog) (H := H) (n := n) (R := R) (len := l.length) (skip := 0) (len2 := ts.length) (cap2 := c2) (fun s u => [.agg ⟨[s]⟩, u, iv lim]) (by intro φ φ0 s s0 u u0 h h'; simp [denL, den, h, h']) (by intro p s u h h'; exact ⟨⟨h, trivial⟩, h', trivial, trivial⟩) hb (afL_gcs l) hf2 hct (afL_tcs ts) gsz hR
      have hw := fun c2 => w58 l ts a2.off c2 lim hlt hlt2
      unfold gMis at h'
      split at h'
      · rename_i he
        injection h' with h'; injection h' with e1 e2; injection e2 with e2 e3; subst e1 e2 e3
        refine AC.liftP (by simp) (hp _ fun c2 => ?_)
        obtain ⟨u, H1, n1, H2, hAC, hq, _⟩ := hw c2
        unfold misQ at hq
        rw [if_pos he] at hq
        subst hq
        exact ⟨_, _, hAC⟩
      · rename_i he
        injection h' with h'; injection h' with e1 e2; injection e2 with e2 e3; subst e1 e2 e3
        refine AC.liftF (vf := fun m => .tuple #[.slice (some ⟨m, 0, some 0⟩) (misR l ts lim).1.length 0, iv (misR l ts lim).2]) ⟨fun φ ψ m n h1 h2 => by simp [den, denL, h1, h2], fun p n h => by simp [sc, scL, h]⟩ (.inr ⟨_, _, _, rfl, afL_sv _⟩) (hp _ fun c2 => ?_)
        obtain ⟨u, H1, n1, H2, hAC, hq, hh⟩ := hw c2
        unfold misQ at hq
        rw [if_neg he] at hq
        obtain ⟨m, hu, hm, hle⟩ := hq
        subst hu
        have := hh (by simp)
        subst this
        exact ⟨m, _, _, hle, hm, hAC⟩
    · cases h'
  · cases h'
def gRet (r : Option (List Gun) × Int) (H : Heap) (n : Nat) : R := match r with
  | (none, e) => some (.tuple #[nilV, iv e], H, n)
  | (some k, e) => some (.tuple #[.agg ⟨[.slice (some ⟨n, 0, none⟩) k.length k.length]⟩, iv e], (n, .cells (gcs k) 95) :: H, n + 1)
def g60 (args : List Value) (H : Heap) (n : Nat) : R := match args with
  | [.agg ⟨[.slice (some ⟨b, 0, some 0⟩) len 0]⟩, .slice (some a2) len2 _] => match rowGuns H b len, timsAt H a2 len2 with
    | some l, some ts => gRet (retR l ts) H n
    | _, _ => none
  | _ => none
theorem ok60 : EntOk Tryz.prog (60, g60) := by
  intro args H n v H' n' h'
  simp only [g60] at h'
  split at h'
  · rename_i b len a2 len2 c2
    split at h'
    · rename_i l ts hl ht
      obtain ⟨hb, hlen, hlt⟩ := rowGuns_ok hl
      obtain ⟨hf2, hct, hlen2, hlt2⟩ := timsAt_ok ht
      subst hlen hlen2
      have hp := fun (R : List Value → Heap → Nat → Prop) (hR : _) => Part.rowOne (P := Tryz.prog) (H := H) (n := n) (R := R) (len := l.length) (skip := 0) (len2 := ts.length) (cap2 := c2) (fun s u => [.agg ⟨[s]⟩, u]) (by intro φ φ0 s s0 u u0 h h'; simp [denL, den, h, h']) (by intro p s u h h'; exact ⟨⟨h, trivial⟩, h', trivial⟩) hb (afL_gcs l) hf2 hct (afL_tcs ts) gsz hR
      have hw := fun c2 => w60 l ts a2.off c2 hlt hlt2
      unfold gRet at h'
      split at h'
      · rename_i e hv
        injection h' with h'; injection h' with e1 e2; injection e2 with e2 e3; subst e1 e2 e3
        refine AC.liftP (by simp) (hp _ fun c2 => ?_)
        obtain ⟨u, H1, n1, H2, hAC, hq, _⟩ := hw c2
        rw [hv] at hq
        unfold retQ at hq
        dsimp only at hq
        subst hq
        exact ⟨_, _, hAC⟩
      · rename_i k e hv
        injection h' with h'; injection h' with e1 e2; injection e2 with e2 e3; subst e1 e2 e3
        refine AC.liftF (vf := fun m => .tuple #[.agg ⟨[.slice (some ⟨m, 0, none⟩) k.length k.length]⟩, iv e]) ⟨fun φ ψ m n h1 h2 => by simp [den, denL, h1], fun p n h => by simp [sc, scL, h]⟩ (.inl ⟨_, _, rfl, afL_gcs k⟩) (hp _ fun c2 => ?_)
        obtain ⟨u, H1, n1, H2, hAC, hq, hh⟩ := hw c2
        rw [hv] at hq
        unfold retQ at hq
        dsimp only at hq
        obtain ⟨m, hu, hm, hle⟩ := hq
        subst hu
        have := hh (by simp)
        subst this
        exact ⟨m, _, _, hle, hm, hAC⟩
    · cases h'
  · cases h'
end Go.Proofs.YtndlfijfjglkdaaGreatDoor

namespace Go.Proofs.YtndlfijfjglkdaaGreatDoor
open Go Go.Ab Go.Proofs
def tickN (ns : List Int) (i : Nat) : Int := ((ns[i]?).getD 0).tmod 17
theorem tickN_bounds {ns : List Int} (h : ∀ x ∈ ns, 0 ≤ x ∧ x ≤ 255) (i : Nat) : 0 ≤ tickN ns i ∧ tickN ns i ≤ 16 := by
  unfold tickN
  have : 0 ≤ (ns[i]?).getD 0 := by
    by_cases hi : i < ns.length
    · rw [List.getElem?_eq_getElem hi]; exact (h _ (List.getElem_mem hi)).1
    · rw [List.getElem?_eq_none (by omega)]; simp
  rw [Int.tmod_eq_emod_of_nonneg this]
  omega
def timAt (l : List Gun) (ns : List Int) (m : Nat) : Tim := ⟨nameAt l m, tickN ns m⟩
def timD (l : List Gun) (ns : List Int) (j : Nat) : List Tim := rl (fun m => timAt l ns (l.length - 1 - m)) j
theorem timD_all (l : List Gun) (ns : List Int) : timD l ns l.length = (List.range l.length).reverse.map (timAt l ns) := by
  unfold timD rl
  apply List.ext_getElem
  · simp
  · intro i h1 h2
    simp at h1 ⊢
theorem names_apart {l : List Gun} (h : strE l = 0) {i j : Nat} (hi : i < l.length) (hj : j < i) : l[j].name ≠ l[i].name := by
  intro e
  have hl := strE_len h
  unfold strE at h
  rw [if_neg (by omega), if_neg (by omega)] at h
  have hc := (firstV_zero _).1 h (gunChk l i) (List.mem_map.2 ⟨i, by simpa using hi, rfl⟩)
  rw [gunChk_at hi] at hc
  have hc2 := (firstV_zero _).1 hc
  have h2 := hc2 (if 0 ≤ atV l l[i].name i then 9 else 0) (by simp)
  have hneg : ¬ 0 ≤ atV l l[i].name i := fun h3 => by rw [if_pos h3] at h2; omega
  apply hneg
  unfold atV
  have : ((l.take i).findIdx? fun g => decide (g.name = l[i].name)).isSome = true := by
    rw [List.findIdx?_isSome]
    refine List.any_eq_true.2 ⟨l[j], ?_, by simp [e]⟩
    rw [List.mem_take_iff_getElem]
    exact ⟨j, by omega, rfl⟩
  obtain ⟨q, hq⟩ := Option.isSome_iff_exists.1 this
  rw [hq]
  simp
theorem atV_own {l : List Gun} (h : strE l = 0) {i : Nat} (hi : i < l.length) : atV l l[i].name l.length = i :=
  atV_hit (Nat.le_refl _) hi rfl fun _ hj => names_apart h hi hj
def outF (L : Nat) (ns : List Int) (k : Nat) : List Int := rl (fun j => if k ≤ j then tickN ns j else -1) L
theorem ticks_down {l : List Gun} {ns : List Int} (h : strE l = 0) (hns : ∀ x ∈ ns, 0 ≤ x ∧ x ≤ 255) : ∀ k, k ≤ l.length → ticksF l (outF l.length ns k) ((List.range k).reverse.map (timAt l ns)) = (some (rl (tickN ns) l.length), 0) := by
  intro k
  induction k with
  | zero =>
    intro _
    have e : outF l.length ns 0 = rl (tickN ns) l.length := by unfold outF; congr 1
    have hno : (-1 : Int) ∉ rl (tickN ns) l.length := fun hm => by
      obtain ⟨i, _, hi⟩ := List.mem_map.1 hm
      have := (tickN_bounds hns i).1
      omega
    simp [ticksF, e, hno, whenV]
  | succ k ih =>
    intro hk
    have hkl : k < l.length := by omega
    have hb := tickN_bounds hns k
    rw [List.range_succ, List.reverse_append]
    simp only [List.reverse_cons, List.reverse_nil, List.nil_append, List.cons_append, List.map_cons, ticksF]
    have hna : nameAt l k = l[k].name := by unfold nameAt; rw [List.getElem?_eq_getElem hkl]
    have hat : atV l (timAt l ns k).gun l.length = k := by
      show atV l (nameAt l k) l.length = k
      rw [hna]; exact atV_own h hkl
    have hget : (outF l.length ns (k + 1))[k]? = some (-1) := by
      unfold outF
      rw [List.getElem?_eq_getElem (by simpa using hkl), rl_getElem, if_neg (by omega)]
    have he : tickE l (outF l.length ns (k + 1)) (timAt l ns k) = 0 := by
      unfold tickE
      rw [hat, if_neg (by omega)]
      have : withinV (timAt l ns k).tick 0 100000 = 0 := by
        show withinV (tickN ns k) 0 100000 = 0
        unfold withinV
        rw [if_neg (by omega)]
      simp [hget, this, whenV, firstV]
    rw [if_pos he, hat]
    have hset : (outF l.length ns (k + 1)).set (k : Int).toNat (timAt l ns k).tick = outF l.length ns k := by
      show (outF l.length ns (k + 1)).set k (tickN ns k) = _
      unfold outF
      apply List.ext_getElem
      · simp
      · intro j h1 h2
        rw [List.getElem_set]
        simp only [rl_getElem]
        by_cases e : k = j
        · subst e; simp
        · rw [if_neg e]
          by_cases hkj : k ≤ j
          · rw [if_pos (by omega), if_pos hkj]
          · rw [if_neg (by omega), if_neg hkj]
    rw [hset]
    exact ih (by omega)
theorem timsV_down {l : List Gun} {ns : List Int} (h : strE l = 0) (hns : ∀ x ∈ ns, 0 ≤ x ∧ x ≤ 255) : timsV l (timD l ns l.length) = (some (rl (tickN ns) l.length), 0) := by
  unfold timsV
  rw [timD_all, ← ticks_down h hns l.length (Nat.le_refl _)]
  congr 1
  unfold outF
  apply List.ext_getElem
  · simp
  · intro i h1 h2
    simp at h1
    rw [rl_getElem, if_neg (by omega)]
    simp
theorem missN_mem (l : List Gun) (o : List Int) (lim : Int) (x : ByteArray) : ∀ k, x ∈ missN l o lim k ↔ ∃ j, j < k ∧ missB l o lim j = true ∧ nameAt l j = x
  | 0 => by simp [missN]
  | k + 1 => by
    unfold missN
    have ih := missN_mem l o lim x k
    split
    · rename_i hm
      rw [List.mem_append, ih, List.mem_singleton]
      constructor
      · rintro (⟨j, h1, h2, h3⟩ | rfl)
        · exact ⟨j, by omega, h2, h3⟩
        · exact ⟨k, by omega, hm, rfl⟩
      · rintro ⟨j, h1, h2, h3⟩
        rcases Nat.lt_or_ge j k with hj | hj
        · exact .inl ⟨j, hj, h2, h3⟩
        · obtain rfl : j = k := by omega
          exact .inr h3.symm
    · rename_i hm
      rw [ih]
      constructor
      · rintro ⟨j, h1, h2, h3⟩
        exact ⟨j, by omega, h2, h3⟩
      · rintro ⟨j, h1, h2, h3⟩
        rcases Nat.lt_or_ge j k with hj | hj
        · exact ⟨j, hj, h2, h3⟩
        · obtain rfl : j = k := by omega
          exact absurd h2 hm
theorem gun_d {l : List Gun} (h : strE l = 0) {i : Nat} (hi : i < l.length) : 0 ≤ l[i].d ∧ l[i].d ≤ 16 := by
  have hl := strE_len h
  unfold strE at h
  rw [if_neg (by omega), if_neg (by omega)] at h
  have hc := (firstV_zero _).1 h (gunChk l i) (List.mem_map.2 ⟨i, by simpa using hi, rfl⟩)
  rw [gunChk_at hi] at hc
  have h2 := (firstV_zero _).1 hc l[i].err (by simp)
  unfold Gun.err at h2
  have h3 := (firstV_zero _).1 h2 (withinV l[i].d 0 16) (by simp)
  exact (withinV_zero _ _ _).1 h3
/-- a gun is named just if it fires too early or too late -/
theorem late_mem {l : List Gun} {ns : List Int} (h : strE l = 0) (hns : ∀ x ∈ ns, 0 ≤ x ∧ x ≤ 255) (lim : Int) {i : Nat} (hi : i < l.length) :
    decide (lim < max (tickN ns i - l[i].d) (l[i].d - tickN ns i)) = hasW l[i].name (missN l (rl (tickN ns) l.length) lim l.length) := by
  have hb := tickN_bounds hns i
  have hd := gun_d h hi
  have hlv : lateV l (rl (tickN ns) l.length) i = tickN ns i - l[i].d := by
    unfold lateV
    rw [List.getElem?_eq_getElem hi, List.getElem?_eq_getElem (by simpa using hi)]
    simp only [rl_getElem]
    exact W_in (by omega) (by omega)
  have key : (l[i].name ∈ missN l (rl (tickN ns) l.length) lim l.length) ↔ missB l (rl (tickN ns) l.length) lim i = true := by
    rw [missN_mem]
    constructor
    · rintro ⟨j, h1, h2, h3⟩
      have hj : nameAt l j = l[j].name := by unfold nameAt; rw [List.getElem?_eq_getElem h1]
      rw [hj] at h3
      rcases Nat.lt_trichotomy j i with h4 | h4 | h4
      · exact absurd h3 (names_apart h hi h4)
      · subst h4; exact h2
      · exact absurd h3.symm (names_apart h h1 h4)
    · intro h2
      exact ⟨i, hi, h2, by unfold nameAt; rw [List.getElem?_eq_getElem hi]⟩
  rw [Bool.eq_iff_iff, decide_eq_true_iff, hasW_iff, key]
  unfold missB
  rw [hlv, Bool.or_eq_true, decide_eq_true_iff, decide_eq_true_iff]
  omega
theorem misR_down {l : List Gun} {ns : List Int} (h : strE l = 0) (hns : ∀ x ∈ ns, 0 ≤ x ∧ x ≤ 255) : misR l (timD l ns l.length) (tickN ns 7) = (missN l (rl (tickN ns) l.length) (tickN ns 7) l.length, 0) := by
  have hb := tickN_bounds hns 7
  have hw : withinV (tickN ns 7) 0 16 = 0 := by unfold withinV; rw [if_neg (by omega)]
  unfold misR
  rw [if_neg (by simp [h]), timsV_down h hns]
  simp [hw, firstV]
theorem retR_down {l : List Gun} {ns : List Int} (h : strE l = 0) (hns : ∀ x ∈ ns, 0 ≤ x ∧ x ≤ 255) : retR l (timD l ns l.length) = (some (retV l (rl (tickN ns) l.length)), 0) := by
  have hw : firstV (wL (rl (tickN ns) l.length)) = 0 := (firstV_zero _).2 fun x hx => by
    unfold wL at hx
    obtain ⟨y, hy, rfl⟩ := List.mem_map.1 hx
    obtain ⟨i, _, rfl⟩ := List.mem_map.1 hy
    have hb := tickN_bounds hns i
    unfold wF withinV
    rw [if_neg (by omega)]
  unfold retR
  rw [if_neg (by simp [h]), timsV_down h hns]
  simp only
  rw [hw]
  simp [firstV]
theorem retV_length (l : List Gun) (f : Nat → Int) : (retV l (rl f l.length)).length = l.length := by simp [retV]
theorem retV_get {l : List Gun} (f : Nat → Int) {i : Nat} (hi : i < l.length) (h : i < (retV l (rl f l.length)).length) : (retV l (rl f l.length))[i] = { l[i] with d := f i } := by
  simp [retV]
theorem tickS_le {s f d u e : Int} (hd : 1 ≤ d) (hu : 1 ≤ u) (he : 1 ≤ e) (i : Nat) : ∀ k : Nat, tickS s f d u e i ≤ tickS s f d u e ((i + k : Nat) : Int)
  | 0 => Int.le_refl _
  | k + 1 => by
    have h1 := tickS_le (s := s) (f := f) hd hu he i k
    have h2 := tickS_mono (s := s) (f := f) (i := ((i + k : Nat) : Int)) hd hu he
    rw [show ((i + (k + 1) : Nat) : Int) = ((i + k : Nat) : Int) + 1 by omega]
    omega
def ticksS (s f d p u e : Int) : List Int := rl (fun i : Nat => tickS s f d u e i) p.toNat
theorem ticksN_S {s f d p u e : Int} (h : lineV s f d p u e = 0) : ticksN s f d u e p.toNat = ticksS s f d p u e := by
  obtain ⟨hs, hf, hd, hp, hu, he⟩ := lineV_zero h
  unfold ticksN ticksS rl
  refine List.map_congr_left fun i hi => ?_
  have hi := List.mem_range.1 hi
  exact (tickS_bounds hs hf hd hu he (by omega)).1
theorem ticksV_S {s f d p u e : Int} (h : lineV s f d p u e = 0) : ticksV s f d p u e = if 100000 < tickS s f d u e ((p.toNat - 1 : Nat) : Int) then (none, 4) else if shortV (ticksS s f d p u e) then (none, 21) else (some (ticksS s f d p u e), 0) := by
  obtain ⟨hs, hf, hd, hp, hu, he⟩ := lineV_zero h
  unfold ticksV
  rw [if_neg (by simp [h]), ticksN_S h, (tickS_bounds hs hf hd hu he (i := ((p.toNat - 1 : Nat) : Int)) (by omega)).1]
theorem tickS_later (s f d u e i : Int) : tickS (s + 7) f d u e i = tickS s f d u e i + 7 := by unfold tickS; omega
theorem shortV_later : ∀ l : List Int, shortV (l.map (· + 7)) = shortV l
  | [] => rfl
  | [_] => rfl
  | a :: b :: l => by
    have ih := shortV_later (b :: l)
    simp only [List.map_cons, shortV] at ih ⊢
    rw [ih, show b + 7 - (a + 7) = b - a by omega]
theorem ticksV_ok {s f d p u e : Int} (h : lineV s f d p u e = 0) {t : List Int} {e' : Int} (ht : ticksV s f d p u e = (some t, e')) :
    e' = 0 ∧ t.length = p.toNat ∧ (∀ i (hi : i < t.length), t[i] = tickS s f d u e i ∧ t[i] ≤ 100000) := by
  obtain ⟨hs, hf, hd, hp, hu, he⟩ := lineV_zero h
  rw [ticksV_S h] at ht
  split at ht
  · simp at ht
  · rename_i hlast
    split at ht
    · simp at ht
    · simp only [Prod.mk.injEq, Option.some.injEq] at ht
      obtain ⟨rfl, rfl⟩ := ht
      refine ⟨rfl, by simp [ticksS], fun i hi => ?_⟩
      have hip : i < p.toNat := by simpa [ticksS] using hi
      have e1 : (ticksS s f d p u e)[i] = tickS s f d u e i := by simp [ticksS]
      rw [e1]
      have := tickS_le (s := s) (f := f) hd.1 hu.1 he.1 i (p.toNat - 1 - i)
      rw [show i + (p.toNat - 1 - i) = p.toNat - 1 by omega] at this
      exact ⟨rfl, by omega⟩
theorem later_ok {s f d p u e : Int} (h : lineV s f d p u e = 0) {t : List Int} (ht : ticksV s f d p u e = (some t, 0)) (hlast : t.length - 1 < t.length) :
    (∃ m, ticksV (s + 7) f d p u e = (some m, 0) ∧ s + 7 ≤ 100000 ∧ m.length = t.length ∧ ∀ i (h1 : i < m.length) (h2 : i < t.length), m[i] = t[i] + 7) ∨ ∃ e2, e2 ≠ 0 ∧ ticksV (s + 7) f d p u e = (none, e2) ∧ 100000 < t[t.length - 1] + 7 := by
  obtain ⟨hs, hf, hd, hp, hu, he⟩ := lineV_zero h
  obtain ⟨_, htl, htg⟩ := ticksV_ok h ht
  by_cases h7 : s + 7 ≤ 100000
  · have hl : lineV (s + 7) f d p u e = 0 := by
      refine (firstV_zero _).2 ?_
      have := (firstV_zero _).1 h
      simp [withinV_zero] at this ⊢
      omega
    have hmap : ticksS (s + 7) f d p u e = (ticksS s f d p u e).map (· + 7) := by
      unfold ticksS rl
      rw [List.map_map]
      refine List.map_congr_left fun i _ => ?_
      exact tickS_later s f d u e i
    rw [ticksV_S h] at ht
    split at ht
    · simp at ht
    · split at ht
      · simp at ht
      · rename_i hsh
        simp only [Prod.mk.injEq, Option.some.injEq, and_true] at ht
        rw [ticksV_S hl, tickS_later, hmap, shortV_later]
        by_cases hb : 100000 < tickS s f d u e ((p.toNat - 1 : Nat) : Int) + 7
        · right
          refine ⟨4, by omega, by rw [if_pos hb], ?_⟩
          rw [(htg _ hlast).1, htl]
          exact hb
        · left
          refine ⟨(ticksS s f d p u e).map (· + 7), by rw [if_neg hb, if_neg hsh], h7, by simp [ticksS, htl], fun i h1 h2 => ?_⟩
          subst ht
          simp
  · right
    have hl : lineV (s + 7) f d p u e ≠ 0 := fun hz => by
      have := lineV_zero hz
      omega
    refine ⟨_, hl, by unfold ticksV; rw [if_pos hl], ?_⟩
    obtain ⟨e1, _⟩ := htg _ hlast
    rw [e1]
    obtain ⟨⟨a1, a2⟩, b1, b2⟩ := far_bounds (i := ((t.length - 1 : Nat) : Int)) hf hd he (by omega)
    unfold tickS
    have : 0 ≤ ((f + ((t.length - 1 : Nat) : Int) * d) * e + u - 1) / u := Int.ediv_nonneg (by omega) (by omega)
    omega
theorem reach_facts {s f d u e i : Int} (_hs : 0 ≤ s ∧ s ≤ 100000) (hf : 0 ≤ f ∧ f ≤ 100000) (hd : 1 ≤ d ∧ d ≤ 100000) (hu : 1 ≤ u ∧ u ≤ 1000) (he : 1 ≤ e ∧ e ≤ 1000) (hi : 0 ≤ i ∧ i ≤ 255) :
    s ≤ tickS s f d u e i ∧ (f + i * d) * e ≤ (tickS s f d u e i - s) * u ∧ (tickS s f d u e i - 1 - s) * u < (f + i * d) * e ∧ (tickS s f d u e i - s) * u ≤ 25600001000 ∧ -1000 ≤ (tickS s f d u e i - 1 - s) * u := by
  obtain ⟨⟨a1, a2⟩, b1, b2⟩ := far_bounds hf hd he hi
  unfold tickS
  generalize (f + i * d) * e = n at *
  have h1 := Int.mul_ediv_add_emod (n + u - 1) u
  have h2 := Int.emod_nonneg (n + u - 1) (show u ≠ 0 by omega)
  have h3 := Int.emod_lt_of_pos (n + u - 1) (show 0 < u by omega)
  have h4 : 0 ≤ (n + u - 1) / u := Int.ediv_nonneg (by omega) (by omega)
  generalize (n + u - 1) / u = q at *
  generalize (n + u - 1) % u = r at *
  rw [show s + q - s = q by omega, show s + q - 1 - s = q - 1 by omega, Int.sub_mul, Int.mul_comm q u]
  generalize u * q = z at *
  refine ⟨by omega, by omega, by omega, by omega, by omega⟩
end Go.Proofs.YtndlfijfjglkdaaGreatDoor
